import Derived.Test.YtlogedcoiogagaaGreatA45
import Derived.Test.YtlogedcoiogagaaGreatK1
import Derived.Test.YtlogedcoiogagaaGreatK2
import Derived.Test.YtlogedcoiogagaaGreatK3
import Derived.Test.YtlogedcoiogagaaGreatK5
import Derived.Test.YtlogedcoiogagaaGreatQA
set_option linter.unusedSimpArgs false
set_option linter.unusedVariables false
set_option linter.unusedSectionVars false
set_option maxRecDepth 100000
namespace Go.Proofs.YtlogedcoiogagaaGreat
open Go.AM
theorem aI1{v:rO}(h:vZ v.d v.t.k v.t.p v.t.s v.t.e=true):gF (aB3 v)=1∧aMr (aB3 v)=v.t∧(aB3 v).take ((aB3 v).length-16)=v.d:=by
 refine⟨aEC h,?_,?_⟩
 ·have hm:=h
  unfold vZ at hm
  rw[Bool.and_eq_true] at hm
  obtain⟨f1,f2,f3,f4⟩:=nA (c:=more 0#32 (body v.d v.t.k v.t.p v.t.e v.t.e)) hm.2
  unfold aMr aB3
  rw[aBX]
  obtain⟨f1,f2,f3,f4⟩:=nA (c:=more 0#32 (body v.d v.t.k v.t.p v.t.s v.t.e)) hm.2
  rw[f1,f2,f3,f4]
 ·unfold aB3
  rw[kG,Nat.add_sub_cancel,aGi]
  exact List.take_left' rfl
structure Mnt (M:aC) (p:Nat) (C:aQ) (S:Ps) (A:bI) (D:Nat) (i:Nat) (P:aC) (C':aQ) (m:List iC) (sq ep:Int):Prop where
 st:dN M P p C C'
 calm:aEY C'
 bs:C'.bs=C.bs
 ops:∃ o:Nat,C'.ops=C.ops+o∧o≤i
 fl:P.get A.f=some (.cells (jF (dO A { S with seq:=sq,ep:=ep,now:=0,deg:=false })) true)
 mf:P.get A.mf=some (.map (mK m))
 mb:P.get A.mb=some (.map [])
 mp:P.get A.mp=some (.map [])
 ms:P.get A.ms=some (.map [])
 nd:(m.map (·.1)).Nodup
 lnk:∀ q:iC,q∈m→∃ (b k:Nat) (v:rO),q.1=((b:Int),(k:Int))∧b*nG S+k<i∧bK S b k=some v∧(q.2.k=v.t.k∧q.2.p=v.t.p∧q.2.s=v.t.s∧q.2.e=v.t.e)∧aL P q.2.d v.d∧q.2.d.one=true∧∀ c,aO q.2.d c→D≤c
 hav:∀ (b k:Nat) v,bK S b k=some v→b*nG S+k<i→∃ q,q∈m∧q.1=((b:Int),(k:Int))
 sqb:0≤sq∧sq≤S.seq∧∀ q:iC,q∈m→q.2.s≤sq
 epb:0≤ep∧(ep=0∨∃ q:iC,q∈m∧q.2.e=ep)∧∀ q:iC,q∈m→q.2.e≤ep
theorem Mnt.post{M:aC}{p:Nat}{C:aQ}{S:Ps}{A:bI}{D i:Nat}{P N:aC}{C':aQ}{m:List iC}{sq ep:Int}(h:Mnt M p C S A D i P C' m sq ep)(hk:aE P N []):Mnt M p C S A D i N C' m sq ep:=by
 have hw:=h.st.wf
 have g:∀ {c:Nat} {r:gT},P.get c=some r→N.get c=some r:=fun hg=>hk.get hw hg (by simp)
 refine⟨h.st.post hk,h.calm,h.bs,h.ops,g h.fl,g h.mf,g h.mb,g h.mp,g h.ms,h.nd,fun q hq=>?_,h.hav,h.sqb,h.epb⟩
 obtain⟨b,k,v,e1,e2,e3,e4,e5,e6,e7⟩:=h.lnk q hq
 exact⟨b,k,v,e1,e2,e3,e4,aP.keep0 e5 hw hk,e6,e7⟩
theorem Mnt.skip{M:aC}{p:Nat}{C:aQ}{S:Ps}{A:bI}{D i:Nat}{P:aC}{C':aQ}{m:List iC}{sq ep:Int}(h:Mnt M p C S A D i P C' m sq ep)(hno:∀ (b k:Nat) v,bK S b k=some v→b*nG S+k≠i):Mnt M p C S A D (i+1) P C' m sq ep:=by
 obtain⟨o,h1,h2⟩:=h.ops
 refine⟨h.st,h.calm,h.bs,⟨o,h1,by omega⟩,h.fl,h.mf,h.mb,h.mp,h.ms,h.nd,fun q hq=>?_,fun b k v hv hlt=>h.hav b k v hv (by have:=hno b k v hv;omega),h.sqb,h.epb⟩
 obtain⟨b,k,v,e1,e2,e3⟩:=h.lnk q hq
 exact⟨b,k,v,e1,by omega,e3⟩
theorem aM1{n a b c d:Nat}(hb:b<n)(hd:d<n)(h:a*n+b=c*n+d):a=c∧b=d:=by
 have h1:(a*n+b)/n=a:=by rw[Nat.mul_comm,Nat.mul_add_div (by omega),Nat.div_eq_of_lt hb,Nat.add_zero]
 have h2:(c*n+d)/n=c:=by rw[Nat.mul_comm,Nat.mul_add_div (by omega),Nat.div_eq_of_lt hd,Nat.add_zero]
 have:a=c:=by rw[← h1,← h2,h]
 subst this
 exact⟨rfl,by omega⟩
theorem aOB{C:aQ}{S:Ps}(hr:aFz C S)(hi:eG S){M:aC}{p:Nat}(h:bE M p C){b:Nat}(hb:b<nB S):∃ B X,C.bs[b]? =some B∧S.x[b]? =some X∧(∀ j v,X.v[j]? =some v→iR B (aU C.g) j=aB3 v)∧∀ j,X.v.length≤j→j<nG S→iR B (aU C.g) j=List.replicate (aU C.g) 255#8:=by
 have hl:C.bs.length=nB S:=by rw[h.len,hr.g];rfl
 obtain⟨X,e1,_,_,_,e5,e6⟩:=hr.blk b _ (List.getElem?_eq_getElem (by omega:b<C.bs.length))
 exact⟨_,X,List.getElem?_eq_getElem (by omega),e1,e5,e6⟩
theorem aJx(M:aC)(hw:M.WF)(p:Nat)(C:aQ)(S:Ps)(h:bE M p C)(hr:aFz C S)(hi:eG S)(ho:S.ops≤1000000000){Q:AV→aC→Prop}
 (hQ:∀ (A:bI) (N:aC) (C':aQ) (m:List iC) (sq ep:Int) (D:Nat),A.p=p→A.ft=foot p C→A.fsA=C.fsA→A.ext=[]→M.next≤A.mf→A.mb=A.mf+1→A.mp=A.mf+2→A.ms=A.mf+3→A.f=A.mf+4→D=A.mf+5→Mnt M p C S A D (nP C.g) N C' m sq ep→
  aB tb.P 47 [.ptr A.f 0,i64 (-1)] N fun y118 M119=>aB tb.P 46 [y118] M119 fun y120 M121=>aA (cC tb false 95 y120 M121) fun y122=>zI .i64 y122.1 fun z123=>∃ J124:Int→Nat→aC→Prop,(∃ n125:Nat,J124 (0:Int) n125 M121)∧
 ∀ (_:Nat→Option AV) (z126:Int) (n127:Nat) (M128:aC),J124 z126 n127 M128→
 (aD (decide (z126<z123)) (aA (bS tb 95 y120 (.val (.int .i64 z126)) M128) fun y129=>zP y129.1 fun p130 o131=>aA (aH tb 99 (.ptr p130 o131) M128) fun y132=>∃ (z133:Int) (z134:Int) (z135:Int) (z136:Int) (z137:Int) (z138:Int),y132.1=
 (.agg [(.val (.int .i64 z133)),(.val (.int .i64 z134)),(.val (.int .i64 z135)),(.val (.int .i64 z136)),(.val (.int .i64 z137)),(.val (.int .i64 z138))])∧
 (aI (M128.new (.cells [(.val (.int .i64 0)),(.val (.int .i64 0)),(.val (.int .i64 0)),(.val (.int .i64 0)),(.val (.int .i64 0)),(.val (.int .i64 0))] true)) fun M139=>aA (bZ tb 99 (.ptr M128.next 0) (.agg [(.val (.int .i64 z133)),(.val (.int .i64 z134)),(.val (.int .i64 z135)),(.val (.int .i64 z136)),(.val (.int .i64 z137)),(.val (.int .i64 z138))]) M139) fun y140=>aA (aH tb 80 (.ptr A.f 7) y140.2) fun y141=>aA (aH tb 3 (.ptr M128.next 3) y140.2) fun y142=>zI .i64 y142.1 fun z143=>aA (aH tb 79 (.ptr A.f 6) y140.2) fun y144=>aA (aH tb 85 (.ptr M128.next 0) y140.2) fun y145=>∃ (z146:Int) (z147:Int),y145.1=
 (.agg [(.val (.int .i64 z146)),(.val (.int .i64 z147))])∧
 (aA (tA tb 79 y144.1 (.agg [(.val (.int .i64 z146)),(.val (.int .i64 z147))]) false y140.2) fun y148=>∃ (z149:Int) (z150:Int) (z151:Int) (z152:Int) (x153:AV),y148.1=
 (.agg [(.val (.int .i64 z149)),(.val (.int .i64 z150)),(.val (.int .i64 z151)),(.val (.int .i64 z152)),x153])∧
 (aA (eMU tb 80 y141.1 (.val (.int .i64 z143)) x153 y140.2) fun y154=>∃ k155:Nat,k155<n127∧
 (J124 (aK .i64 z126 1) k155 y154.2))))) (aB tb.P 47 [(.ptr A.f 0),(.val (.int .i64 (-1)))] M128 fun y156 M157=>aB tb.P 48 [y156] M157 fun y158 M159=>aA (cC tb false 95 y158 M159) fun y160=>zI .i64 y160.1 fun z161=>∃ J162:Int→Nat→aC→Prop,(∃ n163:Nat,J162 (0:Int) n163 M159)∧
 ∀ (_:Nat→Option AV) (z164:Int) (n165:Nat) (M166:aC),J162 z164 n165 M166→(aD (decide (z164<z161)) (aI (fun (M185:aC)=>∃ k187:Nat,k187<n165∧
 (J162 (aK .i64 z164 1) k187 M185)) fun K186=>aA (bS tb 95 y158 (.val (.int .i64 z164)) M166) fun y167=>zP y167.1 fun p168 o169=>aA (aH tb 99 (.ptr p168 o169) M166) fun y170=>∃ (z171:Int) (z172:Int) (z173:Int) (z174:Int) (z175:Int) (z176:Int),y170.1=
 (.agg [(.val (.int .i64 z171)),(.val (.int .i64 z172)),(.val (.int .i64 z173)),(.val (.int .i64 z174)),(.val (.int .i64 z175)),(.val (.int .i64 z176))])∧
 (aI (M166.new (.cells [(.val (.int .i64 0)),(.val (.int .i64 0)),(.val (.int .i64 0)),(.val (.int .i64 0)),(.val (.int .i64 0)),(.val (.int .i64 0))] true)) fun M177=>aA (bZ tb 99 (.ptr M166.next 0) (.agg [(.val (.int .i64 z171)),(.val (.int .i64 z172)),(.val (.int .i64 z173)),(.val (.int .i64 z174)),(.val (.int .i64 z175)),(.val (.int .i64 z176))]) M177) fun y178=>aA (aH tb 3 (.ptr M166.next 2) y178.2) fun y179=>zI .i64 y179.1 fun z180=>aD (z180 !=
 (3:Int)) (aA (aH tb 81 (.ptr A.f 9) y178.2) fun y181=>aA (aH tb 3 (.ptr M166.next 3) y178.2) fun y182=>zI .i64 y182.1 fun z183=>aA (eMU tb 81 y181.1 (.val (.int .i64 z183)) (.val (.bool true)) y178.2) fun y184=>K186 y184.2) (K186 y178.2))) (aB tb.P 49 [(.ptr A.f 0)] M166 fun y188 M189=>zI .i64 y188 fun z190=>Q (.tup [(.ptr A.f 0),(.val (.int .i64 0))]) M189))))):
  aB tb.P 12 [.ptr p 0] M Q:=by
 have hmay:fU C.g=true:=h.may
 obtain⟨hn1,hnP,_,hpg0,hpg4,hpg8,_,_⟩:=aAU hmay
 have hnGg:nG S=C.g.pg.toNat:=by unfold nG;rw[← hr.g]
 have hnBg:nB S=C.g.bl.toNat:=by unfold nB;rw[← hr.g]
 refine aPa ?_
 unfold F12
 refine aG aCA ?_
 simp only[cK]
 refine aS (fun h=>by simp at h) (fun _=>?_)
 refine (aK1 M hw p C h).mono ?_
 rintro y M4 ⟨rfl,hM4⟩
 rw[hM4,hr.calm.off]
 simp only[cK,Bool.not_false,Bool.not_true,gE]
 refine (aQW M hw p C h).mono ?_
 rintro y M7 ⟨rfl,hk7⟩
 refine⟨_,_,_,_,_,rfl,?_⟩
 have h7:=h.keep hw hk7
 refine bG fun M13 hM13=>?_
 have e13:M13=M7.new (.map []):=hM13
 have hk13:aE M7 M13 []:=by rw[e13];exact aE.new hk7.wf _
 have g13:M13.get M7.next=some (.map []):=by rw[e13];exact get_new _ _
 have n13:M13.next=M7.next+1:=by rw[e13];rfl
 clear hM13 e13
 refine bG fun M14 hM14=>?_
 have e14:M14=M13.new (.map []):=hM14
 have hk14:aE M13 M14 []:=by rw[e14];exact aE.new hk13.wf _
 have g14:M14.get M13.next=some (.map []):=by rw[e14];exact get_new _ _
 have n14:M14.next=M13.next+1:=by rw[e14];rfl
 clear hM14 e14
 refine bG fun M15 hM15=>?_
 have e15:M15=M14.new (.map []):=hM15
 have hk15:aE M14 M15 []:=by rw[e15];exact aE.new hk14.wf _
 have g15:M15.get M14.next=some (.map []):=by rw[e15];exact get_new _ _
 have n15:M15.next=M14.next+1:=by rw[e15];rfl
 clear hM15 e15
 refine bG fun M16 hM16=>?_
 have e16:M16=M15.new (.map []):=hM16
 have hk16:aE M15 M16 []:=by rw[e16];exact aE.new hk15.wf _
 have g16:M16.get M15.next=some (.map []):=by rw[e16];exact get_new _ _
 have n16:M16.next=M15.next+1:=by rw[e16];rfl
 clear hM16 e16
 have hbd:hZ tb 83 [(0,.ptr p 0),(1,jV C.g),(2,.map M7.next),(3,.map M13.next),(4,.map M14.next),(5,.map M15.next)]=some (.agg (jF ⟨.ptr p 0,C.g,M7.next,M13.next,M14.next,M15.next,0,0,0,false⟩)):=by
  unfold hZ
  rw[aBb]
  rfl
 refine aG (qT hbd) ?_
 refine⟨_,_,_,_,_,_,_,_,_,_,_,_,_,_,rfl,?_⟩
 obtain⟨A,hA⟩:∃ A:bI,A=⟨M16.next,p,M7.next,M13.next,M14.next,M15.next,foot p C,C.fsA,[]⟩:=⟨_,rfl⟩
 have hAf:M16.next=A.f:=by rw[hA]
 have hAm:M7.next=A.mf:=by rw[hA]
 have hAb:M13.next=A.mb:=by rw[hA]
 have hAp:M14.next=A.mp:=by rw[hA]
 have hAs:M15.next=A.ms:=by rw[hA]
 have hfl0:jF ⟨.ptr p 0,C.g,M7.next,M13.next,M14.next,M15.next,0,0,0,false⟩=jF (dO A { S with seq:=0,ep:=0,now:=0,deg:=false }):=by rw[hA,hr.g];rfl
 refine bG fun M32 hM32=>?_
 have e32:M32=M16.new (.cells (jF (dO A { S with seq:=0,ep:=0,now:=0,deg:=false })) true):=by rw[← hfl0];exact hM32
 have hk32:aE M16 M32 []:=by rw[e32];exact aE.new hk16.wf _
 have g32:M32.get M16.next=some (.cells (jF (dO A { S with seq:=0,ep:=0,now:=0,deg:=false })) true):=by rw[e32];exact get_new _ _
 have n32:M32.next=M16.next+1:=by rw[e32];rfl
 clear hM32 e32
 refine bG fun M33 hM33=>?_
 have e33:M33=M32.new (.cells [i64 0,i64 0] true):=hM33
 have hk33:aE M32 M33 []:=by rw[e33];exact aE.new hk32.wf _
 have g33:M33.get M32.next=some (.cells [i64 0,i64 0] true):=by rw[e33];exact get_new _ _
 clear hM33 e33
 have hn7:M.next≤M7.next:=hk7.nxt
 have hKa:=hk7.trans0 (hk13.trans0 (hk14.trans0 (hk15.trans0 (hk16.trans0 (hk32.trans0 hk33)))))
 have m1:=(hk14.trans0 (hk15.trans0 (hk16.trans0 (hk32.trans0 hk33)))).get hk13.wf g13 (by simp)
 have m2:=(hk15.trans0 (hk16.trans0 (hk32.trans0 hk33))).get hk14.wf g14 (by simp)
 have m3:=(hk16.trans0 (hk32.trans0 hk33)).get hk15.wf g15 (by simp)
 have m4:=(hk32.trans0 hk33).get hk16.wf g16 (by simp)
 have m5:=hk33.get hk32.wf g32 (by simp)
 have hst:=fO (M:=M33) (b:=M32.next) 0 0 g33 rfl
 refine aG hst ?_
 have hkp:aE M (M33.put M32.next (.cells [i64 0,i64 0] true)) []:=yN hKa (by omega) (hk33.wf _ _ g33) _
 have hfo:∀ c∈foot p C,c<M.next:=fun c hm=>h.lt hw c hm
 rw[hAf] at m5 n32 ⊢
 rw[hAm] at m1 hn7 n13
 rw[hAb] at m2 n14
 rw[hAp] at m3 n15
 rw[hAs] at m4 n16
 rw[hAf] at n16
 have hQ':=hQ A
 have hseq0:=hi.seq
 refine⟨fun x b n P=>∃ (C':aQ) (m:List iC) (sq ep:Int) (a i:Nat) (u v:Int),x= .ptr a 0∧P.get a=some (.cells [i64 u,i64 v] true)∧M32.next≤a∧i≤nP C.g∧n=nP C.g-i∧Mnt M p C S A M32.next i P C' m sq ep∧((b=true∧i<nP C.g∧u=mU C.g i∧v=mR C.g i)∨(b=false∧i=nP C.g)),?_,?_⟩
 ·have hP:∀ (c:Nat) (r:gT),c<M32.next→M33.get c=some r→(M33.put M32.next (.cells [i64 0,i64 0] true)).get c=some r:=fun c r hlt hg=>by rw[aC.get_put,if_neg (by omega)];exact hg
  refine⟨nP C.g,C,[],0,0,M32.next,0,0,0,rfl,by rw[aC.get_put,if_pos rfl],Nat.le_refl _,Nat.zero_le _,rfl,⟨dN.of0 hw h hkp,hr.calm,rfl,⟨0,by omega,Nat.le_refl _⟩,hP _ _ (by omega) m5,hP _ _ (by omega) m1,hP _ _ (by omega) m2,hP _ _ (by omega) m3,hP _ _ (by omega) m4,List.nodup_nil,fun q hq=>by simp at hq,fun b k v hv hlt=>by omega,⟨Int.le_refl _,hseq0.1,fun q hq=>by simp at hq⟩,⟨Int.le_refl _,.inl rfl,fun q hq=>by simp at hq⟩⟩,.inl ⟨rfl,hn1,?_,?_⟩⟩
  ·simp[mU]
  ·simp[mR]
 rintro _ x b n P ⟨C',m,sq,ep,a,i,u,v,rfl,ha,hal,hile,rfl,hm,hcase⟩
 have hg':C'.g=C.g:=hm.st.g
 refine aS (fun hb1=>?_) (fun hb0=>?_)
 ·obtain⟨_,hi',rfl,rfl⟩:b=true∧i<nP C.g∧u=mU C.g i∧v=mR C.g i:=by
   rcases hcase with hx|⟨hx,_⟩
   ·exact hx
   ·rw[hb1] at hx;cases hx
  obtain⟨hisG,hpB,hpK,hnum⟩:=aJn hmay hi'
  have hverAt:∀ (b k:Nat) w,bK S b k=some w→b*nG S+k=i→b=mU C.g i∧k=mR C.g i:=fun b k w hv e=>by
   have hk:=cU hv
   have hpg:=hi.pgs b
   rw[hnGg] at e hpg
   exact aM1 (by omega) hpK (by omega)
  have hnum':mU C.g i*nG S+mR C.g i=i:=by rw[hnGg];exact hnum
  refine bG fun K96 hK96=>?_
  have next:∀ (N:aC) (D:aQ) (m':List iC) (sq' ep':Int),Mnt M p C S A M32.next (i+1) N D m' sq' ep'→N.get a=some (.cells [i64 (mU C.g i:Int),i64 (mR C.g i:Int)] true)→M32.next≤N.next→K96 N:=by
   intro N D m' sq' ep' hmN ga hnn
   rw[hK96]
   obtain⟨_,_,l2⟩:=bQ ga
   refine aG (aR l2) ?_
   refine⟨_,_,rfl,?_⟩
   refine bG fun M100 h100=>?_
   have e100:M100=N.new (.cells [i64 0,i64 0] true):=h100
   have hk100:aE N M100 []:=by rw[e100];exact aE.new hmN.st.wf _
   have g100:M100.get N.next=some (.cells [i64 0,i64 0] true):=by rw[e100];exact get_new _ _
   clear h100 e100
   refine aG (fO (mU C.g i) (mR C.g i) g100 rfl) ?_
   have hk101:aE N (M100.put N.next (.cells [i64 (mU C.g i:Int),i64 (mR C.g i:Int)] true)) []:=yN hk100 (Nat.le_refl _) (hk100.wf _ _ g100) _
   have g101:(M100.put N.next (.cells [i64 (mU C.g i:Int),i64 (mR C.g i:Int)] true)).get N.next=some (.cells [i64 (mU C.g i:Int),i64 (mR C.g i:Int)] true):=by rw[aC.get_put,if_pos rfl]
   revert hk101 g101
   generalize M100.put N.next (.cells [i64 (mU C.g i:Int),i64 (mR C.g i:Int)] true)=M101
   intro hk101 g101
   have hm101:=hmN.post hk101
   have l40:aH tb 23 (.ptr A.f 1) M101=some (jV C.g,M101):=by
    have:=aR (T:=tb) (eC (n:=5) (o:=1) aIg rfl rfl hm101.fl (by simp[jF]))
    rw[this,hr.g]
    rfl
   simp only
   refine aG l40 ?_
   refine⟨_,_,_,_,_,rfl,?_⟩
   refine aG (aR (bQ g101).2.2) ?_
   refine⟨_,_,rfl,?_⟩
   refine (aOL M101 hk101.wf C.g hmay i hi').mono ?_
   rintro y M112 ⟨hk112,hy⟩
   have g112:=hk112.get hk101.wf g101 (by simp)
   have hkN:=hk101.trans0 hk112
   have fin:∀ x' y':Int,aE N (M112.put N.next (.cells [i64 x',i64 y'] true)) []:=fun x' y'=>yN hkN (Nat.le_refl _) (hk112.wf _ _ g112) _
   rcases hy with⟨hi1,rfl⟩|⟨hi1,rfl⟩
   ·refine⟨_,_,_,rfl,?_⟩
    refine aG (fO _ _ g112 rfl) ?_
    exact⟨nP C.g-(i+1),by omega,D,m',sq',ep',N.next,i+1,_,_,rfl,by rw[aC.get_put,if_pos rfl],hnn,by omega,rfl,hmN.post (fin _ _),.inl ⟨rfl,hi1,rfl,rfl⟩⟩
   ·refine⟨_,_,_,rfl,?_⟩
    refine aG (fO _ _ g112 rfl) ?_
    exact⟨nP C.g-(i+1),by omega,D,m',sq',ep',N.next,i+1,_,_,rfl,by rw[aC.get_put,if_pos rfl],hnn,by omega,rfl,hmN.post (fin _ _),.inr ⟨rfl,hi1⟩⟩
  clear hK96
  refine aG (aKm a) ?_
  simp only[bR]
  refine aG (aR (bQ ha).1) ?_
  simp only[i64,aJ]
  refine (aGO P hm.st.wf p C' hm.st.at' _).mono ?_
  rintro y M47 ⟨rfl,hk47⟩
  simp only[cK]
  have hltP:M32.next≤P.next:=Nat.le_of_lt (Nat.lt_of_le_of_lt hal (hm.st.wf _ _ ha))
  have hm47:=hm.post hk47
  have ha47:=hk47.get hm.st.wf ha (by simp)
  refine aS (fun hbad=>?_) (fun _=>?_)
  ·rw[hm.st.fs,hr.fs] at hbad
   have hu0:=hi.bad (mU C.g i) hbad
   refine next M47 C' m sq ep (hm47.skip fun b k w hv e=>?_) ha47 (Nat.le_trans hltP hk47.nxt)
   obtain⟨rfl,rfl⟩:=hverAt b k w hv e
   have:=cU hv
   omega
  refine aG (aR (bQ ha47).2.2) ?_
  refine⟨_,_,rfl,?_⟩
  refine (aPC M47 hm47.st.wf p C' hm47.st.at' _ _).mono ?_
  rintro y M53 ⟨ux,rfl,hux,fux,s53⟩
  refine⟨_,_,_,_,_,_,rfl,?_⟩
  obtain⟨rd1,rd2,rd3⟩:=aLW hm.calm (i:=i) (by rw[hg'];exact hmay) (by rw[hg'];exact hi')
  rw[hg'] at rd1 rd2 rd3
  rw[aIH hg' hm.bs] at rd2
  rw[rd1,rd2] at hux ⊢
  obtain⟨B,X,b1,b2,b3,b4⟩:=aOB hr hi h (b:=mU C.g i) (by omega)
  have hpgI:pgI C i=iR B (aU C.g) (mR C.g i):=by unfold pgI;rw[b1]
  have hft:foot p C'=foot p C:=hm.st.foot
  have s53':dN M M53 p C (yB C' (mU C.g i) (mR C.g i)):=hm47.st.trans s53
  have hAfM:M.next≤A.mf:=hn7
  have k53:∀ (c:Nat) (r:gT),M.next≤c→M47.get c=some r→M53.get c=some r:=fun c r hc' hg=>tN s53 hm47.st.wf hg (fun hmm=>by rw[hft] at hmm;have:=hfo c hmm;omega)
  have hrs:=aJI C' (mU C.g i) (mR C.g i)
  have hops:∃ o':Nat,(yB C' (mU C.g i) (mR C.g i)).ops=C.ops+o'∧o'≤i+1:=by
   obtain⟨o,ho1,ho2⟩:=hm.ops
   have hCo:=hr.ops
   unfold yB
   split
   ·rw[hm.calm.bg.2.1]
    refine⟨o+1,?_,by omega⟩
    show aK .i64 C'.ops 1=_
    rw[ib (by omega)]
    omega
   ·exact⟨o,ho1,by omega⟩
  have hm53:Mnt M p C S A M32.next i M53 C' m sq ep→True:=fun _=>trivial
  have datK:∀ q:iC,q∈m→∀ d,aL M47 q.2.d d→(∀ c,aO q.2.d c→M32.next≤c)→aL M53 q.2.d d:=fun q hq d hd hc=>aP.keep hd hm47.st.wf s53.keep fun c hcc hmm=>by
   rw[hft] at hmm
   have:=hfo c hmm
   have:=hc c hcc
   omega
  refine bG fun M60 h60=>?_
  have e60:M60=M53.new (.cells (jJ tg0) true):=h60
  have hk60:aE M53 M60 []:=by rw[e60];exact aE.new s53.wf _
  have g60:M60.get M53.next=some (.cells (jJ tg0) true):=by rw[e60];exact get_new _ _
  clear h60 e60 hm53
  generalize hT:lkT 0 (pgI C i)=T at*
  refine aG (xS T g60 rfl) ?_
  have hk61:aE M53 (M60.put M53.next (.cells (jJ T) true)) []:=yN hk60 (Nat.le_refl _) (hk60.wf _ _ g60) _
  have g61:(M60.put M53.next (.cells (jJ T) true)).get M53.next=some (.cells (jJ T) true):=by rw[aC.get_put,if_pos rfl]
  revert hk61 g61
  generalize M60.put M53.next (.cells (jJ T) true)=M61
  intro hk61 g61
  have k61:∀ (c:Nat) (r:gT),M.next≤c→M47.get c=some r→M61.get c=some r:=fun c r hc' hg=>hk61.get s53.wf (k53 _ _ hc' hg) (by simp)
  have hMle:∀ c:Nat,A.mf≤c→M.next≤c:=fun c hc=>Nat.le_trans hn7 hc
  have hm61:Mnt M p C S A M32.next i M61 (yB C' (mU C.g i) (mR C.g i)) m sq ep→True:=fun _=>trivial
  clear hm61
  have hst61:=s53'.post hk61
  have hbs61:(yB C' (mU C.g i) (mR C.g i)).bs=C.bs:=hrs.2.2.trans hm.bs
  have fl61:=k61 _ _ (hMle _ (by omega)) hm47.fl
  have mf61:=k61 _ _ (hMle _ (Nat.le_refl _)) hm47.mf
  have mb61:=k61 _ _ (hMle _ (by omega)) hm47.mb
  have mp61:=k61 _ _ (hMle _ (by omega)) hm47.mp
  have ms61:=k61 _ _ (hMle _ (by omega)) hm47.ms
  have ha61:=k61 _ _ (by omega) ha47
  have hn61:M32.next≤M61.next:=Nat.le_trans hltP (Nat.le_trans hk47.nxt (Nat.le_trans s53.keep.nxt hk61.nxt))
  have lnk61:∀ q:iC,q∈m→∃ (b k:Nat) (v:rO),q.1=((b:Int),(k:Int))∧b*nG S+k<i∧bK S b k=some v∧(q.2.k=v.t.k∧q.2.p=v.t.p∧q.2.s=v.t.s∧q.2.e=v.t.e)∧aL M61 q.2.d v.d∧q.2.d.one=true∧∀ c,aO q.2.d c→M32.next≤c:=fun q hq=>by
   obtain⟨b,k,w,e1,e2,e3,e4,e5,e6,e7⟩:=hm47.lnk q hq
   exact⟨b,k,w,e1,e2,e3,e4,aP.keep0 (datK q hq _ e5 e7) s53.wf hk61,e6,e7⟩
  refine bG fun K94 hK94=>?_
  simp only
  cases hvv:X.v[mR C.g i]? with
  | some w=>
    have hver:bK S (mU C.g i) (mR C.g i)=some w:=hU.2 ⟨X,b2,hvv⟩
    have htag:=hi.tag _ _ _ hver
    have hpage:pgI C i=aB3 w:=hpgI.trans (b3 _ _ hvv)
    obtain⟨l1,l2,l3⟩:=aI1 htag.1
    have hld:ldE 0 (pgI C i)=0:=by unfold ldE;rw[if_pos rfl,hpage,l1];rfl
    have hTw:T=w.t:=by rw[← hT,hpage];unfold lkT;rw[if_pos ⟨rfl,l1⟩,l2]
    have hDw:lkD 0 (pgI C i)=w.d:=by rw[hpage];unfold lkD;rw[if_pos ⟨rfl,l1⟩,l3]
    rw[hDw] at hux
    subst hTw
    rw[hld]
    simp only[beq_self_eq_true,gU]
    have hd0:0<w.d.length:=by have:=(iJ htag.1).1;omega
    have hux61:aL M61 ux w.d:=aP.keep0 hux.at s53.wf hk61
    have fux':∀ c,aO ux c→M32.next≤c:=fun c hc=>by
     have h1:=fux c hc
     have h2:=hk47.nxt
     omega
    have hux1:ux.one=true∧∃ b' o' n' c' e',ux= .sl b' o' n' c' e':=by
     rcases hux with⟨rfl,he⟩|⟨b',he,_⟩
     ·rw[he] at hd0;simp at hd0
     ·rw[he];exact⟨rfl,_,_,_,_,_,rfl⟩
    refine aG (aR (dI aCh rfl fl61 (o:=6) (v:= .map A.mf) rfl)) ?_
    refine aG (aR (bQ ha61).2.2) ⟨_,_,rfl,?_⟩
    refine aG (aR (aBC g61)) ⟨_,_,_,_,rfl,?_⟩
    have hbd2:eBd tb 94 [(0,tgA w.t),(1,ux)] M61=some (pgA ⟨w.t.k,w.t.p,w.t.s,w.t.e,ux⟩,M61):=by
     obtain⟨_,b',o',n',c',e',hsl⟩:=hux1
     refine qT ?_
     unfold hZ
     rw[aJM,hsl]
     rfl
    refine aG hbd2 ⟨_,_,_,_,_,rfl,?_⟩
    have hno:∀ q∈m,q.1≠((mU C.g i:Int),(mR C.g i:Int)):=fun q hq e=>by
     obtain⟨b',k',w',e1,e2,e3,_⟩:=lnk61 q hq
     rw[e] at e1
     injection e1 with e1 e1'
     have h1:mU C.g i=b':=by omega
     have h2:mR C.g i=k':=by omega
     rw[← h1,← h2,hnum'] at e2
     omega
    obtain⟨m',p1,p2,p3,_⟩:=aH1 uU (show M61.get A.mf=some (.map (mG uX pgA m)) from mf61) hm.nd ((mU C.g i:Int),(mR C.g i:Int)) (⟨w.t.k,w.t.p,w.t.s,w.t.e,ux⟩:Pg)
    refine aG p1 ?_
    have hmfl:A.mf<M61.next:=hst61.wf _ _ mf61
    have kp:aE M61 (M61.put A.mf (.map (mG uX pgA m'))) [A.mf]:=aE.put hst61.wf hmfl _
    have hne:∀ c,c≠A.mf→∀ r,M61.get c=some r→(M61.put A.mf (.map (mG uX pgA m'))).get c=some r:=fun c hc r hg=>by rw[aC.get_put,if_neg hc];exact hg
    have fl77:=hne _ (by omega) _ fl61
    have g77:=hne _ (fun e=>by have:=s53.keep.nxt;have:=hk47.nxt;omega) _ g61
    have mf77:(M61.put A.mf (.map (mG uX pgA m'))).get A.mf=some (.map (mK m')):=by rw[aC.get_put,if_pos rfl];rfl
    have mb77:=hne _ (by omega) _ mb61
    have mp77:=hne _ (by omega) _ mp61
    have ms77:=hne _ (by omega) _ ms61
    have ha77:=hne _ (by omega) _ ha61
    have n77:(M61.put A.mf (.map (mG uX pgA m'))).next=M61.next:=rfl
    generalize M61.put A.mf (.map (mG uX pgA m'))=M77 at*
    have hflg:∀ (sq ep:Int) (N:aC),N.get A.f=some (.cells (jF (dO A { S with seq:=sq,ep:=ep,now:=0,deg:=false })) true)→aH tb 3 (.ptr A.f 10) N=some (.val (.int .i64 sq),N)∧aH tb 3 (.ptr A.f 11) N=some (.val (.int .i64 ep),N):=fun sq ep N hg=>⟨aR (dI dR rfl hg rfl),aR (dI dR rfl hg rfl)⟩
    refine aG (hflg _ _ _ fl77).1 ?_
    simp only[aJ]
    refine aG (aR (dI dR rfl g77 (o:=2) (v:=i64 w.t.s) rfl)) ?_
    simp only[i64,aJ]
    refine aG (uN _ _ _) ?_
    simp only[aJ]
    refine aG (hflg _ _ _ fl77).2 ?_
    simp only[aJ]
    refine aG (aR (dI dR rfl g77 (o:=3) (v:=i64 w.t.e) rfl)) ?_
    simp only[i64,aJ]
    refine aG (uN _ _ _) ?_
    simp only[aJ]
    refine aG (lM (cO dR rfl rfl fl77 (by simp[jF]))) ?_
    have es1:(jF (dO A { S with seq:=sq,ep:=ep,now:=0,deg:=false })).set 10 (.val (.int .i64 (max sq w.t.s)))=jF (dO A { S with seq:=max sq w.t.s,ep:=ep,now:=0,deg:=false }):=rfl
    rw[es1]
    have hAflt:A.f<M77.next:=kp.wf _ _ fl77
    have kf1:aE M77 (M77.put A.f (.cells (jF (dO A { S with seq:=max sq w.t.s,ep:=ep,now:=0,deg:=false })) true)) [A.f]:=aE.put kp.wf hAflt _
    have fl78:(M77.put A.f (.cells (jF (dO A { S with seq:=max sq w.t.s,ep:=ep,now:=0,deg:=false })) true)).get A.f=some (.cells (jF (dO A { S with seq:=max sq w.t.s,ep:=ep,now:=0,deg:=false })) true):=by rw[aC.get_put,if_pos rfl]
    have h53f:M53.next≠A.f:=fun e=>by have:=s53.keep.nxt;have:=hk47.nxt;omega
    have g78:(M77.put A.f (.cells (jF (dO A { S with seq:=max sq w.t.s,ep:=ep,now:=0,deg:=false })) true)).get M53.next=some (.cells (jJ w.t) true):=by rw[aC.get_put,if_neg h53f];exact g77
    have n78:(M77.put A.f (.cells (jF (dO A { S with seq:=max sq w.t.s,ep:=ep,now:=0,deg:=false })) true)).next=M77.next:=rfl
    generalize M77.put A.f (.cells (jF (dO A { S with seq:=max sq w.t.s,ep:=ep,now:=0,deg:=false })) true)=M78 at*
    refine⟨aG (aR (dI dR rfl g78 (o:=3) (v:=i64 w.t.e) rfl)) rfl,?_⟩
    refine aG (lM (cO dR rfl rfl fl78 (by simp[jF]))) ?_
    have es2:(jF (dO A { S with seq:=max sq w.t.s,ep:=ep,now:=0,deg:=false })).set 11 (.val (.int .i64 (max ep w.t.e)))=jF (dO A { S with seq:=max sq w.t.s,ep:=max ep w.t.e,now:=0,deg:=false }):=rfl
    rw[es2]
    have kf2:aE M78 (M78.put A.f (.cells (jF (dO A { S with seq:=max sq w.t.s,ep:=max ep w.t.e,now:=0,deg:=false })) true)) [A.f]:=aE.put kf1.wf (by omega) _
    have fl79:(M78.put A.f (.cells (jF (dO A { S with seq:=max sq w.t.s,ep:=max ep w.t.e,now:=0,deg:=false })) true)).get A.f=some (.cells (jF (dO A { S with seq:=max sq w.t.s,ep:=max ep w.t.e,now:=0,deg:=false })) true):=by rw[aC.get_put,if_pos rfl]
    have n79:(M78.put A.f (.cells (jF (dO A { S with seq:=max sq w.t.s,ep:=max ep w.t.e,now:=0,deg:=false })) true)).next=M78.next:=rfl
    generalize M78.put A.f (.cells (jF (dO A { S with seq:=max sq w.t.s,ep:=max ep w.t.e,now:=0,deg:=false })) true)=M79 at*
    rw[hK94]
    dsimp only
    have kall:aE M61 M79 [A.mf,A.f]:=(kp.trans kf1 (fun c hc _=>by simp at hc;simp[hc]) (fun c hc _=>by simp at hc;simp[hc])).trans kf2 (fun _ h _=>h) (fun c hc _=>by simp at hc;simp[hc])
    have oth:∀ c,c≠A.mf→c≠A.f→∀ r,M61.get c=some r→M79.get c=some r:=fun c h1 h2 r hg=>kall.get hst61.wf hg (by simp[h1,h2])
    have mf79:M79.get A.mf=some (.map (mK m')):=(kf1.trans kf2 (fun _ h _=>h) (fun _ h _=>h)).get kp.wf mf77 (by simp;omega)
    have hdat:∀ (x:AV) (d:dE),aL M61 x d→(∀ c,aO x c→M32.next≤c)→aL M79 x d:=fun x d hx hc=>aP.keep hx hst61.wf kall fun c hcc hmm=>by
     have:=hc c hcc
     simp at hmm
     omega
    have st79:dN M M79 p C (yB C' (mU C.g i) (mR C.g i)):=by
     have k1:=hst61.at'.keepS hst61.wf kall fun c hc=>by
      have hcA:A.mf≤c∧c≤A.f:=by simp at hc;omega
      refine⟨fun hmm=>?_,fun hmm=>?_⟩
      ·rw[hst61.foot] at hmm
       have:=hfo c hmm
       omega
      ·rw[hst61.fsA] at hmm
       have:=aP.blk_lt h.flt hw hmm
       omega
     refine⟨k1,hst61.keep.trans kall (fun _ h _=>h) (fun c hc hlt=>?_),hst61.foot,hst61.fsA,hst61.fs,hst61.g⟩
     have hcA:A.mf≤c∧c≤A.f:=by simp at hc;omega
     omega
    refine next M79 _ m' (max sq w.t.s) (max ep w.t.e) ⟨st79,rd3,hbs61,hops,fl79,mf79,oth _ (by omega) (by omega) _ mb61,oth _ (by omega) (by omega) _ mp61,oth _ (by omega) (by omega) _ ms61,p2,fun q hq=>?_,fun b k v hv hlt=>?_,?_,?_⟩ (oth _ (by omega) (by omega) _ ha61) (by omega)
    ·rcases (p3 q).1 hq with rfl|⟨hq,_⟩
     ·exact⟨mU C.g i,mR C.g i,w,rfl,by omega,hver,⟨rfl,rfl,rfl,rfl⟩,hdat _ _ hux61 fux',hux1.1,fux'⟩
     ·obtain⟨b,k,w',e1,e2,e3,e4,e5,e6,e7⟩:=lnk61 q hq
      exact⟨b,k,w',e1,by omega,e3,e4,hdat _ _ e5 e7,e6,e7⟩
    ·by_cases e:b*nG S+k=i
     ·obtain⟨rfl,rfl⟩:=hverAt b k v hv e
      exact⟨_,(p3 _).2 (.inl rfl),rfl⟩
     ·obtain⟨q,hq,e1⟩:=hm.hav b k v hv (by omega)
      exact⟨q,(p3 _).2 (.inr ⟨hq,hno q hq⟩),e1⟩
    ·obtain⟨s1,s2,s3⟩:=hm.sqb
     have s4:=hi.sq.le _ _ _ hver
     refine⟨by omega,by omega,fun q hq=>?_⟩
     rcases (p3 q).1 hq with rfl|⟨hq,_⟩
     ·exact Int.le_max_right _ _
     ·exact Int.le_trans (s3 q hq) (Int.le_max_left _ _)
    ·obtain⟨s1,s2,s3⟩:=hm.epb
     refine⟨by omega,?_,fun q hq=>?_⟩
     ·by_cases e:ep≤w.t.e
      ·exact .inr ⟨_,(p3 _).2 (.inl rfl),by show w.t.e=_;omega⟩
      ·have e':max ep w.t.e=ep:=by omega
       rw[e']
       rcases s2 with s2|⟨q,hq,s2⟩
       ·exact .inl s2
       ·exact .inr ⟨q,(p3 _).2 (.inr ⟨hq,hno q hq⟩),s2⟩
     ·rcases (p3 q).1 hq with rfl|⟨hq,_⟩
      ·exact Int.le_max_right _ _
      ·exact Int.le_trans (s3 q hq) (Int.le_max_left _ _)
  | none=>
    have hlen:X.v.length≤mR C.g i:=by
     rw[List.getElem?_eq_none_iff] at hvv
     exact hvv
    have hpage:pgI C i=List.replicate (aU C.g) 255#8:=hpgI.trans (b4 _ hlen (by omega))
    have hraw:40≤aU C.g∧aU C.g≤80:=by
     have:=bL.1 hmay
     unfold aU
     omega
    have hld:ldE 0 (pgI C i)=5:=by unfold ldE;rw[if_pos rfl,hpage,aDV hraw.1 hraw.2];rfl
    rw[hld]
    refine aS (fun h5=>by simp at h5) (fun _=>?_)
    refine aS (fun _=>?_) (fun h5=>by simp at h5)
    rw[hK94]
    have hm61:Mnt M p C S A M32.next i M61 (yB C' (mU C.g i) (mR C.g i)) m sq ep→Mnt M p C S A M32.next (i+1) M61 (yB C' (mU C.g i) (mR C.g i)) m sq ep:=fun hx=>hx.skip fun b k w' hv e=>by
     obtain⟨rfl,rfl⟩:=hverAt b k w' hv e
     obtain⟨X',x1,x2⟩:=hU.1 hv
     rw[b2] at x1
     injection x1 with x1
     subst x1
     rw[hvv] at x2;cases x2
    refine next M61 _ m sq ep ⟨hst61,rd3,hbs61,hops,fl61,mf61,mb61,mp61,ms61,hm.nd,fun q hq=>?_,fun b k v hv hlt=>?_,hm.sqb,hm.epb⟩ ha61 hn61
    ·obtain⟨b,k,w',e1,e2,e3⟩:=lnk61 q hq
     exact⟨b,k,w',e1,by omega,e3⟩
    ·refine hm.hav b k v hv ?_
     by_cases e:b*nG S+k=i
     ·obtain⟨rfl,rfl⟩:=hverAt b k v hv e
      obtain⟨X',x1,x2⟩:=hU.1 hv
      rw[b2] at x1
      injection x1 with x1
      subst x1
      rw[hvv] at x2;cases x2
     ·omega
 ·obtain⟨_,rfl⟩:b=false∧i=nP C.g:=by
   rcases hcase with⟨hx,_⟩|hx
   ·rw[hb0] at hx;cases hx
   ·exact hx
  refine hQ A P C' m sq ep M32.next (by rw[hA]) (by rw[hA]) (by rw[hA]) (by rw[hA]) hn7 (by omega) (by omega) (by omega) (by omega) (by omega) hm
set_option maxRecDepth 100000
theorem aKJ:MT 81 3 4 i64 unA (bv false):=
 ⟨⟨_,_,_,aHU,rfl,dR,ty4,rfl⟩,mY.eq,mY.ok,fun a=>⟨_,rfl,by simp[qI,fC]⟩⟩
theorem FR.stepX{A:bI}{M1 M2:aC}{S1:Ps}{C1:aQ}{m1:List iC}{c0:Nat}(hr1:FR A M1 S1 C1 m1)(hk1:aE M1 M2 [c0])(h1:c0∈A.av)(h2:c0∉A.wr):FR A M2 S1 C1 m1:=by
 refine hr1.keepS hk1 fun c hc=>?_
 rw[List.mem_singleton] at hc
 subst hc
 refine⟨h2,fun hm=>hr1.fsx _ hm h1,fun q hq hm=>?_⟩
 obtain⟨_,_,_,_,_,_,_,_,e6⟩:=hr1.lnk q hq
 exact e6 _ hm h1
structure Mtd (T:List Nat) (M:aC) (p:Nat) (C:aQ) (S:Ps) (B:Int→Option dE) (A:bI) (N:aC) (S':Ps):Prop where
 ap:A.p=p
 ft:A.ft=foot p C
 fsA:A.fsA=C.fsA
 ext:A.ext=T
 new:M.next≤A.mf
 adr:A.mb=A.mf+1∧A.mp=A.mf+2∧A.ms=A.mf+3∧A.f=A.mf+4
 keep:aE M N (foot p C)
 x:S'.x=S.x∧S'.g=S.g∧S'.fs=S.fs∧S'.now=0
 deg:S'.deg= !decide ((cG S:Int)≤S.g.sp)
 ops:S.ops≤S'.ops∧S'.ops≤S.ops+nB S*nG S
 ep:(∀ b k v,bK S b k=some v→v.t.e≤S'.ep)∧(S'.ep=0∨∃ b k v,bK S b k=some v∧v.t.e=S'.ep)
 fr:∃ C m,FR A N S' C m
 pend:jW N A A.mp [] (fun _=>none)
 base:∃ bm,jW N A A.mb bm (fun n=>(B n).map some)
 stale:∃ es,N.get A.ms=some (.map es)∧((∀ b k v,bK S b k=some v→v.t.e≤bJ S)→es=[])
theorem aCE(M:aC)(hw:M.WF)(p:Nat)(C:aQ)(S:Ps)(h:bE M p C)(hr:aFz C S)(hi:eG S)(ho:S.ops≤1000000000){B:Int→Option dE}(hB:dQ S B)(hneg:∀ p:Int,p<0→B p=none){T:List Nat}(hT:∀ c∈T,c<M.next∧¬ aO C.fsA c):
 aB tb.P 12 [.ptr p 0] M fun y N=>∃ A S',y= .tup [.ptr A.f 0,i64 0]∧Mtd T M p C S B A N S':=by
 refine aJx M hw p C S h hr hi ho ?_
 intro A0 N C' m sq ep D hAp hAft hAfs hAe hnew hAb hApn hAs hAf hD hm
 obtain⟨A,rfl,hAe2⟩:∃ A:bI,A0={ A with ext:=[] }∧A.ext=T:=⟨{ A0 with ext:=T },by cases A0;simp only at hAe;subst hAe;rfl,rfl⟩
 replace hm:Mnt M p C S A D _ N C' m sq ep:=⟨hm.st,hm.calm,hm.bs,hm.ops,hm.fl,hm.mf,hm.mb,hm.mp,hm.ms,hm.nd,hm.lnk,hm.hav,hm.sqb,hm.epb⟩
 dsimp only at hAp hAft hAfs hnew hAb hApn hAs hAf hD ⊢
 clear hAe
 have hAe:=hAe2
 have hmay:fU C.g=true:=h.may
 have hnGg:nG S=C.g.pg.toNat:=by unfold nG;rw[← hr.g]
 have hnBg:nB S=C.g.bl.toNat:=by unfold nB;rw[← hr.g]
 have hnPe:nP C.g=nB S*nG S:=by unfold nP;rw[hnGg,hnBg]
 obtain⟨hn1,hnP,_,hpg0,hpg4,hpg8,_,_⟩:=aAU hmay
 have hfo:∀ c∈foot p C,c<M.next:=fun c hmm=>h.lt hw c hmm
 obtain⟨o,ho1,ho2⟩:=hm.ops
 have hseq0:=hi.seq
 have hbk:∀ b k v,bK S b k=some v→b<nB S∧k<nG S∧b*nG S+k<nP C.g:=fun b k v hv=>by
  have hu:=cU hv
  have hpg:=hi.pgs b
  obtain⟨X,x1,_⟩:=hU.1 hv
  have hbl:=(List.getElem?_eq_some_iff.1 x1).1
  rw[hi.len] at hbl
  refine⟨hbl,by omega,?_⟩
  rw[hnPe]
  have:(b+1)*nG S≤nB S*nG S:=Nat.mul_le_mul_right _ hbl
  rw[Nat.add_mul,Nat.one_mul] at this
  omega
 have hfnd:∀ b k v,bK S b k=some v→∃ q,q∈m∧q.1=((b:Int),(k:Int))∧q.2.s=v.t.s∧q.2.e=v.t.e:=fun b k v hv=>by
  obtain⟨q,hq,e⟩:=hm.hav b k v hv (hbk b k v hv).2.2
  obtain⟨b',k',w,e1,_,e3,e4,_⟩:=hm.lnk q hq
  rw[e] at e1
  injection e1 with e1 e1'
  have h1:b=b':=by omega
  have h2:k=k':=by omega
  subst h1 h2
  rw[hv] at e3
  injection e3 with e3
  subst e3
  exact⟨q,hq,e,e4.2.2.1,e4.2.2.2⟩
 obtain⟨S1,hS1⟩:∃ S1:Ps,S1={ S with seq:=sq,ep:=ep,now:=0,deg:=false,ops:=C'.ops }:=⟨_,rfl⟩
 have hCo:C.ops=S.ops:=hr.ops
 have hi1:eG S1:=by
  subst hS1
  refine⟨hi.may,hi.len,hi.pgs,⟨fun b k v hv=>?_,hi.sq.one⟩,fun b k v hv=>?_,hi.bad,⟨hm.sqb.1,?_⟩,fun b X hX=>?_⟩
  ·obtain⟨q,hq,_,e1,_⟩:=hfnd b k v hv
   show v.t.s≤sq
   rw[← e1];exact hm.sqb.2.2 q hq
  ·obtain⟨q,hq,_,_,e1⟩:=hfnd b k v hv
   obtain⟨a1,a2,a3,a4,a5⟩:=hi.tag b k v hv
   refine⟨a1,a2,a3,a4,?_⟩
   show v.t.e≤ep
   rw[← e1];exact hm.epb.2.2 q hq
  ·show sq≤C'.ops
   have:=hm.sqb.2.1
   omega
  ·obtain⟨a1,a2,a3,a4⟩:=hi.cnt b X hX
   show 0≤X.w∧X.w≤C'.ops∧0≤X.n∧X.n≤C'.ops
   omega
 have hrawe:aU C'.g=aU C.g:=by rw[hm.st.g]
 have hrel1:aFz C' S1:=by
  subst hS1
  refine⟨hm.st.g.trans hr.g,hm.st.fs.trans hr.fs,hm.calm,rfl,fun b B' hB'=>?_⟩
  rw[hm.bs] at hB'
  obtain⟨X,x1,x2,x3,x4,x5,x6⟩:=hr.blk b B' hB'
  exact⟨X,x1,x2,x3,x4,by rw[hrawe];exact x5,fun j h1 h2=>by rw[hrawe];exact x6 j h1 h2⟩
 have hall:∀ c,c∈A.av→c<M.next∨(A.mf≤c∧c<D):=fun c hc=>by
  simp only[bI.av,bI.all,hAe,List.mem_append,List.mem_cons] at hc
  rcases hc with (rfl|rfl|rfl|rfl|rfl|hc)|hc
  rotate_right
  ·exact .inl (hT c hc).1
  ·right;omega
  ·right;omega
  ·right;omega
  ·right;omega
  ·right;omega
  ·left;rw[hAft] at hc;exact hfo c hc
 have hdis:A.all.Nodup:=by
  unfold bI.all
  have hft:∀ c,A.mf≤c→c∉A.ft:=fun c hc hmm=>by rw[hAft] at hmm;have:=hfo c hmm;omega
  simp only[List.nodup_cons,List.mem_cons,not_or]
  refine⟨⟨by omega,by omega,by omega,by omega,hft _ (by omega)⟩,⟨by omega,by omega,by omega,hft _ (by omega)⟩,⟨by omega,by omega,hft _ (by omega)⟩,⟨by omega,hft _ (by omega)⟩,hft _ (by omega),by rw[hAft];exact h.nd⟩
 have hR:FR A N S1 C' m:=by
  refine⟨hm.st.wf,hi1,by rw[hS1];exact hm.fl,by rw[hAp];exact hm.st.at',by rw[hAp,hAft];exact hm.st.foot,by rw[hAfs];exact hm.st.fsA,hrel1,hm.mf,hm.nd,fun q hq=>?_,fun b k v hv=>?_,hdis,fun c hc hmm=>?_⟩
  ·obtain⟨b,k,v,e1,_,e3,e4,e5,e6,e7⟩:=hm.lnk q hq
   refine⟨b,k,v,e1,by rw[hS1];exact e3,e4,e5,e6,fun c hc hmm=>?_⟩
   have:=e7 c hc
   rcases hall c hmm with h1|h1
   ·omega
   ·omega
  ·rw[hS1] at hv
   obtain⟨q,hq,e,_⟩:=hfnd b k v hv
   exact⟨q,hq,e⟩
  ·rw[hAfs] at hc
   have hlt:=aP.blk_lt h.flt hw hc
   simp only[bI.av,bI.all,hAe,List.mem_append,List.mem_cons] at hmm
   rcases hmm with (rfl|rfl|rfl|rfl|rfl|hmm)|hmm
   rotate_right
   ·exact (hT c hmm).2 hc
   ·omega
   ·omega
   ·omega
   ·omega
   ·omega
   ·rw[hAft] at hmm;exact h.fsx c hc hmm
 have hB1:dQ S1 B:=by rw[hS1];exact hB.now 0
 obtain⟨⟨w1,w2,w3⟩,w4,w5,w6⟩:=bI.maps hdis
 have hT1:∀ c∈[A.mb],c∈A.av:=fun c hc=>by rw[List.mem_singleton] at hc;rw[hc];exact hO.2.1
 have hT3:∀ c∈[A.ms],c∈A.av:=fun c hc=>by rw[List.mem_singleton] at hc;rw[hc];exact hO.2.2
 have hNn:D≤N.next:=by have:=hm.st.wf _ _ hm.fl;omega
 refine (aFt hR (-1)).mono ?_
 rintro y M119 ⟨l,hl,hy,hk119,fy⟩
 have hmem:=hR.mem_fds hl
 have hlen:l.length≤160:=by
  have:=hl.length_eq
  rw[List.length_map] at this
  have:=List.length_filter_le (fun q:iC=>q.1.1 != -1) m
  have:=hR.few
  omega
 have hR119:=hR.post hk119
 have hnwl:(nwF l).length≤1000:=by
  have hok:=aFu l
  have h1:((nwF l).map (·.1)).length≤(l.map fun f=>f.t.p).length:=kL hok.nd fun c hc=>by
   obtain⟨q,hq,rfl⟩:=List.mem_map.1 hc
   obtain⟨s1,_,s3,_⟩:=hok.snd q hq
   exact List.mem_map.2 ⟨q.2,s1,s3⟩
  rw[List.length_map,List.length_map] at h1
  omega
 have hrng:∀ f∈l,aDb f.t.p:=fun f hf=>by
  obtain⟨b,k,v,hv,rfl⟩:=Go.Proofs.YtlogedcoiogagaaGreat.mem_fds.1 ((hmem f).1 hf)
  have:=iJ (hi1.tag b k v hv).1
  unfold aDb
  simp only
  omega
 refine (aP8 M119 hk119.wf y l hy.at (by omega) hrng hnwl).mono ?_
 rintro y2 M121 ⟨ps,hps,_,hy2,hk121,fy2⟩
 have hR121:=hR119.post hk121
 have hk121':=hk119.trans0 hk121
 have hfm:=fun f=>aMY hi1 hmem hps f
 have hl'len:((ps.map (ofF (nwF l))).filter fun f=>decide (f.t.k=1)).length≤1000000:=by
  refine Nat.le_trans (List.length_filter_le _ _) ?_
  have:=hps.length_eq
  rw[List.length_map] at this
  rw[List.length_map,this]
  omega
 generalize ((ps.map (ofF (nwF l))).filter fun f=>decide (f.t.k=1))=l' at hy2 hfm hl'len
 refine aG (lF hy2.at.len) ?_
 simp only[aJ]
 have hmb121:M121.get A.mb=some (.map []):=hk121'.get hm.st.wf hm.mb (by simp)
 have hmp121:M121.get A.mp=some (.map []):=hk121'.get hm.st.wf hm.mp (by simp)
 have hms121:M121.get A.ms=some (.map []):=hk121'.get hm.st.wf hm.ms (by simp)
 have hN121:N.next≤M121.next:=hk121'.nxt
 obtain⟨Bj,hBj⟩:∃ Bj:Nat→Int→Option (Option dE),∀ j p,Bj j p=if ((l'.take j).any fun f=>f.t.p==p)=true then (B p).map some else none:=⟨_,fun _ _=>rfl⟩
 have hy2b:∀ c,aO y2 c→c∉[A.mb]:=fun c hc hmm=>by
  rw[List.mem_singleton] at hmm
  have:=fy2 c hc
  have:=hk119.nxt
  omega
 refine⟨fun z n Q=>∃ (j:Nat) (bm:List (Int×AV)),z=j∧n=l'.length-j∧j≤l'.length∧aE M121 Q [A.mb]∧jW Q A A.mb bm (Bj j),
  ⟨_,0,[],rfl,rfl,Nat.zero_le _,aE.refl hR121.wf,⟨hmb121,List.nodup_nil,fun q hq=>by simp at hq,fun n x hx=>by rw[hBj] at hx;simp at hx⟩⟩,?_⟩
 rintro _ z n Q ⟨j,bm,rfl,rfl,hj,hkQ,hbQ⟩
 have hRQ:=hR121.stepX hkQ hO.2.1 w1
 have hyQ:iZ Q y2 l':=aP.keep hy2.at hR121.wf hkQ hy2b
 refine aS (fun hlt=>?_) (fun hge=>?_)
 ·have hlt:j<l'.length:=Int.ofNat_lt.1 (of_decide_eq_true hlt)
  obtain⟨b1,o1,a1,a2,_⟩:=hyQ.all hlt
  obtain⟨b,k,v,hx,hbest,hk1⟩:=(hfm l'[j]).1 (List.getElem_mem hlt)
  refine aG (a1 Q) ?_
  rw[bR]
  refine aG a2 ⟨_,_,_,_,_,_,rfl,?_⟩
  refine bG fun M139 hM139=>?_
  have e139:M139=Q.new (.cells [i64 0,i64 0,i64 0,i64 0,i64 0,i64 0] true):=hM139
  have k139:aE Q M139 []:=by rw[e139];exact aE.new hRQ.wf _
  have g139:M139.get Q.next=some (.cells [i64 0,i64 0,i64 0,i64 0,i64 0,i64 0] true):=by rw[e139];exact get_new _ _
  have n139:M139.next=Q.next+1:=by rw[e139];rfl
  clear hM139 e139
  refine aG (zQ l'[j] g139 rfl) ?_
  have k140:aE Q (M139.put Q.next (.cells (fB l'[j]) true)) []:=yN k139 (Nat.le_refl _) (by omega) _
  have g140:(M139.put Q.next (.cells (fB l'[j]) true)).get Q.next=some (.cells (fB l'[j]) true):=by rw[aC.get_put,if_pos rfl]
  revert k140 g140
  generalize M139.put Q.next (.cells (fB l'[j]) true)=M140
  intro k140 g140
  have hR140:=hRQ.post k140
  have hb140:=hbQ.keep hRQ.wf k140 (by simp) (by simp)
  refine aG (aR (dI rR rfl hR140.fl (o:=7) (v:= .map A.mb) rfl)) ?_
  refine aG (aR (dI dR rfl g140 (o:=3) (v:=i64 l'[j].t.p) rfl)) ?_
  simp only[i64,aJ]
  refine aG (aR (dI aCh rfl hR140.fl (o:=6) (v:= .map A.mf) rfl)) ?_
  have lpl:aH tb 85 (.ptr Q.next 0) M140=some (bD l'[j].b l'[j].k,M140):=aR (eC (n:=2) yC rfl rfl g140 (by simp[fB]))
  refine aG lpl ⟨_,_,rfl,?_⟩
  obtain⟨xd,x1,x2,x3,x4⟩:=hR140.ver hbest.1
  have hbk':l'[j].b=(b:Int)∧l'[j].k=(k:Int)∧l'[j].t=v.t:=by rw[hx];exact⟨rfl,rfl,rfl⟩
  obtain⟨q1,q2,q3⟩:=hbk'
  rw[q1,q2,q3]
  have hlk:tA tb 79 (.map A.mf) (bD (b:Int) (k:Int)) false M140=some (pgA ⟨v.t.k,v.t.p,v.t.s,v.t.e,xd⟩,M140):=lN uU (show M140.get A.mf=some (.map (mG uX pgA m)) from hR140.mf) hR140.nd x1 false
  refine aG hlk ⟨_,_,_,_,_,rfl,?_⟩
  have htag:=hi1.tag _ _ _ hbest.1
  have hd0:24≤v.d.length:=(iJ htag.1).1.1
  have hsl:∃ b o n c e,xd= .sl b o n c e:=by
   rcases x2.2 with⟨_,h0⟩|⟨b',o',c',e',h0,_⟩
   ·omega
   ·exact⟨_,_,_,_,_,h0⟩
  obtain⟨pm',p1,p2,_⟩:=hb140.put hR140.wf hO.2.1 v.t.p xd (some v.d) (.inr ⟨v.d,rfl,x2,hsl,x4⟩)
  refine aG p1 ?_
  have kp:aE M140 (M140.put A.mb (.map (mG i64 (fun x:AV=>x) pm'))) [A.mb]:=aE.put hR140.wf (hR140.wf _ _ hb140.get) _
  refine⟨_,by omega,j+1,pm',dM (by omega),rfl,by omega,(hkQ.trans k140 (fun _ h _=>h) (by simp)).trans kp (fun _ h _=>h) (fun _ h _=>h),?_⟩
  have hp0:=(iJ htag.1).2.2.2.1
  have hBp:B v.t.p=some v.d:=(hB1 v.t.p hp0 v.d).2 ⟨v.t.e,b,k,v,hbest,hk1,rfl,rfl,rfl⟩
  have hfun:Bj (j+1)=mH (Bj j) v.t.p (some v.d):=by
   funext p'
   unfold mH
   rw[hBj,hBj,List.take_add_one,List.getElem?_eq_getElem hlt,List.any_append]
   simp only[Option.toList_some,List.any_cons,List.any_nil,Bool.or_false,q3]
   by_cases e:p'=v.t.p
   ·rw[if_pos e,e]
    simp[hBp]
   ·rw[if_neg e]
    have:(v.t.p==p')=false:=by
     cases h:v.t.p==p' with
     | false=>rfl
     | true=>rw[beq_iff_eq] at h;exact absurd h.symm e
    rw[this,Bool.or_false]
  rw[hfun]
  exact p2
 ·
  have hge:¬ (j:Int)<l'.length:=of_decide_eq_false hge
  have:j=l'.length:=by omega
  subst this
  have hfun:Bj l'.length=fun n=>(B n).map some:=by
   funext p'
   rw[hBj,List.take_length]
   split
   ·rfl
   ·rename_i hno
    cases hBp:B p' with
    | none=>rfl
    | some d=>
      exfalso
      have hp0:0≤p':=by
       by_cases h0:0≤p'
       ·exact h0
       ·rw[hneg p' (by omega)] at hBp;cases hBp
      obtain⟨e,b,k,v,hbest,hk1,hpp,_,_⟩:=(hB1 p' hp0 d).1 hBp
      have hf:=(hfm ⟨b,k,v.t⟩).2 ⟨b,k,v,rfl,by rw[hpp];exact hbest,hk1⟩
      apply hno
      rw[List.any_eq_true]
      exact⟨_,hf,by simp[hpp]⟩
  rw[hfun] at hbQ
  have hmpQ:Q.get A.mp=some (.map []):=hkQ.get hR121.wf hmp121 (by simp;exact fun e=>w4 e.symm)
  have hmsQ:Q.get A.ms=some (.map []):=hkQ.get hR121.wf hms121 (by simp;exact fun e=>w5 e.symm)
  have hKQ:aE M Q (foot p C):=by
   have k0:aE M M121 (foot p C):=hm.st.keep.trans hk121' (fun _ h _=>h) (by simp)
   exact k0.trans hkQ (fun _ h _=>h) (fun c hc hlt=>by rw[List.mem_singleton] at hc;omega)
  refine (aFt hRQ (-1)).mono ?_
  rintro y3 M157 ⟨l2,hl2,hy3,hk157,fy3⟩
  have hmem2:=hRQ.mem_fds hl2
  have hlen2:l2.length≤160:=by
   have:=hl2.length_eq
   rw[List.length_map] at this
   have:=List.length_filter_le (fun q:iC=>q.1.1 != -1) m
   have:=hR.few
   omega
  refine (aMu M157 hk157.wf y3 l2 hy3.at (by omega)).mono ?_
  rintro y4 M159 ⟨hy4,hk159,fy4⟩
  have hlast2:cM l2=bJ S1:=vU hmem2
  have hlX:bJ S1=bJ S:=by rw[hS1];rfl
  have hstl:∀ f∈(l2.filter fun f=>decide (f.t.e>cM l2)),f.t.e>bJ S:=fun f hf=>by
   rw[List.mem_filter,decide_eq_true_eq,hlast2,hlX] at hf
   exact hf.2
  have hstm:∀ f∈(l2.filter fun f=>decide (f.t.e>cM l2)),∃ b k v,bK S b k=some v∧f.t=v.t:=fun f hf=>by
   rw[List.mem_filter] at hf
   obtain⟨b,k,v,hv,e⟩:=Go.Proofs.YtlogedcoiogagaaGreat.mem_fds.1 ((hmem2 f).1 hf.1)
   rw[hS1] at hv
   exact⟨b,k,v,hv,by rw[e]⟩
  have hstlen:(l2.filter fun f=>decide (f.t.e>cM l2)).length≤160:=Nat.le_trans (List.length_filter_le _ _) hlen2
  generalize (l2.filter fun f=>decide (f.t.e>cM l2))=l4 at*
  have hk159':=hk157.trans0 hk159
  have hR159:=hRQ.post hk159'
  have hb159:=hbQ.keep hRQ.wf hk159' (by simp) (by simp)
  have hmp159:=hk159'.get hRQ.wf hmpQ (by simp)
  have hms159:=hk159'.get hRQ.wf hmsQ (by simp)
  have hQn:M121.next≤Q.next:=hkQ.nxt
  have h157n:Q.next≤M157.next:=hk157.nxt
  refine aG (lF hy4.at.len) ?_
  simp only[aJ]
  refine⟨fun z n Q2=>∃ (j:Nat) (es:List (Int×Unit)),z=j∧n=l4.length-j∧j≤l4.length∧aE M159 Q2 [A.ms]∧Q2.get A.ms=some (.map (mG i64 unA es))∧(es.map (·.1)).Nodup∧(l4=[]→es=[]),
   ⟨_,0,[],rfl,rfl,Nat.zero_le _,aE.refl hR159.wf,hms159,List.nodup_nil,fun _=>rfl⟩,?_⟩
  rintro _ z n Q2 ⟨j,es,rfl,rfl,hj,hkQ2,hgQ2,hndQ2,hesQ2⟩
  have hRQ2:=hR159.stepX hkQ2 hO.2.2 w3
  have hyQ2:iZ Q2 y4 l4:=aP.keep hy4.at hR159.wf hkQ2 fun c hc hmm=>by
   rw[List.mem_singleton] at hmm
   have:=fy4 c hc
   omega
  refine aS (fun hlt=>?_) (fun hge=>?_)
  ·have hlt:j<l4.length:=Int.ofNat_lt.1 (of_decide_eq_true hlt)
   refine bG fun K186 hK186=>?_
   have key:∀ (N3:aC) (es':List (Int×Unit)),aE Q2 N3 [A.ms]→N3.get A.ms=some (.map (mG i64 unA es'))→(es'.map (·.1)).Nodup→K186 N3:=by
    intro N3 es' a1 a2 a3
    rw[hK186]
    exact⟨_,by omega,j+1,es',dM (by omega),rfl,by omega,hkQ2.trans a1 (fun _ h _=>h) (fun _ h _=>h),a2,a3,fun e=>by rw[e] at hlt;simp at hlt⟩
   clear hK186
   obtain⟨b1,o1,a1,a2,_⟩:=hyQ2.all hlt
   refine aG (a1 Q2) ?_
   rw[bR]
   refine aG a2 ⟨_,_,_,_,_,_,rfl,?_⟩
   refine bG fun M177 hM177=>?_
   have e177:M177=Q2.new (.cells [i64 0,i64 0,i64 0,i64 0,i64 0,i64 0] true):=hM177
   have k177:aE Q2 M177 []:=by rw[e177];exact aE.new hRQ2.wf _
   have g177:M177.get Q2.next=some (.cells [i64 0,i64 0,i64 0,i64 0,i64 0,i64 0] true):=by rw[e177];exact get_new _ _
   have n177:M177.next=Q2.next+1:=by rw[e177];rfl
   clear hM177 e177
   refine aG (zQ l4[j] g177 rfl) ?_
   have k178:aE Q2 (M177.put Q2.next (.cells (fB l4[j]) true)) []:=yN k177 (Nat.le_refl _) (by omega) _
   have g178:(M177.put Q2.next (.cells (fB l4[j]) true)).get Q2.next=some (.cells (fB l4[j]) true):=by rw[aC.get_put,if_pos rfl]
   revert k178 g178
   generalize M177.put Q2.next (.cells (fB l4[j]) true)=M178
   intro k178 g178
   have hR178:=hRQ2.post k178
   have hg178:=k178.get hRQ2.wf hgQ2 (by simp)
   refine aG (aR (dI dR rfl g178 (o:=2) (v:=i64 l4[j].t.k) rfl)) ?_
   simp only[i64,aJ]
   refine aS (fun _=>?_) (fun _=>key M178 es (k178.mono (by simp)) hg178 hndQ2)
   refine aG (aR (dI aHU rfl hR178.fl (o:=9) (v:= .map A.ms) rfl)) ?_
   refine aG (aR (dI dR rfl g178 (o:=3) (v:=i64 l4[j].t.p) rfl)) ?_
   simp only[i64,aJ]
   obtain⟨es',p1,p2,_,_⟩:=aH1 aKJ hg178 hndQ2 l4[j].t.p ()
   refine aG p1 ?_
   exact key _ es' (k178.trans (aE.put k178.wf (k178.wf _ _ hg178) _) (by simp) (fun _ h _=>h)) (by rw[aC.get_put,if_pos rfl]) p2
  ·refine (aB2 hRQ2).mono ?_
   rintro y5 M189 ⟨rfl,hR189,hk189⟩
   simp only[i64,aJ]
   have hkA:∀ c∈[A.f],c∈A.av:=fun c hc=>by rw[List.mem_singleton] at hc;rw[hc];simp[bI.av,bI.all]
   have hbQ2:=hb159.keep hR159.wf hkQ2 (by simp[w5]) hT3
   have hfw:A.f∈A.wr:=by simp[bI.wr]
   have hbf:=hbQ2.keep hRQ2.wf hk189 (by simp;exact fun e=>w1 (by rw[e];exact hfw)) hkA
   have hmpQ2:=hkQ2.get hR159.wf hmp159 (by simp[w6])
   have hmpf:=hk189.get hRQ2.wf hmpQ2 (by simp;exact fun e=>w2 (by rw[e];exact hfw))
   have hmsf:=hk189.get hRQ2.wf hgQ2 (by simp;exact fun e=>w3 (by rw[e];exact hfw))
   have hS1x:S1.x=S.x∧S1.g=S.g∧S1.fs=S.fs∧S1.now=0∧S1.ep=ep∧S1.ops=C'.ops:=by rw[hS1];exact⟨rfl,rfl,rfl,rfl,rfl,rfl⟩
   have hlost1:cG S1=cG S:=by rw[hS1];rfl
   have hwx:(jE S1).1.x=S1.x∧(jE S1).1.g=S1.g∧(jE S1).1.fs=S1.fs∧(jE S1).1.now=S1.now∧(jE S1).1.ep=S1.ep∧(jE S1).1.ops=S1.ops∧(jE S1).1.deg= !decide ((cG S1:Int)≤S1.g.sp):=by
    unfold jE
    split
    ·rename_i hh
     refine⟨rfl,rfl,rfl,rfl,rfl,rfl,?_⟩
     rw[decide_eq_true hh,hS1];rfl
    ·rename_i hh
     refine⟨rfl,rfl,rfl,rfl,rfl,rfl,?_⟩
     rw[decide_eq_false hh];rfl
   obtain⟨x1,x2,x3,x4,x5,x6,x7⟩:=hwx
   refine⟨A,(jE S1).1,by first|trivial|rfl,hAp,hAft,hAfs,hAe,hnew,⟨hAb,hApn,hAs,hAf⟩,?_,⟨x1.trans hS1x.1,x2.trans hS1x.2.1,x3.trans hS1x.2.2.1,x4.trans hS1x.2.2.2.1⟩,?_,?_,⟨fun b k v hv=>?_,?_⟩,⟨_,_,hR189⟩,⟨hmpf,List.nodup_nil,fun q hq=>by simp at hq,fun n x hx=>by cases hx⟩,⟨bm,hbf⟩,⟨_,hmsf,fun hno=>?_⟩⟩
   ·have k1:aE M Q2 (foot p C):=(hKQ.trans hk159' (fun _ h _=>h) (by simp)).trans hkQ2 (fun _ h _=>h) (fun c hc hlt=>by rw[List.mem_singleton] at hc;omega)
    exact k1.trans hk189 (fun _ h _=>h) (fun c hc hlt=>by rw[List.mem_singleton] at hc;omega)
   ·rw[x7,hlost1,hS1x.2.1]
   ·rw[x6,hS1x.2.2.2.2.2]
    have h9:((nB S:Int)*(nG S:Int))=((nB S*nG S:Nat):Int):=by rw[Int.natCast_mul]
    omega
   ·rw[x5,hS1x.2.2.2.2.1]
    obtain⟨q,hq,_,_,e1⟩:=hfnd b k v hv
    rw[← e1];exact hm.epb.2.2 q hq
   ·rw[x5,hS1x.2.2.2.2.1]
    rcases hm.epb.2.1 with h0|⟨q,hq,e⟩
    ·exact .inl h0
    ·obtain⟨b,k,v,_,_,e3,e4,_⟩:=hm.lnk q hq
     exact .inr ⟨b,k,v,e3,by rw[← e4.2.2.2];exact e⟩
   ·have hl4:l4=[]:=by
     cases hl4:l4 with
     | nil=>rfl
     | cons f r=>
       exfalso
       have hf:f∈l4:=by rw[hl4];simp
       have h1:=hstl f hf
       obtain⟨b,k,v,hv,e⟩:=hstm f hf
       have h2:=hno b k v hv
       rw[e] at h1
       omega
    rw[hesQ2 hl4]
    rfl
def aAL(x:Int)(n:Nat):Nat:=((x%18446744073709551616).tmod (n:Int)).toNat
theorem aEt(x:Int){n:Nat}(hn:0<n):aAL x n<n:=by
 unfold aAL
 have h0:0≤x%18446744073709551616:=Int.emod_nonneg _ (by omega)
 rw[Int.tmod_eq_emod_of_nonneg h0]
 have:=Int.emod_lt_of_pos (x%18446744073709551616) (show (0:Int)<n by omega)
 have:=Int.emod_nonneg (x%18446744073709551616) (show (n:Int)≠0 by omega)
 omega
theorem aQc(M:aC)(x:Int)(n:Nat)(hn:0<n)(hn2:n<4611686018427387904):
 aB tb.P 14 [i64 x,i64 (n:Int)] M fun y N=>y=i64 (aAL x n:Int)∧N=M:=by
 have h0:0≤x%18446744073709551616:=Int.emod_nonneg _ (by omega)
 have e1:(n:Int)%18446744073709551616=n:=by omega
 have hnn:(n:Int)≠0:=by omega
 have hlt:=aEt x hn
 have h2:0≤(x%18446744073709551616).tmod (n:Int):=Int.tmod_nonneg _ h0
 have e2:(x%18446744073709551616).tmod (n:Int)=(aAL x n:Int):=by unfold aAL;omega
 refine aN7 ?_
 unfold F14
 simp only[i64,aJ,aDY,e1]
 refine aG (cI (v:= .val (.int .u64 (aAL x n:Int))) ?_) ?_
 ·rw[wV (by simp) (by simp)]
  simp only[rT,hnn,decide_false,cond_false,e2,Option.map_some]
 ·simp only[aJ]
  rw[aM (by omega) (by omega)]
  exact⟨rfl,by trivial⟩
def nW(z:Int)(n:Nat):dE:=(List.range n).map fun i:Nat=>BitVec.ofInt 8 (z+(i:Int))
@[simp] theorem iH (z:Int) (n:Nat):(nW z n).length=n:=by simp[nW]
theorem aHn(z:Int)(i:Nat):AV.val (.int .u8 (aK .u8 z (IntKind.wrap .u8 (i:Int))))=vR (BitVec.ofInt 8 (z+(i:Int))):=by
 unfold vR
 rw[aK,tV,tV,BitVec.toNat_ofInt]
 congr 2
 have h1:((2^8:Nat):Int)=256:=by decide
 rw[h1]
 have:0≤(z+(i:Int))%256:=Int.emod_nonneg _ (by omega)
 omega
theorem aHg(z:Int)(k:Nat):nW z (k+1)=nW z k++[BitVec.ofInt 8 (z+(k:Int))]:=by
 unfold nW
 rw[List.range_succ,List.map_append,List.map_cons,List.map_nil]
theorem vY(M:aC)(hw:M.WF)(a:Int)(n:Nat)(hn0:0<n)(hn:n≤1000):aB tb.P 16 [.val (.int .u8 a),i64 (n:Int)] M fun y N=>aE M N []∧aL N y (nW a n)∧∀ c,aO y c→M.next≤c:=by
 refine aNV ?_
 unfold F16
 simp only[i64,aJ]
 have hmk:=aGQ (T:=tb) (M:=M) kR rfl ty5 (l:=n) (c:=n) (by omega) (by simp only;omega) (by omega) (k1:= .i64) (k2:= .i64)
 refine aG hmk ?_
 have hz:repA n (ofVs ([Value.int .u8 0]:List Value))=fH (nW a 0++List.replicate (n-0) 0#8):=by
  simp only[ofVs,ofV,qW,nW,List.range_zero,List.map_nil,List.nil_append,Nat.sub_zero]
  simp[fH,vR]
 have hw1:(M.new (.cells (repA n (ofVs ([Value.int .u8 0]:List Value))) true)).WF:=hw.new _
 refine⟨fun z q P=>∃ (k:Nat),z=(k:Int)∧q=n-k∧k≤n∧aE M P []∧P.get M.next=some (.cells (fH (nW a k++List.replicate (n-k) 0#8)) true),⟨n,0,rfl,rfl,Nat.zero_le _,aE.new hw _,by rw[get_new,hz]⟩,?_⟩
 rintro _ z q P ⟨k,rfl,rfl,hk,hK,hg⟩
 refine aS (fun hlt=>?_) (fun hge=>?_)
 ·have hlt:k<n:=Int.ofNat_lt.1 (of_decide_eq_true hlt)
  have hia:bS tb 37 (.sl M.next 0 n n none) (.val (.int .i64 (k:Int))) P=some (.ptr M.next k,P):=by
   refine aX ?_
   unfold bF
   rw[kR]
   simp only[ty5,Int.toNat_natCast]
   have h0:decide (0≤(k:Int))=true:=by simp
   simp only[h0,blt_of hlt,cond_true]
   simp
  refine aG hia ?_
  simp only[bR]
  have hl:(fH (nW a k++List.replicate (n-k) 0#8)).length=n:=by simp;omega
  refine aG (lM (cO ty5 rfl rfl hg (by omega))) ?_
  refine⟨n-(k+1),by omega,k+1,dM (by omega),rfl,hlt,yN hK (Nat.le_refl _) (hK.wf _ _ hg) _,?_⟩
  rw[aC.get_put,if_pos rfl,aHn,aHg]
  congr 2
  unfold fH
  rw[← List.map_set]
  congr 1
  rw[List.append_assoc]
  have e:List.replicate (n-k) 0#8=0#8::List.replicate (n-(k+1)) 0#8:=by
   rw[show n-k=(n-(k+1))+1 by omega,List.replicate_succ]
  rw[e]
  have e2:=List.set_append_right (s:=nW a k) (t:=0#8::List.replicate (n-(k+1)) 0#8) k (BitVec.ofInt 8 (a+(k:Int))) (by simp)
  rw[iH,Nat.sub_self,List.set_cons_zero] at e2
  exact e2
 ·have hge:k=n:=by
   have:¬ (k:Int)<n:=by simpa using hge
   omega
  subst hge
  rw[Nat.sub_self,List.replicate_zero,List.append_nil] at hg
  refine⟨hK,⟨by simp,.inr ⟨_,_,_,_,by rw[iH],⟨by simp,.inl rfl⟩,.inr ⟨_,_,hg,by simp,?_⟩⟩⟩,fun c hc=>?_⟩
  ·rw[List.drop_zero,List.take_of_length_le (by simp)]
  ·have:c=M.next∨M.next=c:=by first|exact .inl hc.2|exact .inr hc.2
   omega
theorem aAj(M:aC)(a b c:Int):aB tb.P 58 [i64 a,i64 b,i64 c] M fun y N=>y= .val (.bool (xO a b c))∧N=M:=by
 refine aOj ?_
 unfold F58 xO
 simp only[i64,aJ,dA]
 refine aS (fun h=>?_) (fun h=>?_)
 ·have h:b≤a:=by simpa using h
  simp[h]
 ·have h:¬ b≤a:=by simpa using h
  simp[h]
theorem aJa(M:aC)(hw:M.WF)(g:eV)(h1:8≤g.bl∧g.bl≤20)(h2:4≤g.pg∧g.pg≤8)(h3:0≤g.sp∧g.sp≤4):aB tb.P 50 [jV g] M fun y N=>(∃ z,y=i64 z∧decide (z≥4)=decide (12≤(g.bl-g.sp-3)*g.pg))∧aE M N []:=by
 refine aKt ?_
 unfold F50
 refine⟨_,_,_,_,_,rfl,?_⟩
 simp only[dA]
 have hg:=get_new M (.cells (eH g) true)
 obtain⟨l0,l1,l2,l3,l4,_⟩:=bX hg
 have hK:=aE.new hw (.cells (eH g) true)
 refine aG (aR l0) ?_
 simp only[i64,aJ]
 refine aG (aR l3) ?_
 simp only[i64,aJ]
 refine aG (aR l1) ?_
 simp only[i64,aJ]
 obtain⟨e,hb1,hb2⟩:=aCd h1 h2 h3
 rw[e]
 generalize (g.bl-g.sp-3)*g.pg=m at hb1 hb2 ⊢
 refine aG (uN _ _ _) ?_
 simp only[aJ]
 refine⟨⟨_,rfl,?_⟩,hK⟩
 have hp:0≤max (m-4) 0∧max (m-4) 0≤1000000:=by omega
 rw[jN,Int.tdiv_eq_ediv_of_nonneg hp.1,aM (by omega) (by omega),decide_eq_decide]
 omega
theorem aGR(M:aC)(hw:M.WF)(g:eV):aB tb.P 22 [jV g] M fun y N=>y= .val (.bool (fU g))∧aE M N []:=by
 refine aNJ ?_
 unfold F22
 refine⟨_,_,_,_,_,rfl,?_⟩
 simp only[dA]
 have hg:=get_new M (.cells (eH g) true)
 obtain⟨l0,l1,l2,l3,l4,l5⟩:=bX hg
 have hK:=aE.new hw (.cells (eH g) true)
 unfold fU
 refine aG (aR l0) ?_
 simp only[i64,aJ]
 refine (aAj _ g.bl 8 20).mono ?_
 rintro y N ⟨rfl,rfl⟩
 simp only[cK]
 generalize hh0:xO g.bl 8 20=q0
 refine aS (fun h=>?_) (fun h=>⟨by rw[h];rfl,hK⟩)
 subst h
 rw[Bool.true_and]
 refine aG (aR l1) ?_
 simp only[i64,aJ]
 refine (aAj _ g.pg 4 8).mono ?_
 rintro y N ⟨rfl,rfl⟩
 simp only[cK]
 generalize hh1:xO g.pg 4 8=q1
 refine aS (fun h=>?_) (fun h=>⟨by rw[h];rfl,hK⟩)
 subst h
 rw[Bool.true_and]
 refine aG (aR l2) ?_
 simp only[i64,aJ]
 refine (aAj _ g.by' 24 64).mono ?_
 rintro y N ⟨rfl,rfl⟩
 simp only[cK]
 generalize hh2:xO g.by' 24 64=q2
 refine aS (fun h=>?_) (fun h=>⟨by rw[h];rfl,hK⟩)
 subst h
 rw[Bool.true_and]
 refine aG (aR l3) ?_
 simp only[i64,aJ]
 refine (aAj _ g.sp 0 4).mono ?_
 rintro y N ⟨rfl,rfl⟩
 simp only[cK]
 generalize hh3:xO g.sp 0 4=q3
 refine aS (fun h=>?_) (fun h=>⟨by rw[h];rfl,hK⟩)
 subst h
 rw[Bool.true_and]
 refine aG (aR l4) ?_
 simp only[i64,aJ]
 refine (aAj _ g.tr 2 20).mono ?_
 rintro y N ⟨rfl,rfl⟩
 simp only[cK]
 generalize hh4:xO g.tr 2 20=q4
 refine aS (fun h=>?_) (fun h=>⟨by rw[h];rfl,hK⟩)
 subst h
 rw[Bool.true_and]
 refine aG (aR l5) ?_
 refine⟨_,_,_,_,_,rfl,?_⟩
 unfold xO at hh0 hh1 hh3
 simp only[Bool.and_eq_true,decide_eq_true_eq] at hh0 hh1 hh3
 refine (aJa _ hK.wf g hh0 hh1 hh3).mono ?_
 rintro y N ⟨⟨z,rfl,hz⟩,hk2⟩
 simp only[i64,aJ]
 exact⟨by rw[hz],hK.trans0 hk2⟩
def dB(M:aC)(x:AV)(l:List Int):Prop:=aP 1 M x l.length (l.map i64)
theorem oP.ints{M:aC}{x:AV}{l:List Int}(h:oP M x (l.map i64)):dB M x l:=by
 have:=h.at
 unfold dB
 unfold lI at this
 rwa [List.length_map] at this
theorem dB.len{M M':aC}{x:AV}{l:List Int}(h:dB M x l):bP tb false 25 x M'=some l.length:=aP.len h lY rfl
theorem dB.at{M:aC}{x:AV}{l:List Int}(h:dB M x l){i:Nat}(hi:i<l.length):
 ∃ b o,bF tb 25 x (.val (.int .i64 (i:Int)))=some (.ptr b o)∧aW tb 3 (.ptr b o) M=some (i64 l[i]):=by
 obtain⟨b,o,h1,_,h2,_⟩:=aP.at h lY rfl dR rfl hi (k':= .i64)
 refine⟨b,o,h1,?_⟩
 unfold aW
 rw[dR]
 have:=h2 0 (by omega)
 simp only[Nat.add_zero,Nat.mul_one] at this
 rw[List.getElem?_map,List.getElem?_eq_getElem hi] at this
 simpa[TI.isAgg] using this
theorem oS(M:aC)(x y:AV)(l m:List Int)(hx:dB M x l)(hy:dB M y m)(hl:l.length≤9223372036854775806):
 aB tb.P 28 [x,y] M fun v N=>v= .val (.bool (decide (l=m)))∧N=M:=by
 refine aPL ?_
 unfold F28
 refine aG (lF hx.len) ?_
 simp only[aJ]
 refine aG (lF hy.len) ?_
 simp only[aJ]
 refine aS (fun hne=>?_) (fun heq=>?_)
 ·have:l≠m:=fun h=>by subst h;simp at hne
  simp[this]
 ·have hlen:l.length=m.length:=by simp at heq;omega
  refine⟨fun z n N=>∃ i:Nat,z=i∧n=l.length-i∧i≤l.length∧N=M∧l.take i=m.take i,⟨l.length,0,rfl,rfl,Nat.zero_le _,rfl,by simp⟩,?_⟩
  rintro _ z n N ⟨i,rfl,rfl,hi,rfl,htk⟩
  refine aG (lF hx.len) ?_
  simp only[aJ]
  refine aS (fun hlt=>?_) (fun hge=>?_)
  ·have hlt:i<l.length:=by simpa using hlt
   have hlt':i<m.length:=by omega
   obtain⟨b,o,hia,hld⟩:=hx.at hlt
   obtain⟨b',o',hia',hld'⟩:=hy.at hlt'
   refine aG (aX hia) ?_
   refine aG (aX hia') ?_
   refine aG (aR hld) ?_
   simp only[i64,aJ]
   refine aG (aR hld') ?_
   simp only[i64,aJ]
   refine aS (fun hd=>?_) (fun hd=>?_)
   ·have hne:l[i]≠m[i]:=by simpa using hd
    have:l≠m:=fun h=>by subst h;exact hne rfl
    simp[this]
   ·have he:l[i]=m[i]:=by simpa using hd
    exact⟨l.length-(i+1),by omega,i+1,dM (by omega),rfl,hlt,by trivial,by rw[List.take_succ_eq_append_getElem hlt,List.take_succ_eq_append_getElem hlt',htk,he]⟩
  ·have hge:i=l.length:=by have:¬ (i:Int)<l.length:=by simpa using hge
                           omega
   subst hge
   have:l=m:=by
    rw[List.take_of_length_le (Nat.le_refl _),List.take_of_length_le (by omega)] at htk
    exact htk
   simp[this]
structure LC (M0:aC) (g:eV) (k n:Int) (M:aC) (p:Nat) (C:aQ) (S:Ps) (B:Int→Option dE):Prop where
 wf:M.WF
 chip:bE M p C
 rel:aFz C S
 q:tR S
 base:dQ S B
 neg:∀ p:Int,p<0→B p=none
 g:S.g=g
 ops:S.ops≤n
 ep:S.ep≤k
 ge:∀ c∈foot p C,M0.next≤c
 nx:M0.next≤M.next
 low:∀ c,c<M0.next→M.get c=M0.get c
structure LF (M0:aC) (g:eV) (k n:Int) (A:bI) (M:aC) (S:Ps) (P:Int→Option (Option dE)) (B:Int→Option dE):Prop where
 fm:FM A M S P B
 q:tR S
 base:dQ S B
 pend:aAB S.g P
 neg:∀ p:Int,p<0→B p=none
 deg:S.deg=false
 g:S.g=g
 ops:S.ops≤n
 ep:S.ep≤k
 ext:∀ c∈A.ext,c<M.next
 ge:∀ c∈A.all,M0.next≤c
 nx:M0.next≤M.next
 low:∀ c,c<M0.next→M.get c=M0.get c
def xY:Int→Option (Option dE):=fun _=>none
theorem aPl(B:Int→Option dE):fD xY B=B:=rfl
theorem bI.mw_all{A:bI}:∀ c∈A.mw,c∈A.all:=fun c hc=>by
 simp only[bI.mw,bI.wr,bI.all,List.mem_cons] at hc ⊢
 rcases hc with h|h|h|h|h|h <;> simp[h]
theorem bI.mp_all{A:bI}:∀ c∈[A.mp],c∈A.all:=fun c hc=>by
 rw[List.mem_singleton] at hc
 simp[bI.all,hc]
section
variable {M0:aC} {g:eV} {k n:Int} {A:bI} {M:aC} {S:Ps} {P:Int→Option (Option dE)} {B:Int→Option dE}
theorem LF.wf(h:LF M0 g k n A M S P B):M.WF:=h.fm.wf
theorem LF.hext(h:LF M0 g k n A M S P B):∀ c∈A.ext,c<M.next:=h.ext
theorem LF.lt(h:LF M0 g k n A M S P B):∀ c∈A.all,c<M.next:=fun c hc=>h.fm.av_lt h.hext c (by simp only[bI.av,List.mem_append];exact .inl hc)
theorem eY{N:aC}{T:List Nat}(hl:∀ c,c<M0.next→M.get c=M0.get c)(hn:M0.next≤M.next)(hge:∀ c∈T,M0.next≤c)(hk:aE M N T):∀ c,c<M0.next→N.get c=M0.get c:=fun c hc=>by
 rw[hk.old c (by omega) fun hm=>by have:=hge c hm;omega]
 exact hl c hc
theorem LF.keep{N:aC}(h:LF M0 g k n A M S P B)(hk:aE M N []):LF M0 g k n A N S P B:=
 { h with fm:=h.fm.post hk,ext:=fun c hc=>Nat.lt_of_lt_of_le (h.ext c hc) hk.nxt,nx:=Nat.le_trans h.nx hk.nxt,low:=eY h.low h.nx (by simp) hk }
theorem jW.aside{pm:List (Int×AV)}{R:Int→Option (Option dE)}{b:Nat}(h:jW M A b pm R)(hw:M.WF){T:List Nat}(hT:∀ c∈T,M.next≤c):jW M { A with ext:=T++A.ext } b pm R:=
 ⟨h.get,h.nd,fun q hq=>(h.ent q hq).imp id fun⟨d,e1,e2,e3,e4⟩=>⟨d,e1,e2,e3,fun c hc hm=>by
  have hlt:c<M.next:=by
   rcases e2.2 with⟨e5,e6⟩|⟨b',o,cp,ex,e5,_,e6⟩
   ·rw[e5] at hc;exact hc.elim
   ·rw[e5] at hc
    rcases e6 with e6|⟨cs,rw',e7,_⟩
    ·exact absurd e6 hc.1
    ·rw[← hc.2];exact hw _ _ e7
  simp only[bI.av,List.mem_append] at hm
  rcases hm with hm|hm|hm
  ·exact e4 c hc (by simp only[bI.av,List.mem_append];exact .inl hm)
  ·have:=hT c hm;omega
  ·exact e4 c hc (by simp only[bI.av,List.mem_append];exact .inr hm)⟩,h.cov⟩
theorem FM.aside(h:FM A M S P B){T:List Nat}(hT:∀ c∈T,M.next≤c):FM { A with ext:=T++A.ext } M S P B:=by
 obtain⟨C,m,hr⟩:=h.fr
 obtain⟨pm,hp⟩:=h.pend
 obtain⟨bm,hb⟩:=h.base
 exact⟨⟨C,m,hr.aside hT⟩,⟨pm,hp.aside h.wf hT⟩,⟨bm,hb.aside h.wf hT⟩,h.stale⟩
theorem LF.aside{N:aC}(h:LF M0 g k n A M S P B)(hk:aE M N []){T:List Nat}(hT:∀ c∈T,M.next≤c∧c<N.next):LF M0 g k n { A with ext:=T++A.ext } N S P B:=
 { (h.keep hk) with fm:=(h.fm.aside fun c hc=>(hT c hc).1).post hk,ext:=fun c hc=>(List.mem_append.1 hc).elim (fun hc=>(hT c hc).2) (fun hc=>Nat.lt_of_lt_of_le (h.ext c hc) hk.nxt),ge:=h.ge }
theorem LF.beside{N:aC}{b:Nat}(h:LF M0 g k n A M S P B)(hk:aE M N [b])(hb:b∉A.all)(he:b∈A.ext)(hg:M0.next≤b):LF M0 g k n A N S P B:=
 { h with fm:=h.fm.keepX hk (fun c hc=>by rw[List.mem_singleton] at hc;subst hc;exact⟨he,hb⟩),ext:=fun c hc=>Nat.lt_of_lt_of_le (h.ext c hc) hk.nxt,nx:=Nat.le_trans h.nx hk.nxt,low:=eY h.low h.nx (fun c hc=>by rw[List.mem_singleton] at hc;omega) hk }
theorem LF.mono{k' n':Int}(h:LF M0 g k n A M S P B)(hk:k≤k')(hn:n≤n'):LF M0 g k' n' A M S P B:=
 { h with ops:=Int.le_trans h.ops hn,ep:=Int.le_trans h.ep hk }
theorem LF.may(h:LF M0 g k n A M S P B):fU g=true:=by rw[← h.g];exact h.q.inv.may
theorem LF.left(h:LF M0 g k n A M S P B):∃ C,LC M0 g k n M A.p C S B∧foot A.p C=A.ft:=by
 obtain⟨C,m,hr⟩:=h.fm.fr
 exact⟨C,⟨h.wf,hr.chip,hr.rel,h.q,h.base,h.neg,h.g,h.ops,h.ep,fun c hc=>h.ge c (by rw[hr.foot] at hc;simp[bI.all,hc]),h.nx,h.low⟩,hr.foot⟩
theorem LF.len(h:LF M0 g k n A M S P B){z:Int}(hz:0≤z){d:dE}(hd:fD P B z=some d):(d.length:Int)=g.by':=by
 rw[← h.g]
 unfold fD at hd
 cases hP:P z with
 | none=>rw[hP] at hd;exact (h.base.rng h.q.inv hz hd).2
 | some x=>rw[hP] at hd;subst hd;exact h.pend.len z d hP
theorem aHD{p:Nat}{C:aQ}(h:LC M0 g k n M p C S B)(hn:n≤1000000000){T:List Nat}(hT:∀ c∈T,c<M.next∧¬ aO C.fsA c):aB tb.P 12 [.ptr p 0] M fun y N=>∃ A S',y= .tup [.ptr A.f 0,i64 0]∧A.ext=T∧LF M0 g k (n+160) A N S' xY B∧A.p=p∧A.ft=foot p C∧S'.fs=S.fs∧aE M N (foot p C)∧(∀ c∈A.all,c∈foot p C∨M.next≤c)∧S'.x=S.x∧S'.g=S.g∧S.ops≤S'.ops∧S'.ops≤S.ops+(nB S:Int)*nG S:=by
 have hge:=h.q.inv.geo
 refine (aCE M h.wf p C S h.chip h.rel h.q.inv (by have:=h.ops;omega) h.base h.neg hT).mono ?_
 rintro y N ⟨A,S',rfl,hm⟩
 have hnp:nB S*nG S≤160:=by
  have:nB S*nG S≤20*8:=Nat.mul_le_mul (by omega) (by omega)
  omega
 obtain⟨x1,x2,x3,x4⟩:=hm.x
 have x5:S'.now=S.now:=by rw[x4,h.q.now]
 have hS:S'={ S with seq:=S'.seq,ep:=S'.ep,deg:=S'.deg,ops:=S'.ops }:=by
  clear hm
  cases S'
  cases S
  simp only at x1 x2 x3 x5
  subst x1 x2 x3 x5
  rfl
 have hlx:=eK S
 have hle:∀ b k v,bK S b k=some v→v.t.e≤bJ S:=fun b k v hv=>by rw[← h.q.ep];exact (h.q.inv.tag b k v hv).2.2.2.2
 have hep:S'.ep=bJ S:=by
  obtain⟨e1,e2⟩:=hm.ep
  refine Int.le_antisymm ?_ ?_
  ·rcases e2 with e2|⟨b,k,v,hv,e⟩
   ·rw[e2];exact hlx.2.1
   ·rw[← e];exact hle b k v hv
  ·rcases hlx.2.2 with e3|⟨b,i,v,hv,_,e⟩
   ·rw[e3]
    rcases e2 with e2|⟨b,k,v,hv,e⟩
    ·omega
    ·have:=(iJ (h.q.inv.tag b k v hv).1).2.2.2.2.2.2.2.2.1
     omega
   ·rw[← e];exact e1 b i v hv
 have hl':bJ S'=bJ S:=by rw[hS];rfl
 have hlost:cG S'=cG S:=by rw[hS];rfl
 have hphi:phi S'=phi S:=by rw[hS];rfl
 obtain⟨C',m,hr⟩:=hm.fr
 obtain⟨es,hes,hes0⟩:=hm.stale
 obtain⟨bm,hbm⟩:=hm.base
 have hall:∀ c∈A.all,M0.next≤c:=fun c hc=>by
  have:=hm.new
  have:=hm.adr
  have:=h.nx
  simp only[bI.all,List.mem_cons] at hc
  rcases hc with rfl|rfl|rfl|rfl|rfl|hc
  ·omega
  ·omega
  ·omega
  ·omega
  ·omega
  ·rw[hm.ft] at hc;exact h.ge c hc
 have hb':dQ S' B:=h.base.same ⟨hl',x5,fun c k p e d=>by rw[hS];exact Iff.rfl⟩
 refine⟨A,S',rfl,hm.ext,⟨⟨⟨C',m,hr⟩,⟨_,hm.pend⟩,⟨bm,hbm⟩,?_⟩,⟨hr.inv,x4,by rw[hep,hl'],?_,?_⟩,hb',⟨fun n x hx=>(by cases hx),fun n d hx=>(by cases hx)⟩,h.neg,?_,by rw[x2];exact h.g,?_,?_,(by rw[hm.ext];exact fun c hc=>Nat.lt_of_lt_of_le (hT c hc).1 hm.keep.nxt),hall,Nat.le_trans h.nx hm.keep.nxt,eY h.low h.nx h.ge hm.keep⟩,hm.ap,hm.ft,x3,hm.keep,fun c hc=>?_,x1,x2,hm.ops.1,hm.ops.2⟩
 rotate_right
 ·have:=hm.new
  have:=hm.adr
  simp only[bI.all,List.mem_cons] at hc
  rcases hc with rfl|rfl|rfl|rfl|rfl|hc
  ·right;omega
  ·right;omega
  ·right;omega
  ·right;omega
  ·right;omega
  ·left;rw[← hm.ft];exact hc
 ·rw[hes,hes0 hle]
 ·rw[hlost,x2];exact h.q.lost
 ·rw[hphi,x2];exact h.q.phi
 ·rw[hm.deg]
  have:=h.q.lost
  simp[this]
 ·have h1:=hm.ops.2
  have h2:=h.ops
  have h3:(nB S:Int)*nG S≤160:=by exact_mod_cast hnp
  omega
 ·rw[hep,← h.q.ep];exact h.ep
theorem aHE{p:Nat}{C:aQ}(h:LC M0 g k n M p C S B)(hn:n≤1000000000){T:List Nat}(hT:∀ c∈T,c<M.next∧¬ aO C.fsA c):aB tb.P 12 [.ptr p 0] M fun y N=>∃ A S',y= .tup [.ptr A.f 0,i64 0]∧A.ext=T∧LF M0 g k (n+160) A N S' xY B∧A.p=p∧A.ft=foot p C∧S'.fs=S.fs∧aE M N (foot p C)∧∀ c∈A.all,c∈foot p C∨M.next≤c:=
 (aHD h hn hT).mono fun y N ⟨A,S',h1,h2,h3,h4,h5,h6,h7,h8,_⟩=>⟨A,S',h1,h2,h3,h4,h5,h6,h7,h8⟩
theorem aAk{p:Nat}{C:aQ}(h:LC M0 g k n M p C S B)(hn:n≤1000000000):aB tb.P 12 [.ptr p 0] M fun y N=>∃ A S',y= .tup [.ptr A.f 0,i64 0]∧LF M0 g k (n+160) A N S' xY B∧A.p=p∧A.ft=foot p C∧S'.fs=S.fs∧aE M N (foot p C)∧∀ c∈A.all,c∈foot p C∨M.next≤c:=
 (aHE h hn (T:=[]) (fun c hc=>by simp at hc)).mono fun y N ⟨A,S',h1,_,h2⟩=>⟨A,S',h1,h2⟩
theorem aDI(h:LF M0 g k n A M S P B){z:Int}(hz:0≤z∧z<dK g){w:AV}{d:dE}(hw:aL M w d)(hd:(d.length:Int)=g.by'):
 aB tb.P 15 [.ptr A.f 0,i64 z,w] M fun y N=>y=i64 0∧LF M0 g k n A N S (mH P z (some d)) B∧aE M N A.all:=by
 have hm:=bL.1 h.may
 refine (aMy h.fm h.hext (z:=z) (by rw[h.g];exact hz) hw (by rw[h.g];exact hd) ⟨by omega,by omega⟩).mono ?_
 rintro y N ⟨h1,_⟩
 obtain⟨rfl,hf,hk⟩:=h1 h.deg
 refine⟨rfl,{ h with fm:=hf,pend:=⟨fun n x hx=>?_,fun n d' hx=>?_⟩,ext:=fun c hc=>Nat.lt_of_lt_of_le (h.ext c hc) hk.nxt,nx:=Nat.le_trans h.nx hk.nxt,low:=eY h.low h.nx (fun c hc=>h.ge c (bI.mp_all c hc)) hk },hk.mono fun c hc _=>bI.mp_all c hc⟩
 ·unfold mH at hx
  split at hx
  ·rename_i e;subst e;rw[h.g];exact hz
  ·exact h.pend.rng n x hx
 ·unfold mH at hx
  split at hx
  ·injection hx with hx;injection hx with hx;subst hx;rw[h.g];exact hd
  ·exact h.pend.len n d' hx
theorem aLa(h:LF M0 g k n A M S P B){z:Int}(hz:0≤z∧z<dK g):
 aB tb.P 27 [.ptr A.f 0,i64 z] M fun y N=>(fD P B z=none→y=i64 4∧LF M0 g k n A N S P B∧aE M N A.all)∧(fD P B z≠none→y=i64 0∧LF M0 g k n A N S (mH P z none) B∧aE M N A.all):=by
 refine (aOD h.fm (z:=z) (by rw[h.g];exact hz)).mono ?_
 rintro y N ⟨_,h2,h3⟩
 refine⟨fun e=>?_,fun e=>?_⟩
 ·obtain⟨rfl,hk⟩:=h2 h.deg e
  exact⟨rfl,h.keep hk,hk.mono (by simp)⟩
 ·obtain⟨rfl,hf,hk⟩:=h3 h.deg e
  refine⟨rfl,{ h with fm:=hf,pend:=⟨fun n x hx=>?_,fun n d' hx=>?_⟩,ext:=fun c hc=>Nat.lt_of_lt_of_le (h.ext c hc) hk.nxt,nx:=Nat.le_trans h.nx hk.nxt,low:=eY h.low h.nx (fun c hc=>h.ge c (bI.mp_all c hc)) hk },hk.mono fun c hc _=>bI.mp_all c hc⟩
  ·unfold mH at hx
   split at hx
   ·rename_i e;subst e;rw[h.g];exact hz
   ·exact h.pend.rng n x hx
  ·unfold mH at hx
   split at hx
   ·cases hx
   ·exact h.pend.len n d' hx
theorem aHx(h:LF M0 g k n A M S P B)(hfs:(S.fs.length:Int)≤g.sp)(hn:n≤900000000)(hk:k≤16777214):
 aB tb.P 17 [.ptr A.f 0] M fun y N=>y=i64 0∧∃ S',LF M0 g (k+1) (n+31000) A N S' xY (fD P B)∧S'.fs=S.fs∧aE M N A.all∧(S'=S∨S'=(fQ S (gV P B (eZ S.g))).1∧(fQ S (gV P B (eZ S.g))).2=0):=by
 have hge:=h.q.inv.geo
 have hK0:dL S=9*(nB S+1)+1:=rfl
 have hops:=h.ops
 have hep:=h.ep
 refine (aFZ h.fm h.hext h.q h.pend h.deg (by omega) (by omega)).mono ?_
 rintro y N ⟨h1,h2⟩
 by_cases hP:∀ n,P n=none
 ·obtain⟨rfl,hf,hk'⟩:=h1 hP
  have e:P=xY:=funext hP
  subst e
  exact⟨rfl,S,{ h with fm:=hf,ops:=by omega,ep:=by omega,ext:=fun c hc=>Nat.lt_of_lt_of_le (h.ext c hc) hk'.nxt,nx:=Nat.le_trans h.nx hk'.nxt,low:=eY h.low h.nx (fun c hc=>h.ge c (bI.mw_all c hc)) hk' },rfl,hk'.mono (fun c hc _=>bI.mw_all c hc),.inl rfl⟩
 ·obtain⟨rfl,hk',h3,h4⟩:=h2 hP
  have hfl:=aD2 (P:=P) (B:=B) h.q h.base h.pend (by omega) (by omega)
  obtain⟨e1,e2⟩:=hfl.env
  rcases hfl.code with⟨c0,hq,hd,he,hb⟩|⟨_,_,hlo,_⟩
  ·refine⟨by rw[c0],_,⟨h3 c0,hq,hb,⟨fun n x hx=>(by cases hx),fun n d hx=>(by cases hx)⟩,fun p hp=>?_,by rw[hd];exact h.deg,by rw[e1];exact h.g,?_,by omega,(fun c hc=>Nat.lt_of_lt_of_le (h.ext c hc) hk'.nxt),h.ge,Nat.le_trans h.nx hk'.nxt,eY h.low h.nx (fun c hc=>h.ge c (bI.mw_all c hc)) hk'⟩,e2,hk'.mono (fun c hc _=>bI.mw_all c hc),.inr ⟨rfl,c0⟩⟩
   ·unfold fD
    cases hPp:P p with
    | none=>exact h.neg p hp
    | some x=>have:=(h.pend.rng p x hPp).1;omega
   ·have ho:=hfl.ops.2
    have hnp:nB S*nG S+1≤161:=by
     have:nB S*nG S≤20*8:=Nat.mul_le_mul (by omega) (by omega)
     omega
    have:dL S*((nB S*nG S+1:Nat):Int)≤190*161:=by
     refine Int.mul_le_mul (by omega) (by omega) (by omega) (by omega)
    generalize dL S*((nB S*nG S+1:Nat):Int)=X at ho this
    omega
  ·exfalso
   have:=aEa (fQ S (gV P B (eZ S.g))).1
   rw[e2] at this
   have e0:S.g.sp=g.sp:=by rw[h.g]
   omega
theorem aKh(h:LF M0 g k n A M S P B)(hfs:(S.fs.length:Int)≤g.sp)(hn:n≤900000000)(hk:k≤16777214):
 aB tb.P 17 [.ptr A.f 0] M fun y N=>y=i64 0∧∃ S',LF M0 g (k+1) (n+31000) A N S' xY (fD P B)∧S'.fs=S.fs∧aE M N A.all:=
 (aHx h hfs hn hk).mono fun y N ⟨h1,S',h2,h3,h4,_⟩=>⟨h1,S',h2,h3,h4⟩
theorem aCa(h:LF M0 g k n A M S P B){z:Int}(hz:0≤z∧z<dK g):
 aB tb.P 30 [.ptr A.f 0,i64 z] M fun y N=>LF M0 g k n A N S P B∧aE M N []∧((fD P B z=none∧y= .tup [eR,i64 4])∨∃ x d,fD P B z=some d∧y= .tup [x,i64 0]∧Gr N x d∧∀ c,aO x c→M.next≤c):=by
 have hm:=bL.1 h.may
 refine (aNR h.fm (z:=z) (by rw[h.g];exact hz) fun d hd=>?_).mono fun y N ⟨hk,h2⟩=>⟨h.keep hk,hk,h2⟩
 have:=h.len hz.1 hd
 omega
theorem aDG(h:LF M0 g k n A M S P B):aB tb.P 29 [.ptr A.f 0] M fun y N=>LF M0 g k n A N S P B∧dB N y (xA (fD P B) (dK g).toNat)∧aE M N []∧∀ c,aO y c→M.next≤c:=by
 refine (aKS h.fm).mono fun y N ⟨h1,h2,h3⟩=>⟨h.keep h2,?_,h2,h3⟩
 rw[h.g] at h1
 exact h1.ints
theorem aFD(h:LF M0 g k n A M S P B):aB tb.P 20 [.ptr A.f 0] M fun y N=>y=i64 (dK g)∧LF M0 g k n A N S P B∧aE M N []:=by
 obtain⟨C,m,hr⟩:=h.fm.fr
 refine (wJ M h.wf A.f (dO A S) A.p C hr.flat).mono fun y N ⟨h1,h2⟩=>⟨?_,h.keep h2,h2⟩
 rw[h1,hr.rel.g,h.g]
end
def dY(g:eV)(fs:List jK):Ps:=⟨g,fs,List.replicate g.bl.toNat ⟨[],0,0⟩,0,0,0,false,0⟩
theorem uH(g:eV)(fs:List jK)(b i:Nat):bK (dY g fs) b i=none:=by
 unfold bK dY
 simp only[List.getElem?_replicate]
 split
 ·rename_i B hB
  split at hB
  ·injection hB with hB;subst hB;rfl
  ·cases hB
 ·rfl
theorem zD(g:eV)(fs:List jK)(b:Nat):aN (dY g fs) b=0:=by
 unfold aN dY
 simp only[List.getElem?_replicate]
 split
 ·rename_i B hB
  split at hB
  ·injection hB with hB;subst hB;rfl
  ·cases hB
 ·rfl
theorem aGD{g:eV}(hg:fU g=true)(fs:List jK):eG (dY g fs):=by
 refine⟨hg,by simp[dY,nB],fun b=>by rw[zD];exact Nat.zero_le _,⟨fun b i v hv=>?_,fun b i v b' i' v' hv _ _=>?_⟩,fun b i v hv=>?_,fun b _=>zD g fs b,⟨Int.le_refl _,Int.le_refl _⟩,fun b B hB=>?_⟩
 ·rw[uH] at hv;cases hv
 ·rw[uH] at hv;cases hv
 ·rw[uH] at hv;cases hv
 ·simp only[dY,List.getElem?_replicate] at hB
  split at hB
  ·injection hB with hB;subst hB
   exact⟨Int.le_refl _,Int.le_refl _,Int.le_refl _,Int.le_refl _⟩
  ·cases hB
theorem aEF(g:eV)(fs:List jK):bJ (dY g fs)=0:=by
 obtain⟨_,_,h|⟨b,i,v,hv,_⟩⟩:=eK (dY g fs)
 ·exact h
 ·rw[uH] at hv;cases hv
theorem aLA{n:Nat}{is:Nat→Bool}(h:∀ b,b<n→is b=true):cnt n is=n:=by
 induction n with
 | zero=>rfl
 | succ n ih=>rw[dT,ih fun b hb=>h b (by omega),h n (by omega)];rfl
theorem aHZ{g:eV}(hg:fU g=true){fs:List jK}(hl:(cG (dY g fs):Int)≤g.sp):tR (dY g fs):=by
 have hm:=bL.1 hg
 refine⟨aGD hg fs,rfl,(aEF g fs).symm,hl,?_⟩
 have:phi (dY g fs)=nB (dY g fs):=aLA fun b _=>by unfold wN;rw[zD];simp
 rw[this]
 have:nB (dY g fs)=g.bl.toNat:=rfl
 show 2+g.sp≤_
 omega
theorem aAJ(g:eV)(fs:List jK):dQ (dY g fs) (fun _=>none):=fun p hp d=>by
 refine⟨fun h=>(by cases h),fun⟨e,b,i,v,hb,_⟩=>?_⟩
 have:=hb.1
 rw[uH] at this;cases this
theorem aGL{g:eV}{fs:List jK}{fsA:AV}{bb:Nat}{bs:List uZ}(hb:aEi g bs)(hl:bs.length=g.bl.toNat):aFz (gO g fsA fs bb bs) (dY g fs):=by
 refine⟨rfl,rfl,⟨rfl,rfl,rfl⟩,rfl,fun b B hB=>?_⟩
 have hB:bs[b]? =some B:=hB
 have hlt:=(List.getElem?_eq_some_iff.1 hB).1
 have hm:=List.mem_of_getElem? hB
 have e:=hb B hm
 refine⟨⟨[],0,0⟩,by simp only[dY,List.getElem?_replicate];rw[if_pos (by omega)],by rw[e];rfl,by rw[e];rfl,by rw[e];rfl,fun j v hv=>by simp at hv,fun j _ hj=>?_⟩
 rw[e]
 show List.take _ (List.drop _ (List.replicate _ _))=_
 rw[List.drop_replicate,List.take_replicate]
 congr 1
 have hj:j<g.pg.toNat:=hj
 have:(j+1)*aU g≤g.pg.toNat*aU g:=Nat.mul_le_mul_right _ hj
 rw[Nat.add_mul,Nat.one_mul] at this
 show min (aU g) (g.pg.toNat*aU g-j*aU g)=aU g
 omega
theorem aC2{M N:aC}{g:eV}{fs:List jK}{p:Nat}{fsA:AV}{bb:Nat}{bs:List uZ}(hg:fU g=true)(hl:(cG (dY g fs):Int)≤g.sp)(hk:aE M N [])(hc:bE N p (gO g fsA fs bb bs))(hb:aEi g bs)(hf:∀ c∈foot p (gO g fsA fs bb bs),M.next≤c):
 LC M g 0 0 N p (gO g fsA fs bb bs) (dY g fs) (fun _=>none):=
 ⟨hk.wf,hc,aGL hb hc.len,aHZ hg hl,aAJ g fs,fun _ _=>rfl,rfl,Int.le_refl _,Int.le_refl _,hf,hk.nxt,fun c hc=>hk.old c hc (by simp)⟩
theorem aCv{P:Int→Option (Option dE)}{B:Int→Option dE}{a:Int}{x:Option dE}(z:Int):fD (mH P a x) B z=if z=a then x else fD P B z:=by
 unfold fD mH
 by_cases h:z=a
 ·rw[if_pos h,if_pos h]
 ·rw[if_neg h,if_neg h]
theorem aIB{p:Nat}{M:aC}{xo yo:Operand}:cR tb .eql 28 xo yo (.ptr p 0) (.val (.pointer none)) M=some (.val (.bool false),M):=cI (by kernel_rfl)
theorem aIK{p:Nat}{M:aC}{xo yo:Operand}:cR tb .eql 28 xo yo (.ptr p 0) (.ptr p 0) M=some (.val (.bool true),M):=by
 refine cI ?_
 have h75:(match tb.ty.get 75 with|some te=>Nat.beq te.size 0|none=>true)=false:=by kernel_rfl
 show rN .eql (kY tb 28 (.ptr p 0) (.ptr p 0))=_
 unfold kY
 rw[aNY]
 cases hh:tb.ty.get 75 with
 | none=>rw[hh] at h75;cases h75
 | some te=>
   rw[hh] at h75
   simp only at h75
   simp only[hh,h75,cond_false,AM.beq_self,cond_true]
   rfl
theorem aJP{M:aC}(a:Int):dB (M.new (.cells [.val (.int .i64 a)] true)) (.sl M.next 0 1 1 none) [a]:=
 ⟨rfl,.inr ⟨_,_,_,_,rfl,⟨Nat.le_refl _,.inl rfl⟩,.inr ⟨_,_,get_new _ _,Nat.le_refl _,rfl⟩⟩⟩
theorem dB.keep{M N:aC}{x:AV}{l:List Int}(h:dB M x l)(hw:M.WF)(hk:aE M N []):dB N x l:=aP.keep0 h hw hk
theorem aL.keep0{M N:aC}{x:AV}{l:List (BitVec 8)}(h:aL M x l)(hw:M.WF)(hk:aE M N []):aL N x l:=aP.keep0 h hw hk
def awG:eV:=⟨8,4,32,0,2⟩
theorem aOl:fU awG=true:=by decide
theorem zR:dK awG=8:=by decide
theorem aCt(M:aC)(hw:M.WF):aB tb.P 10 [] M fun y N=>y= .val (.bool true):=by
 refine aOd ?_
 unfold F10
 refine aOP ?_
 unfold F35
 refine bG fun M1 hM1=>?_
 have hM1:M1=M.new (.cells [i64 0,i64 0,i64 0,i64 0,i64 0] true):=hM1
 have hk1:aE M M1 []:=by rw[hM1];exact aE.new hw _
 have hg1:M1.get M.next=some (.cells [i64 0,i64 0,i64 0,i64 0,i64 0] true):=by rw[hM1];exact get_new _ _
 refine aG (aJh awG hg1 rfl) ?_
 have hk2:aE M (M1.put M.next (.cells (eH awG) true)) []:=yN hk1 (Nat.le_refl _) (hk1.wf _ _ hg1) _
 refine aG (aGm (g:=awG) (by rw[aC.get_put,if_pos rfl])) ?_
 generalize M1.put M.next (.cells (eH awG) true)=M2 at hk2 ⊢
 refine⟨_,_,_,_,_,rfl,?_⟩
 refine (aNd M2 hk2.wf awG _ [] (aP.nil) (by simp)).mono ?_
 rintro y8 M9 ⟨hk9,h9⟩
 rcases h9 with⟨hno,_⟩|⟨_,p,fsA,bb,bs,rfl,hc,hb,hf,hfi⟩
 ·exact absurd hno (by decide)
 have hlost:(cG (dY awG []):Int)≤awG.sp:=by decide
 have hL:=aC2 aOl hlost hk9 hc hb hf
 refine (aAk hL (by decide)).mono ?_
 rintro _ M11 ⟨A,S,rfl,hF,hAp,_,hfs,_⟩
 refine⟨_,_,rfl,?_⟩
 refine bG fun K17 hK17=>?_
 refine aS (fun h=>absurd h (by decide)) fun _=>?_
 refine aG jA ?_
 simp only[cK]
 rw[hK17]
 dsimp only
 simp only[gE]
 clear hK17
 clear K17
 refine (vY M11 hF.wf 9 32 (by decide) (by decide)).mono ?_
 rintro y18 M19 ⟨hk19,hy,_⟩
 refine (aDI (hF.keep hk19) (z:=2) (by rw[zR];decide) hy (by rw[iH];rfl)).mono ?_
 rintro _ M21 ⟨rfl,hF,_⟩
 simp only[i64,aJ]
 refine (aKh hF (by rw[hfs];decide) (by decide) (by decide)).mono ?_
 rintro _ M24 ⟨rfl,S2,hF,hfs2,_⟩
 simp only[i64,aJ]
 obtain⟨C1,hL1,_⟩:=hF.left
 rw[hAp] at hL1
 refine (aAk hL1 (by decide)).mono ?_
 rintro _ M27 ⟨A,S3,rfl,hF,hAp,_,hfs3,_⟩
 refine⟨_,_,rfl,?_⟩
 refine bG fun K33 hK33=>?_
 refine aS (fun h=>absurd h (by decide)) fun _=>?_
 refine aG jA ?_
 simp only[cK]
 rw[hK33]
 dsimp only
 simp only[gE]
 clear hK33
 clear K33
 have hv:∀ z,fD xY (fD (mH xY 2 (some (nW 9 32))) (fun _=>none)) z=if z=2 then some (nW 9 32) else none:=fun z=>by rw[aPl,aCv];rfl
 refine (aCa hF (z:=2) (by rw[zR];decide)).mono ?_
 rintro y34 M35 ⟨hF,_,hr⟩
 rcases hr with⟨hn,_⟩|⟨x,d,hd,rfl,hgr,_⟩
 ·rw[hv,if_pos rfl] at hn;cases hn
 rw[hv,if_pos rfl] at hd
 injection hd with hd
 subst hd
 refine⟨_,_,rfl,?_⟩
 have hx:=hgr.at
 have hw35:=hF.wf
 refine (aCa hF (z:=3) (by rw[zR];decide)).mono ?_
 rintro y38 M39 ⟨hF,hk39,hr⟩
 rcases hr with⟨_,rfl⟩|⟨x3,d3,hd3,_⟩
 rotate_left
 ·rw[hv,if_neg (by decide)] at hd3;cases hd3
 have hx:=hx.keep0 hw35 hk39
 refine⟨_,_,rfl,?_⟩
 refine bG fun K62 hK62=>?_
 refine aS (fun _=>?_) fun h=>absurd h (by decide)
 refine aS (fun _=>?_) fun h=>absurd h (by decide)
 refine aS (fun _=>?_) fun h=>absurd h (by decide)
 refine (vY M39 hF.wf 9 32 (by decide) (by decide)).mono ?_
 rintro y42 M43 ⟨hk43,hy,_⟩
 have hx:=hx.keep0 hF.wf hk43
 have hF:=hF.keep hk43
 refine (oV M43 _ _ _ _ hx hy (by rw[iH];decide)).mono ?_
 rintro _ _ ⟨rfl,rfl⟩
 have ed:decide (nW 9 32=nW 9 32)=true:=decide_eq_true rfl
 simp only[cK,ed,gU]
 refine aS (fun _=>?_) fun h=>absurd h (by decide)
 refine (aFD hF).mono ?_
 rintro _ M48 ⟨rfl,hF,_⟩
 simp only[i64,aJ,zR]
 refine aS (fun _=>?_) fun h=>absurd h (by decide)
 refine (aDG hF).mono ?_
 rintro y50 M51 ⟨hF,hy5,_,_⟩
 refine bG fun M52 hM52=>?_
 have hk52:aE M51 M52 []:=by rw[show M52=_ from hM52];exact aE.new hF.wf _
 have hone:dB M52 (.sl M51.next 0 1 1 none) [2]:=by rw[show M52=_ from hM52];exact aJP _
 have hp:xA (fD xY (fD (mH xY 2 (some (nW 9 32))) (fun _=>none))) (dK awG).toNat=[2]:=by
  rw[zR];decide
 rw[hp] at hy5
 refine (oS M52 _ _ _ _ (hy5.keep hF.wf hk52) hone (by decide)).mono ?_
 rintro _ _ ⟨rfl,rfl⟩
 simp only[cK,decide_true,gU]
 have hF:=hF.keep hk52
 obtain⟨C2,m2,hr⟩:=hF.fm.fr
 refine (aPt _ A.f (dO A S3) A.p C2 hr.flat).mono ?_
 rintro _ M57 ⟨rfl,rfl⟩
 rw[hAp]
 refine aG aIK ?_
 simp only[cK]
 rw[hK62]
def F6(a0 a1 a2 a3:AV)(M:aC)(Q:AV→aC→Prop):Prop:=∃ F G H I J:Int,a0=(.agg [F,G,H,I,J])∧zI .i64 a1 fun N0=>zI .i64 a2 fun K=>zI .u8 a3 fun e=>aI (M.new (.cells [F,G,H,I,J] true)) fun L=>aA (aH tb 23 (.ptr M.next 0) L) fun O0=>∃ N O R S T:Int,O0.1=(.agg [N,O,R,S,T])∧(aB tb.P 11 [(.agg [N,O,R,S,T]),(.val (.slice none 0 0))] L fun f j=>aI (fun (P0:Bool) (U:aC)=>aD (P0) (aB tb.P 10 [] U fun R0 S0=>zB R0 fun T0=>Q T0 S0) (aB tb.P 12 [f] U fun U0 s=>∃ (c:AV) (V:Int),U0=(.tup [c,V])∧(aI (fun (V0:Bool)=>aD (V0) (Q false s) (aB tb.P 20 [c] s fun W0 W=>zI .i64 W0 fun X0=>aD (decide (X0<(1:Int))) (Q false W) (aB tb.P 20 [c] W fun Y0 Z0=>zI .i64 Y0 fun c1=>aB tb.P 14 [N0,c1] Z0 fun d1 e1=>zI .i64 d1 fun d=>aB tb.P 20 [c] e1 fun f1 X=>zI .i64 f1 fun g1=>aA (cR tb .rem 3 (.tmp 46) (.tmp 48) (aK .i64 d 1) g1 X) fun h1=>zI .i64 h1.1 fun k=>∃ t:Int→Nat→aC→Prop,(∃ j1:Nat,t (0:Int) j1 X)∧∀ (_:Nat→Option AV) (l:Int) (Y:Nat) (Z:aC),t l Y Z→(aB tb.P 14 [K,(12:Int)] Z fun l1 u=>zI .i64 l1 fun m1=>aD (decide (l≤m1)) (aI (fun (n1:Bool) (c0:aC)=>aD (n1) (Q false c0) (∃ d0:Nat,d0<Y∧(t (aK .i64 l 1) d0 c0))) fun v=>aA (aH tb 3 (.ptr M.next 2) u) fun o1=>zI .i64 o1.1 fun r1=>aB tb.P 16 [(.val (.int .u8 (aK .u8 e (IntKind.wrap .u8 l)))),r1] u fun t1 u1=>aB tb.P 15 [c,d,t1] u1 fun v1 w=>zI .i64 v1 fun w1=>aD (w1 != (0:Int)) (v true w) (aA (aH tb 3 (.ptr M.next 2) w) fun x1=>zI .i64 x1.1 fun y1=>aB tb.P 16 [(.val (.int .u8 e)),y1] w fun A1 B1=>aB tb.P 15 [c,k,A1] B1 fun C1 e0=>zI .i64 C1 fun D1=>aD (D1 != (0:Int)) (v true e0) (aB tb.P 17 [c] e0 fun E1 F1=>zI .i64 E1 fun G1=>v (G1 != (0:Int)) F1))) (aI (fun (H1:Bool) (f0:aC)=>aD (H1) (Q false f0) (aB tb.P 12 [f] f0 fun I1 m=>∃ (g:AV) (g0:Int),I1=(.tup [g,g0])∧(aI (fun (J1:Bool) (h0:aC)=>aD (J1) (Q false h0) (∃ x:Int→Nat→aC→Prop,(∃ K1:Nat,x (0:Int) K1 h0)∧∀ (_:Nat→Option AV) (n:Int) (j0:Nat) (l0:aC),x n j0 l0→(aB tb.P 14 [K,(12:Int)] l0 fun L1 y=>zI .i64 L1 fun N1=>aD (decide (n≤N1)) (aI (fun (O1:Bool) (m0:aC)=>aD (O1) (Q false m0) (∃ n0:Nat,n0<j0∧(x (aK .i64 n 1) n0 m0))) fun o0=>aA (aH tb 3 (.ptr M.next 2) y) fun P1=>zI .i64 P1.1 fun R1=>aB tb.P 16 [(.val (.int .u8 (aK .u8 e (IntKind.wrap .u8 n)))),R1] y fun S1 T1=>aB tb.P 15 [g,k,S1] T1 fun U1 r0=>zI .i64 U1 fun V1=>aD (V1 != (0:Int)) (o0 true r0) (aB tb.P 17 [g] r0 fun W1 X1=>zI .i64 W1 fun Y1=>o0 (Y1 != (0:Int)) X1)) (aB tb.P 12 [f] y fun Z1 o=>∃ (h:AV) (t0:Int),Z1=(.tup [h,t0])∧(aI (fun (c2:Bool) (u0:aC)=>aD (c2) (Q false u0) (aB tb.P 12 [f] u0 fun d2 z=>∃ (p:AV) (v0:Int),d2=(.tup [p,v0])∧(aI (fun (e2:Bool)=>aD (e2) (Q false z) (aB tb.P 30 [p,d] z fun f2 A=>∃ (w0:AV) (x0:Int),f2=(.tup [w0,x0])∧(aI (fun (g2:Bool) (h2:aC)=>Q g2 h2) fun r=>aD (x0==(0:Int)) (aA (aH tb 3 (.ptr M.next 2) A) fun j2=>zI .i64 j2.1 fun l2=>aB tb.P 16 [(.val (.int .u8 e)),l2] A fun m2 n2=>aB tb.P 31 [w0,m2] n2 fun o2 y0=>zB o2 fun r2=>aD (r2) (aB tb.P 29 [p] y0 fun t2 B=>aA (cC tb false 25 t2 B) fun u2=>zI .i64 u2.1 fun v2=>aD (v2==(2:Int)) (aB tb.P 10 [] B fun w2 x2=>zB w2 fun y2=>r y2 x2) (r false B)) (r false y0)) (r false A)))) fun z0=>aD (v0 != (0:Int)) (z0 true) (aA (cR tb .eql 30 (.tmp 180) (.const (.pointer none)) p (.val (.pointer none)) z) fun A2=>zB A2.1 fun B2=>z0 B2)))) fun i=>aD (t0 != (0:Int)) (i true o) (aA (cR tb .eql 30 (.tmp 146) (.const (.pointer none)) h (.val (.pointer none)) o) fun C2=>zB C2.1 fun D2=>aD (D2) (i true o) (aB tb.P 29 [h] o fun E2 A0=>aI (A0.new (.cells [k] true)) fun F2=>aB tb.P 28 [E2,(.sl A0.next 0 1 1 none)] F2 fun G2 C=>zB G2 fun H2=>aD (!H2) (i true C) (aA (aH tb 3 (.ptr M.next 2) C) fun I2=>zI .i64 I2.1 fun J2=>aB tb.P 16 [(.val (.int .u8 e)),J2] C fun K2 L2=>aB tb.P 15 [h,d,K2] L2 fun N2 B0=>zI .i64 N2 fun O2=>aD (O2 != (0:Int)) (i true B0) (aB tb.P 17 [h] B0 fun P2 R2=>zI .i64 P2 fun S2=>i (S2 != (0:Int)) R2))))))))) fun D=>aD (g0 != (0:Int)) (D true m) (aA (cR tb .eql 30 (.tmp 105) (.const (.pointer none)) g (.val (.pointer none)) m) fun T2=>zB T2.1 fun U2=>aD (U2) (D true m) (aB tb.P 29 [g] m fun V2 C0=>aI (C0.new (.cells [k] true)) fun W2=>aB tb.P 28 [V2,(.sl C0.next 0 1 1 none)] W2 fun X2 Y2=>zB X2 fun Z2=>D (!Z2) Y2))))) fun E=>aB tb.P 27 [c,d] u fun c3 D0=>zI .i64 c3 fun d3=>aD (d3 != (0:Int)) (E true D0) (aB tb.P 27 [c,d] D0 fun e3 E0=>zI .i64 e3 fun f3=>aD (f3 != (4:Int)) (E true E0) (aB tb.P 17 [c] E0 fun g3 h3=>zI .i64 g3 fun j3=>E (j3 != (0:Int)) h3))))))) fun F0=>aD (V != (0:Int)) (F0 true) (aA (cR tb .eql 30 (.tmp 35) (.const (.pointer none)) c (.val (.pointer none)) s) fun l3=>zB l3.1 fun m3=>F0 m3)))) fun G0=>aA (cR tb .eql 28 (.tmp 19) (.const (.pointer none)) f (.val (.pointer none)) j) fun n3=>zB n3.1 fun o3=>aD (o3) (G0 true j) (aA (aH tb 23 (.ptr M.next 0) j) fun r3=>∃ H0 I0 J0 K0 L0:Int,r3.1=(.agg [H0,I0,J0,K0,L0])∧(aB tb.P 22 [(.agg [H0,I0,J0,K0,L0])] j fun t3 u3=>zB t3 fun v3=>G0 (!v3) u3)))
section
variable {M0:aC} {g:eV} {k n:Int} {A:bI} {M:aC} {S:Ps} {P:Int→Option (Option dE)} {B:Int→Option dE}
end
theorem cD.fields{M:aC}{x:AV}{fs:List jK}(h:cD M x fs){i:Nat}(hi:i<fs.length):
 ∃ b o,bF tb 24 x (.val (.int .i64 (i:Int)))=some (.ptr b o)∧aW tb 3 (.ptr b o) M=some (i64 fs[i].blk)∧aW tb 4 (.ptr b (o+1)) M=some (.val (.bool fs[i].fac))∧aW tb 3 (.ptr b (o+2)) M=some (i64 fs[i].aft):=by
 obtain⟨b,o,h1,_,h2,_⟩:=aP.at h aD6 rfl aE6 rfl hi (k':= .i64)
 have hl:∀ j,j<3→(fs.flatMap fF)[i*3+j]? =(fF fs[i])[j]? :=fun j hj=>nZ tB hi hj
 refine⟨b,o,h1,?_,?_,?_⟩
 ·unfold aW
  rw[dR]
  simp only[TI.isAgg,cond_false]
  have:=h2 0 (by omega)
  rw[hl 0 (by omega)] at this
  exact this
 ·unfold aW
  rw[ty4]
  simp only[TI.isAgg,cond_false]
  have:=h2 1 (by omega)
  rw[hl 1 (by omega)] at this
  exact this
 ·unfold aW
  rw[dR]
  simp only[TI.isAgg,cond_false]
  have:=h2 2 (by omega)
  rw[hl 2 (by omega)] at this
  exact this
def aKE(g:eV)(f:jK):Bool:=decide (f.blk<0)||(decide (f.blk≥g.bl)||(decide (f.aft<0)||(decide (f.aft>1073741824)||(f.fac&&(f.aft != 0)))))
theorem aFh(g:eV)(pre:List jK)(f:jK):okF g pre f= !((gH pre f.blk).isSome||aKE g f):=rfl
theorem aOy(M:aC)(hw:M.WF)(g:eV)(x:AV)(fs:List jK)(hx:cD M x fs)(hfl:fs.length≤9223372036854775807):aB tb.P 32 [jV g,x] M fun y N=>y= .val (.bool (pJ g fs))∧aE M N []:=by
 refine aNN ?_
 unfold F32
 refine⟨_,_,_,_,_,rfl,?_⟩
 refine bG fun M6 hM6=>?_
 have hM6':M6=M.new (.cells (eH g) true):=hM6
 have hK:aE M M6 []:=by rw[hM6'];exact aE.new hw _
 have hg:M6.get M.next=some (.cells (eH g) true):=by rw[hM6'];exact get_new _ _
 clear hM6 hM6'
 refine bG fun K20 hK20=>?_
 obtain⟨_,_,_,_,_,l5⟩:=bX hg
 refine aG (aR l5) ?_
 refine⟨_,_,_,_,_,rfl,?_⟩
 refine (aGR M6 hK.wf g).mono ?_
 rintro y N ⟨rfl,hk⟩
 simp only[cK]
 have hk1:=hK.trans0 hk
 have hgN:=hk.get hK.wf hg (by simp)
 have hxN:cD N x fs:=aP.keep0 hx hw hk1
 refine aS (fun h=>?_) (fun hm=>?_)
 ·have h:fU g=false:=by simpa using h
  rw[hK20]
  refine aS (fun _=>⟨?_,hk1⟩) (fun h=>by cases h)
  unfold pJ
  rw[h];rfl
 have hm:fU g=true:=by simpa using hm
 refine aG (lF hxN.len) ?_
 simp only[aJ]
 rw[hK20]
 clear hK20 K20
 refine aS (fun h=>⟨?_,hk1⟩) (fun h=>?_)
 ·have h:¬ fs.length≤8:=by have:(8:Int)<fs.length:=by simpa using h
                           omega
  unfold pJ
  rw[decide_eq_false h,Bool.and_false,Bool.false_and]
 have h8:fs.length≤8:=by have:¬ ((fs.length:Int)>8):=by simpa using h
                         omega
 clear h
 refine⟨fun z n P=>∃ i:Nat,z=i∧n=fs.length-i∧i≤fs.length∧aE N P []∧∀ j,j<i→okF g (fs.take j) (fs.getD j mM)=true,⟨fs.length,0,rfl,rfl,Nat.zero_le _,aE.refl hk.wf,fun j h=>by omega⟩,?_⟩
 rintro _ z n P ⟨i,rfl,rfl,hi,hkP,hok⟩
 have hxP:cD P x fs:=aP.keep0 hxN hk.wf hkP
 have hall:=hk1.trans0 hkP
 refine aG (lF hxP.len) ?_
 simp only[aJ]
 refine aS (fun hlt=>?_) (fun hge=>?_)
 rotate_left
 ·have hge:i=fs.length:=by have:¬ (i:Int)<fs.length:=by simpa using hge
                           omega
  subst hge
  refine⟨?_,hall⟩
  unfold pJ
  rw[hm,decide_eq_true h8,List.all_eq_true.2 (fun j hj=>hok j (List.mem_range.1 hj))]
  rfl
 have hlt:i<fs.length:=by simpa using hlt
 obtain⟨p,o,h1,h2⟩:=hxP.at hlt
 have hgd:fs.getD i mM=fs[i]:=by rw[List.getD_eq_getElem?_getD,List.getElem?_eq_getElem hlt];rfl
 generalize hf:fs[i]=f at*
 refine aG (aX h1) ?_
 simp only[bR]
 refine aG (aR h2) ?_
 refine⟨_,_,_,rfl,?_⟩
 refine bG fun M35 hM35=>?_
 subst hM35
 refine aG (lM (sX f (get_new P (.cells (fF mM) true)) rfl)) ?_
 rw[aC.new_put]
 have hP1:=aE.new hkP.wf (.cells (fF f) true)
 have hf1:=get_new P (.cells (fF f) true)
 generalize P.new (.cells (fF f) true)=P1 at hP1 hf1
 have hx1:cD P1 x fs:=aP.keep0 hxP hkP.wf hP1
 have hg1:=(hkP.trans0 hP1).get hk.wf hgN (by simp)
 have hkN1:=hkP.trans0 hP1
 have hall1:=hall.trans0 hP1
 obtain⟨m0,m1,m2,_⟩:=rX hf1
 obtain⟨g0,_⟩:=bX hg1
 have bad:okF g (fs.take i) f=false→pJ g fs=false:=fun h=>by
  unfold pJ
  rw[List.all_eq_false.2 ⟨i,List.mem_range.2 hlt,by rw[hgd,h];simp⟩,Bool.and_false]
 refine bG fun K hKK=>?_
 have step:∀ b:Bool,b=aKE g f→K b:=by
  intro b hb
  rw[hKK]
  refine aS (fun h=>⟨?_,hall1⟩) (fun h=>?_)
  ·rw[bad (by rw[aFh,← hb,h,Bool.or_true];rfl)]
  refine⟨fun z n Q=>∃ k:Nat,z=k∧n=i-k∧k≤i∧Q=P1∧∀ (j:Nat) (hj:j<fs.length),j<k→fs[j].blk≠f.blk,⟨i,0,rfl,rfl,Nat.zero_le _,rfl,fun j _ h=>by omega⟩,?_⟩
  rintro _ z n Q ⟨k,rfl,rfl,hk',rfl,hne⟩
  refine aS (fun hlt2=>?_) (fun hge2=>?_)
  ·have hlt2:k<i:=by simpa using hlt2
   obtain⟨p',o',q1,q2,_,_⟩:=hx1.fields (i:=k) (by omega)
   refine aG (aX q1) ?_
   simp only[bR]
   refine aG (aR q2) ?_
   simp only[i64,aJ]
   refine aG (aR m0) ?_
   simp only[i64,aJ]
   refine aS (fun he=>⟨?_,hall1⟩) (fun he=>?_)
   ·have he:fs[k].blk=f.blk:=by simpa using he
    have hfind:(gH (fs.take i) f.blk).isSome=true:=by
     unfold gH
     rw[List.find?_isSome]
     refine⟨fs[k],?_,by simp[he]⟩
     rw[List.mem_iff_getElem]
     exact⟨k,by rw[List.length_take];omega,by rw[List.getElem_take]⟩
    rw[bad (by rw[aFh,hfind,Bool.true_or];rfl)]
   ·have he:fs[k].blk≠f.blk:=by simpa using he
    refine⟨i-(k+1),by omega,k+1,dM (by omega),rfl,hlt2,by trivial,fun j hj hjk=>?_⟩
    by_cases e:j=k
    ·subst e;exact he
    ·exact hne j hj (by omega)
  ·have hge2:k=i:=by have:¬ (k:Int)<i:=by simpa using hge2
                     omega
   subst hge2
   have hfind:(gH (fs.take k) f.blk).isSome=false:=by
    unfold gH
    rw[Option.isSome_eq_false_iff,Option.isNone_iff_eq_none,List.find?_eq_none]
    intro f' hf'
    obtain⟨j,hj,rfl⟩:=List.getElem_of_mem hf'
    rw[List.length_take] at hj
    rw[List.getElem_take]
    simpa using hne j (by omega) (by omega)
   refine⟨fs.length-(k+1),by omega,k+1,dM (by omega),rfl,hlt,hkN1,fun j hj=>?_⟩
   by_cases hji:j=k
   ·subst hji
    rw[hgd,aFh,hfind,← hb,h];rfl
   ·exact hok j (by omega)
 unfold aKE at step
 refine aG (aR m0) ?_
 simp only[i64,aJ]
 refine aS (fun q=>step true (by rw[q];rfl)) (fun q=>?_)
 rw[q,Bool.false_or] at step
 refine aG (aR m0) ?_
 simp only[i64,aJ]
 refine aG (aR g0) ?_
 simp only[i64,aJ]
 refine aS (fun q=>step true (by rw[q];rfl)) (fun q=>?_)
 rw[q,Bool.false_or] at step
 refine aG (aR m2) ?_
 simp only[i64,aJ]
 refine aS (fun q=>step true (by rw[q];rfl)) (fun q=>?_)
 rw[q,Bool.false_or] at step
 refine aG (aR m2) ?_
 simp only[i64,aJ]
 refine aS (fun q=>step true (by rw[q];rfl)) (fun q=>?_)
 rw[q,Bool.false_or] at step
 refine aG (aR m1) ?_
 simp only[cK]
 refine aS (fun q=>?_) (fun q=>step false (by rw[q];rfl))
 rw[q,Bool.true_and] at step
 refine aG (aR m2) ?_
 simp only[i64,aJ]
 exact step _ rfl
theorem cD.keep0{M N:aC}{x:AV}{fs:List jK}(h:cD M x fs)(hw:M.WF)(hk:aE M N []):cD N x fs:=aP.keep0 h hw hk
theorem aDB(M:aC)(hw:M.WF)(g:eV)(hg:fU g=true):aB tb.P 13 [jV g] M fun y N=>y=i64 (dK g)∧aE M N []:=by
 have hm:=bL.1 hg
 refine aNL ?_
 unfold F13
 refine⟨_,_,_,_,_,rfl,?_⟩
 refine bG fun M6 hM6=>?_
 have hM6:M6=M.new (.cells (eH g) true):=hM6
 have hk6:aE M M6 []:=by rw[hM6];exact aE.new hw _
 have hbox:M6.get M.next=some (.cells (eH g) true):=by rw[hM6];exact get_new _ _
 obtain⟨_,_,_,_,_,l5⟩:=bX hbox
 refine aG (aR l5) ?_
 refine⟨_,_,_,_,_,rfl,?_⟩
 refine (aGR M6 hk6.wf g).mono ?_
 rintro y N ⟨rfl,hk⟩
 simp only[cK,hg,Bool.not_true,gE]
 have hbox':=hk.get hk6.wf hbox (by simp)
 obtain⟨_,_,_,_,_,l5⟩:=bX hbox'
 refine aG (aR l5) ?_
 refine⟨_,_,_,_,_,rfl,?_⟩
 have hkN:=hk6.trans0 hk
 clear hM6
 refine aKt ?_
 unfold F50
 refine⟨_,_,_,_,_,rfl,?_⟩
 simp only[dA]
 have hg5:=get_new N (.cells (eH g) true)
 obtain⟨q0,q1,q2,q3,q4,_⟩:=bX hg5
 have hK:=aE.new hk.wf (.cells (eH g) true)
 refine aG (aR q0) ?_
 simp only[i64,aJ]
 refine aG (aR q3) ?_
 simp only[i64,aJ]
 refine aG (aR q1) ?_
 simp only[i64,aJ]
 refine aG (uN _ _ _) ?_
 simp only[aJ]
 obtain⟨e,hb1,hb2⟩:=aCd ⟨hm.1.1,hm.1.2⟩ ⟨hm.2.1.1,hm.2.1.2⟩ ⟨hm.2.2.2.1.1,hm.2.2.2.1.2⟩
 refine⟨?_,hkN.trans0 hK⟩
 unfold dK
 rw[e,show max ((g.bl-g.sp-3)*g.pg-4) 0=(g.bl-g.sp-3)*g.pg-4 by omega]
theorem oP.growA{M:aC}{x:AV}{l:List AV}{b:Nat}{v:AV}(hw:M.WF)(h:oP M x l)(hb:M.get b=some (.cells [v] true))(hv:v.one=true)(hl:l.length≤10000):
 ∃ x' N,aV tb 25 25 x (.sl b 0 1 1 none) M=some (x',N)∧oP N x' (l++[v])∧N.WF∧M.next≤N.next∧(∀ c,c<M.next→¬ aO x c→N.get c=M.get c)∧∀ c,aO x' c→M.next≤c:=by
 have hsl:aP 1 M (.sl b 0 1 1 none) 1 [v]:=⟨rfl,.inr ⟨_,_,_,_,rfl,⟨Nat.le_refl _,.inl rfl⟩,.inr ⟨_,_,hb,by simp,by simp⟩⟩⟩
 rcases h with⟨rfl,rfl⟩|⟨b',hg⟩
 ·obtain⟨N,h1,rfl⟩:=append_nil (T:=tb) (k:=1) lY rfl dR rfl hsl (by omega) ⟨by simp only;omega,by omega⟩
  refine⟨_,_,h1,.inr ⟨M.next,rfl,by simp,by simp,get_new _ _⟩,hw.new _,Nat.le_succ _,fun c hc _=>by rw[aC.get_new,if_neg (by omega)],fun c hc=>by rw[← hc.2];exact Nat.le_refl _⟩
 ·have hbM:=hw _ _ hg.2.2.2
  obtain⟨N,h1,rfl⟩:=jB (T:=tb) (k:=1) lY rfl dR rfl hg hsl (by omega) (fun u hu=>by rw[List.mem_singleton.1 hu];exact hv) ⟨by simp only;omega,by omega⟩
  refine⟨_,_,h1,.inr ⟨M.next,by simp,by simp,by simp,?_⟩,(hw.kill _).new _,Nat.le_succ _,fun c hc hn=>?_,fun c hc=>by rw[← hc.2];exact Nat.le_refl _⟩
  ·rw[aC.get_new,if_pos (by rfl)]
  ·have hcb:c≠b':=fun he=>hn (by rw[he,hg.1];exact⟨by have:=hg.2.1;omega,rfl⟩)
   rw[aC.get_new,if_neg (by show c≠M.next;omega),aC.get_kill,if_neg hcb]
structure Bgn (M P:aC) (q:Nat) (x y:AV) (n:Nat):Prop where
 keep:aE M P []
 main:P.get q=some (.cells [x,y,eR,.val (.bool false)] true)
 ge:M.next≤q
 xs:oP P x (List.replicate n (i64 (-1)))
 ys:oP P y (List.replicate n (i64 (-1)))
 xq:∀ c,aO x c→M.next≤c∧c≠q
 yq:∀ c,aO y c→M.next≤c∧c≠q
 xy:∀ c,aO x c→¬ aO y c
theorem oP.lt{M:aC}{x:AV}{l:List AV}(h:oP M x l)(hw:M.WF):∀ c,aO x c→c<M.next:=fun c hc=>by
 rcases h with⟨rfl,_⟩|⟨b,h1,_,_,h4⟩
 ·exact hc.elim
 ·rw[h1] at hc
  rw[← hc.2]
  exact hw _ _ h4
theorem aKW(M:aC)(hw:M.WF)(n:Nat)(hn:n≤1000):aB tb.P 33 [i64 (n:Int)] M fun y N=>∃ q u v,y= .ptr q 0∧Bgn M N q u v n:=by
 refine aPI ?_
 unfold F33
 simp only[i64,aJ]
 refine bG fun M2 hM2=>?_
 have hM2:M2=M.new (.cells [eR,eR,eR,.val (.bool false)] true):=hM2
 refine⟨fun z q P=>∃ (k:Nat) (u v:AV),z=(k:Int)∧q=n-k∧k≤n∧Bgn M P M.next u v k,⟨n,0,eR,eR,rfl,rfl,Nat.zero_le _,⟨by rw[hM2];exact aE.new hw _,by rw[hM2];exact get_new _ _,Nat.le_refl _,.inl ⟨rfl,rfl⟩,.inl ⟨rfl,rfl⟩,fun c hc=>hc.elim,fun c hc=>hc.elim,fun c hc=>hc.elim⟩⟩,?_⟩
 rintro _ _ _ P ⟨k,u,v,rfl,rfl,hk,hB⟩
 refine aS (fun hlt=>?_) (fun hge=>?_)
 ·have hlt:k<n:=Int.ofNat_lt.1 (of_decide_eq_true hlt)
  have hwP:=hB.keep.wf
  have hqP:=hwP _ _ hB.main
  have hMP:=hB.keep.nxt
  refine bG fun M8 hM8=>?_
  have hM8:M8=⟨P.next+2,P.rows⟩:=hM8
  have hg8:∀ c,M8.get c=P.get c:=fun c=>by rw[hM8];rfl
  have hn8:M8.next=P.next+2:=by rw[hM8]
  have hw8:M8.WF:=by rw[hM8];exact (yX hwP).wf
  have hm8:M8.get M.next=_:=(hg8 _).trans hB.main
  refine aG (aR (dI lY rfl hm8 (o:=0) (v:=u) rfl)) ?_
  refine aG (aR (dI lY rfl hm8 (o:=1) (v:=v) rfl)) ?_
  refine bG fun M11 hM11=>?_
  have hM11:M11=M8.put P.next (.cells [i64 (-1)] true):=hM11
  have hg11:∀ c,c≠P.next→M11.get c=P.get c:=fun c hc=>by rw[hM11,aC.get_put,if_neg hc,hg8]
  have hn11:M11.next=P.next+2:=by rw[hM11];exact hn8
  have hw11:M11.WF:=by rw[hM11];exact hw8.put (by omega) _
  have hu11:oP M11 u (List.replicate k (i64 (-1))):=hB.xs.mono fun c r hc hr=>by rw[hg11 c (by have:=hB.xs.lt hwP c hc;omega)];exact hr
  obtain⟨u',N12,e1,e2,e3,e4,e5,e6⟩:=hu11.growA hw11 (b:=P.next) (v:=i64 (-1)) (by rw[hM11,aC.get_put,if_pos rfl]) rfl (by rw[List.length_replicate];omega)
  refine aG e1 ?_
  have hq12:N12.get M.next=some (.cells [u,v,eR,.val (.bool false)] true):=by
   rw[e5 M.next (by omega) (fun hc=>(hB.xq _ hc).2 rfl),hg11 M.next (by omega)]
   exact hB.main
  refine⟨aG (aR (dI lY rfl hq12 (o:=1) (v:=v) rfl)) rfl,?_⟩
  refine bG fun M14 hM14=>?_
  have hM14:M14=N12.put (P.next+1) (.cells [i64 (-1)] true):=hM14
  have hg14:∀ c,c≠P.next+1→M14.get c=N12.get c:=fun c hc=>by rw[hM14,aC.get_put,if_neg hc]
  have hn14:M14.next=N12.next:=by rw[hM14];rfl
  have hw14:M14.WF:=by rw[hM14];exact e3.put (by omega) _
  have hold:∀ c,c<P.next→¬ aO u c→M14.get c=P.get c:=fun c hc hn=>by
   rw[hg14 c (by omega),e5 c (by omega) hn,hg11 c (by omega)]
  have hv14:oP M14 v (List.replicate k (i64 (-1))):=hB.ys.mono fun c r hc hr=>by rw[hold c (hB.ys.lt hwP c hc) (fun hu=>hB.xy c hu hc)];exact hr
  obtain⟨v',N15,f1,f2,f3,f4,f5,f6⟩:=hv14.growA hw14 (b:=P.next+1) (v:=i64 (-1)) (by rw[hM14,aC.get_put,if_pos rfl]) rfl (by rw[List.length_replicate];omega)
  refine aG f1 ?_
  have hq15:N15.get M.next=some (.cells [u,v,eR,.val (.bool false)] true):=by
   rw[f5 M.next (by omega) (fun hc=>(hB.yq _ hc).2 rfl),hg14 M.next (by omega)]
   exact hq12
  have hu1:u'.one=true:=by rcases e2 with⟨rfl,_⟩|⟨b,h,_⟩ <;> first|rfl|(rw[h];rfl)
  have hv1:v'.one=true:=by rcases f2 with⟨rfl,_⟩|⟨b,h,_⟩ <;> first|rfl|(rw[h];rfl)
  refine aG (lM (cO lY rfl hu1 hq15 (o:=0) (by simp))) ?_
  have hq16:(N15.put M.next (.cells ([u,v,eR,.val (.bool false)].set 0 u') true)).get M.next=some (.cells [u',v,eR,.val (.bool false)] true):=by rw[aC.get_put,if_pos rfl];rfl
  refine aG (lM (cO lY rfl hv1 hq16 (o:=1) (by simp))) ?_
  have hgl:∀ c,c≠M.next→((N15.put M.next (.cells ([u,v,eR,.val (.bool false)].set 0 u') true)).put M.next (.cells ([u',v,eR,.val (.bool false)].set 1 v') true)).get c=N15.get c:=fun c hc=>by rw[aC.get_put,if_neg hc,aC.get_put,if_neg hc]
  have hul:∀ c,aO u' c→c<N12.next:=fun c hc=>e2.lt e3 c hc
  refine⟨n-(k+1),by omega,k+1,u',v',dM (by omega),rfl,hlt,⟨(f3.put (by omega) _).put (by show M.next<N15.next;omega) _,by show M.next≤N15.next;omega,fun c hc _=>?_⟩,?_,Nat.le_refl _,?_,?_,fun c hc=>?_,fun c hc=>?_,fun c hc hv=>?_⟩
  ·have h1:¬ aO u c:=fun hc'=>by have:=(hB.xq c hc').1;omega
   have h2:¬ aO v c:=fun hc'=>by have:=(hB.yq c hc').1;omega
   rw[hgl c (by omega),f5 c (by omega) h2,hold c (by omega) h1]
   exact hB.keep.old c hc (by simp)
  ·rw[aC.get_put,if_pos rfl];rfl
  ·rw[List.replicate_succ']
   refine e2.mono fun c r hc hr=>?_
   have:=e6 c hc
   have:=hul c hc
   have hnv:¬ aO v c:=fun hv=>by have:=hB.ys.lt hwP c hv;omega
   have hne:c≠P.next+1:=by omega
   rw[hgl c (by omega),f5 c (by omega) hnv,hg14 c hne]
   exact hr
  ·rw[List.replicate_succ']
   refine f2.mono fun c r hc hr=>?_
   have:=f6 c hc
   rw[hgl c (by omega)]
   exact hr
  ·have:=e6 c hc
   omega
  ·have:=f6 c hc
   omega
  ·have:=f6 c hv
   have:=hul c hc
   omega
 ·have hge:k=n:=by
   have:¬ (k:Int)<n:=of_decide_eq_false hge
   omega
  subst hge
  exact⟨_,_,_,rfl,hB⟩
def fL(l:List Int)(i:Int):Option dE:=if 0≤l.getD i.toNat (-1) then some [] else none
theorem aEj{f h:Int→Option dE}{n:Nat}(e:∀ i:Nat,i<n→(f i).isSome=(h i).isSome):xA f n=xA h n:=by
 unfold xA
 refine List.filter_congr fun z hz=>?_
 obtain⟨i,hi,rfl⟩:=List.mem_map.1 hz
 exact e i (List.mem_range.1 hi)
theorem wM(M:aC)(hw:M.WF)(a:AV)(l:List Int)(ha:dB M a l)(hl:l.length≤1000):aB tb.P 56 [a] M fun y N=>dB N y (xA (fL l) l.length)∧aE M N []∧∀ c,aO y c→M.next≤c:=by
 refine aOV ?_
 unfold F56
 refine⟨fun x i n Q=>∃ j:Nat,i=j∧n=l.length-j∧j≤l.length∧aE M Q []∧oP Q x ((xA (fL l) j).map i64)∧∀ c,aO x c→M.next≤c,⟨_,0,rfl,rfl,Nat.zero_le _,aE.refl hw,.inl ⟨rfl,rfl⟩,fun c hc=>hc.elim⟩,?_⟩
 rintro _ x i n Q ⟨j,rfl,rfl,hj,hk,hx,fx⟩
 have haQ:=ha.keep hw hk
 refine aG (lF haQ.len) ?_
 simp only[aJ]
 refine aS (fun hlt=>?_) (fun hge=>?_)
 ·have hlt:j<l.length:=Int.ofNat_lt.1 (of_decide_eq_true hlt)
  refine bG fun K hK=>?_
  obtain⟨b,o,h1,h2⟩:=haQ.at hlt
  refine aG (aX h1) ?_
  simp only[bR]
  refine aG (aR h2) ?_
  simp only[i64,aJ]
  have hf:(fL l (j:Int)).isSome=decide (0≤l[j]):=by
   unfold fL
   rw[Int.toNat_natCast,List.getD_eq_getElem?_getD,List.getElem?_eq_getElem hlt,Option.getD_some]
   split <;> simp_all
  refine aS (fun h=>?_) (fun h=>?_)
  ·have h:0≤l[j]:=of_decide_eq_true h
   refine bG fun M14 hM14=>?_
   subst hM14
   have hpl:=rF (fL l) j
   obtain⟨x2,N',g1,g2,g3,g4⟩:=oP.grow lY dR rfl (by decide) hk.wf hx (i64 (j:Int)) rfl (by rw[List.length_map];omega)
   refine aG g1 ?_
   have e:(xA (fL l) (j+1)).map i64=(xA (fL l) j).map i64++[i64 (j:Int)]:=by
    rw[nQ,hf]
    simp[h]
   rw[← e] at g2
   rw[hK]
   refine⟨l.length-(j+1),by omega,j+1,dM (by omega),rfl,hlt,nN hk g3 fx,g2,fun c hc=>?_⟩
   have:=g4 c hc
   have:=hk.nxt
   omega
  ·have h:¬ 0≤l[j]:=of_decide_eq_false h
   rw[hK]
   refine⟨l.length-(j+1),by omega,j+1,dM (by omega),rfl,hlt,hk,?_,fx⟩
   rw[nQ,hf]
   simpa[h] using hx
 ·have hge:¬ (j:Int)<(l.length:Int):=of_decide_eq_false hge
  have:j=l.length:=by omega
  subst this
  exact⟨hx.ints,hk,fx⟩
def aC3(w:Int)(n:Nat):dE:=nW (IntKind.wrap .u8 w) n
def pD(g:eV)(l:List Int)(B:Int→Option dE):Prop:=l.length=(dK g).toNat∧∀ (i:Nat) (h:i<l.length),B i=if l[i]<0 then none else some (aC3 l[i] g.by'.toNat)
section
variable {M0:aC} {g:eV} {k n:Int} {A:bI} {M:aC} {S:Ps} {P:Int→Option (Option dE)} {B:Int→Option dE}
theorem aOR(h:LF M0 g k n A M S P B){a:AV}{l:List Int}(ha:dB M a l)(hT:pD g l (fD P B)):
 aB tb.P 18 [.ptr A.f 0,a,i64 g.by'] M fun y N=>y= .val (.bool true)∧LF M0 g k n A N S P B∧aE M N []:=by
 have hm:=bL.1 h.may
 obtain⟨hlg,hlg2⟩:=lD h.may
 have hlg3:(g.bl-g.sp-3)*g.pg≤20*8:=Int.mul_le_mul (by omega) (by omega) (by omega) (by omega)
 obtain⟨hT1,hT2⟩:=hT
 refine aFl ?_
 unfold F18
 simp only[i64,aJ]
 refine (aDG h).mono ?_
 rintro y2 M3 ⟨hF3,hy2,hk3,_⟩
 have ha3:=ha.keep h.wf hk3
 refine (wM M3 hF3.wf a l ha3 (by omega)).mono ?_
 rintro y4 M5 ⟨hy4,hk5,_⟩
 have hF5:=hF3.keep hk5
 refine (oS M5 _ _ _ _ (hy2.keep hF3.wf hk5) hy4 (by have:=rF (fD P B) (dK g).toNat;omega)).mono ?_
 rintro _ _ ⟨rfl,rfl⟩
 have e:xA (fD P B) (dK g).toNat=xA (fL l) l.length:=by
  rw[hT1]
  refine aEj fun i hi=>?_
  have hi':i<l.length:=by omega
  rw[hT2 i hi']
  unfold fL
  rw[Int.toNat_natCast,List.getD_eq_getElem?_getD,List.getElem?_eq_getElem hi',Option.getD_some]
  by_cases hn:l[i]<0
  ·rw[if_pos hn,if_neg (by omega)]
  ·rw[if_neg hn,if_pos (by omega)];rfl
 simp only[cK,e,decide_true,Bool.not_true,gE]
 have hkM:=hk3.trans0 hk5
 have ha5:=ha.keep h.wf hkM
 refine⟨fun z q Q=>∃ i:Nat,z=i∧q=l.length-i∧i≤l.length∧LF M0 g k n A Q S P B∧aE M Q [],⟨l.length,0,rfl,rfl,Nat.zero_le _,hF5,hkM⟩,?_⟩
 clear hF5 hkM ha5 hy4 hk5 hk3 hF3 ha3 hy2
 rintro _ _ _ Q ⟨i,rfl,rfl,hi,hF,hk⟩
 have haQ:=ha.keep h.wf hk
 refine aG (lF haQ.len) ?_
 simp only[aJ]
 refine aS (fun hlt=>?_) (fun hge=>?_)
 ·have hlt:i<l.length:=Int.ofNat_lt.1 (of_decide_eq_true hlt)
  refine (aCa hF (z:=(i:Int)) (by omega)).mono ?_
  rintro y16 M17 ⟨hF17,hk17,hr⟩
  have hk':=hk.trans0 hk17
  have ha17:=ha.keep h.wf hk'
  obtain⟨b,o,h1,h2⟩:=ha17.at hlt
  have hTi:=hT2 i hlt
  rcases hr with⟨hn,rfl⟩|⟨x,d,hd,rfl,hgr,hfr⟩
  ·rw[hn] at hTi
   have hneg:l[i]<0:=Decidable.byContradiction fun hh=>by rw[if_neg hh] at hTi;cases hTi
   refine⟨_,_,rfl,?_⟩
   refine bG fun K hK=>?_
   refine aG (aX h1) ?_
   simp only[bR]
   refine aG (aR h2) ?_
   simp only[i64,aJ]
   refine aS (fun _=>?_) fun hh=>absurd hneg (of_decide_eq_false hh)
   refine aS (fun hh=>absurd hh (by decide)) fun _=>?_
   have hln:bP tb false 37 eR M17=some 0:=(aP.nil (k:=1) (M:=M17)).len kR rfl
   refine aG (lF hln) ?_
   simp only[aJ]
   refine aS (fun hh=>absurd hh (by decide)) fun _=>?_
   refine aG (aX h1) ?_
   simp only[bR]
   refine aG (aR h2) ?_
   simp only[i64,aJ]
   refine aS (fun hh=>absurd (of_decide_eq_true hh) (by omega)) fun _=>?_
   rw[hK]
   exact⟨l.length-(i+1),by omega,i+1,dM (by omega),rfl,hlt,hF17,hk'⟩
  ·rw[hd] at hTi
   have hneg:¬ l[i]<0:=fun hh=>by rw[if_pos hh] at hTi;cases hTi
   rw[if_neg hneg] at hTi
   injection hTi with hTi
   subst hTi
   refine⟨_,_,rfl,?_⟩
   refine bG fun K hK=>?_
   refine aG (aX h1) ?_
   simp only[bR]
   refine aG (aR h2) ?_
   simp only[i64,aJ]
   refine aS (fun hh=>absurd (of_decide_eq_true hh) hneg) fun _=>?_
   refine aG (aX h1) ?_
   simp only[bR]
   refine aG (aR h2) ?_
   simp only[i64,aJ]
   refine aS (fun _=>?_) fun hh=>absurd (of_decide_eq_false hh) (by omega)
   refine aS (fun hh=>absurd hh (by decide)) fun _=>?_
   refine aG (aX h1) ?_
   simp only[bR]
   refine aG (aR h2) ?_
   simp only[i64,aJ]
   rw[show AV.val (.int .i64 g.by')=i64 ((g.by'.toNat:Nat):Int) from congrArg i64 (by omega)]
   refine (vY M17 hF17.wf (IntKind.wrap .u8 l[i]) g.by'.toNat (by omega) (by omega)).mono ?_
   rintro y37 M38 ⟨hk38,hy,_⟩
   have hF5:=hF17.keep hk38
   refine (oV M38 _ _ _ _ (hgr.at.keep0 hF17.wf hk38) hy (by unfold aC3;rw[iH];omega)).mono ?_
   rintro _ _ ⟨rfl,rfl⟩
   have e2:decide (aC3 l[i] g.by'.toNat=nW (IntKind.wrap .u8 l[i]) g.by'.toNat)=true:=decide_eq_true rfl
   simp only[cK,e2,Bool.not_true]
   rw[hK]
   exact⟨l.length-(i+1),by omega,i+1,dM (by omega),rfl,hlt,hF5,hk'.trans0 hk38⟩
 ·exact⟨by trivial,hF,hk⟩
end
def F4(a0 a1 a2:AV)(M:aC)(Q:AV→aC→Prop):Prop:=∃ t u v w x:Int,a0=(.agg [t,u,v,w,x])∧zI .i64 a2 fun Z=>aI (M.new (.cells [t,u,v,w,x] true)) fun y=>aA (aH tb 23 (.ptr M.next 0) y) fun c0=>∃ z A B C D:Int,c0.1=(.agg [z,A,B,C,D])∧(aB tb.P 9 [(.agg [z,A,B,C,D]),a1] y fun d0 n=>zB d0 fun e0=>aD (!e0) (aB tb.P 10 [] n fun f0 g0=>zB f0 fun h0=>Q h0 g0) (aA (aH tb 23 (.ptr M.next 0) n) fun j0=>∃ E F G H I:Int,j0.1=(.agg [E,F,G,H,I])∧(aB tb.P 19 [(.agg [E,F,G,H,I]),a1] n fun l0 k=>∃ (o:AV) (e:AV) (f:AV),l0=(.tup [o,e,f])∧(aI (fun (m0:Bool)=>aD (m0) (Q false k) (aB tb.P 20 [e] k fun n0 g=>zI .i64 n0 fun J=>aA (aT f g) fun o0=>aA (bV tb 47 o0.1 0 g) fun r0=>zP r0.1 fun t0 u0=>aA (aH tb 25 (.ptr t0 u0) g) fun v0=>aA (cC tb false 25 v0.1 g) fun w0=>zI .i64 w0.1 fun x0=>aD (J != x0) (Q false g) (∃ p:Int→Nat→aC→Prop,(∃ y0:Nat,p (0:Int) y0 g)∧∀ (_:Nat→Option AV) (j:Int) (K:Nat) (L:aC),p j K L→(aB tb.P 14 [Z,(6:Int)] L fun z0 h=>zI .i64 z0 fun A0=>aD (decide (j≤A0)) (∃ r:Int→Nat→aC→Prop,(∃ B0:Nat,r (0:Int) B0 h)∧∀ (_:Nat→Option AV) (d:Int) (N:Nat) (l:aC),r d N l→(aD (decide (d<J)) (aA (aH tb 3 (.ptr M.next 2) l) fun C0=>zI .i64 C0.1 fun D0=>aB tb.P 16 [(.val (.int .u8 (IntKind.wrap .u8 (aK .i64 j d)))),D0] l fun E0 F0=>aB tb.P 15 [e,d,E0] F0 fun G0 i=>zI .i64 G0 fun H0=>aD (H0 != (0:Int)) (Q false i) (aA (aT f i) fun I0=>aA (bV tb 47 I0.1 0 i) fun J0=>zP J0.1 fun K0 L0=>aA (aH tb 25 (.ptr K0 L0) i) fun N0=>aA (bS tb 25 N0.1 d i) fun O0=>zP O0.1 fun P0 R0=>aA (bZ tb 3 (.ptr P0 R0) (aK .i64 j d) i) fun S0=>∃ O:Nat,O<N∧(r (aK .i64 d 1) O S0.2))) (aI (fun (T0:Bool) (R:aC)=>aD (T0) (Q false R) (∃ S:Nat,S<K∧(p (aK .i64 j 1) S R))) fun T=>aB tb.P 17 [e] l fun U0 U=>zI .i64 U0 fun V0=>aD (V0 != (0:Int)) (T true U) (aB tb.P 21 [e] U fun W0 X0=>zB W0 fun Y0=>T Y0 X0)))) (aA (aT f h) fun Z0=>aA (bV tb 47 Z0.1 0 h) fun c1=>zP c1.1 fun d1 e1=>aA (aH tb 25 (.ptr d1 e1) h) fun f1=>aA (aH tb 3 (.ptr M.next 2) h) fun g1=>zI .i64 g1.1 fun h1=>aB tb.P 18 [e,f1.1,h1] h fun j1 V=>zB j1 fun l1=>aD (!l1) (Q false V) (aB tb.P 12 [o] V fun m1 c=>∃ (s:AV) (W:Int),m1=(.tup [s,W])∧(aI (fun (n1:Bool) (o1:aC)=>Q n1 o1) fun m=>aD (W==(0:Int)) (aA (cR tb .neq 30 (.tmp 97) (.const (.pointer none)) s (.val (.pointer none)) c) fun r1=>zB r1.1 fun t1=>aD (t1) (aA (aT f c) fun u1=>aA (bV tb 47 u1.1 0 c) fun v1=>zP v1.1 fun w1 x1=>aA (aH tb 25 (.ptr w1 x1) c) fun y1=>aA (aH tb 3 (.ptr M.next 2) c) fun A1=>zI .i64 A1.1 fun B1=>aB tb.P 18 [s,y1.1,B1] c fun C1 X=>zB C1 fun D1=>aD (D1) (aB tb.P 10 [] X fun E1 F1=>zB E1 fun G1=>m G1 F1) (m false X)) (m false c)) (m false c)))))))) fun Y=>aA (cR tb .eql 28 (.tmp 27) (.const (.pointer none)) o (.val (.pointer none)) k) fun H1=>zB H1.1 fun I1=>aD (I1) (Y true) (aA (cR tb .eql 42 (.tmp 30) (.const (.pointer none)) f (.val (.pointer none)) k) fun J1=>zB J1.1 fun K1=>Y K1)))))
section
variable {N:aC} {A:bI} {q bu bw:Nat} {us ws:List Int} {x:AV} {b:Bool}
theorem aGG{M:aC}{b:Nat}{l:List Int}(h:M.get b=some (.cells (l.map i64) true)):dB M (.sl b 0 l.length l.length (some 1)) l:=by
 refine⟨by simp,.inr ⟨_,_,_,_,rfl,⟨Nat.le_refl _,.inr rfl⟩,.inr ⟨_,_,h,by simp,?_⟩⟩⟩
 rw[List.drop_zero,List.take_of_length_le (by simp)]
theorem vO{q:Nat}{M:aC}:bV tb 47 (.ptr q 0) 0 M=some (.ptr q 0,M)∧bV tb 47 (.ptr q 0) 1 M=some (.ptr q 1,M):=⟨bW (by kernel_rfl),bW (by kernel_rfl)⟩
theorem aFB{bu n i:Nat}{M:aC}(hi:i<n):bS tb 25 (.sl bu 0 n n (some 1)) (.val (.int .i64 (i:Int))) M=some (.ptr bu i,M):=by
 refine aX ?_
 unfold bF
 rw[lY]
 simp only[dR,Int.toNat_natCast]
 have h0:decide (0≤(i:Int))=true:=by simp
 simp only[h0,blt_of hi,cond_true]
 simp
end
theorem aAT{p:Nat}{M:aC}{xo yo:Operand}:cR tb .neq 30 xo yo (.ptr p 0) (.val (.pointer none)) M=some (.val (.bool true),M):=cI (by kernel_rfl)
section
variable {M0:aC} {g:eV} {k n:Int} {A:bI} {M:aC} {S:Ps} {P:Int→Option (Option dE)} {B:Int→Option dE}
theorem aEf(h:LF M0 g k n A M S P B):aB tb.P 21 [.ptr A.f 0] M fun y N=>y= .val (.bool false)∧N=M:=by
 refine aFI ?_
 unfold F21
 refine bG fun K hK=>?_
 refine aG aAT ?_
 simp only[cK,gU]
 refine aG cZ ?_
 refine aG xM ?_
 rw[bR]
 refine aG h.fm.ldg ?_
 simp only[cK]
 rw[hK,h.deg]
 exact⟨rfl,rfl⟩
end
section
variable {M0:aC} {g:eV} {k n:Int} {A:bI} {M:aC} {S:Ps} {P:Int→Option (Option dE)} {B:Int→Option dE}
end
theorem oP.own{M:aC}{x:AV}{l:List Int}(h:oP M x (l.map i64))(h0:0<l.length):∃ b,x= .sl b 0 l.length l.length (some 1)∧M.get b=some (.cells (l.map i64) true):=by
 rcases h with⟨_,e⟩|⟨b,h1,h2,h3,h4⟩
 ·rw[List.map_eq_nil_iff] at e;rw[e] at h0;simp at h0
 ·rw[List.length_map] at h1
  exact⟨b,h1,h4⟩
def F3(a0 a1 a2 a3:AV)(M:aC)(Q:AV→aC→Prop):Prop:=∃ x y z A B:Int,a0=(.agg [x,y,z,A,B])∧zI .i64 a3 fun D0=>aI (M.new (.cells [x,y,z,A,B] true)) fun l=>aI (fun (E0:Bool) (p:aC)=>aD (E0) (aB tb.P 10 [] p fun F0 G0=>zB F0 fun H0=>Q H0 G0) (aA (aH tb 23 (.ptr M.next 0) p) fun I0=>∃ C D E F G:Int,I0.1=(.agg [C,D,E,F,G])∧(aB tb.P 11 [(.agg [C,D,E,F,G]),a1] p fun H J0=>aB tb.P 12 [H] J0 fun K0 m=>∃ (i:AV) (I:Int),K0=(.tup [i,I])∧(aI (fun (L0:Bool)=>aD (L0) (Q false m) (aA (aH tb 23 (.ptr M.next 0) m) fun N0=>∃ J K L N O:Int,N0.1=(.agg [J,K,L,N,O])∧(aB tb.P 13 [(.agg [J,K,L,N,O])] m fun O0 P0=>zI .i64 O0 fun R=>aA (cV tb 25 R R P0) fun c=>∃ r:Int→Nat→aC→Prop,(∃ R0:Nat,r (0:Int) R0 c.2)∧∀ (_:Nat→Option AV) (n:Int) (S:Nat) (j:aC),r n S j→(aA (cC tb false 25 c.1 j) fun S0=>zI .i64 S0.1 fun T0=>aD (decide (n<T0)) (aA (bS tb 25 c.1 n j) fun U0=>zP U0.1 fun V0 W0=>aA (bZ tb 3 (.ptr V0 W0) (-1:Int) j) fun X0=>∃ T:Nat,T<S∧(r (aK .i64 n 1) T X0.2)) (∃ s:Int→Nat→aC→Prop,(∃ Y0:Nat,s (0:Int) Y0 j)∧∀ (_:Nat→Option AV) (g:Int) (U:Nat) (e:aC),s g U e→(aA (cC tb false 25 a2 e) fun Z0=>zI .i64 Z0.1 fun c1=>aD (decide (g<c1)) (aA (bS tb 25 a2 g e) fun d1=>zP d1.1 fun e1 f1=>aA (aH tb 3 (.ptr e1 f1) e) fun g1=>zI .i64 g1.1 fun h1=>aA (cC tb false 25 c.1 e) fun j1=>zI .i64 j1.1 fun l1=>aB tb.P 14 [h1,l1] e fun m1 V=>zI .i64 m1 fun W=>aA (bS tb 25 c.1 W V) fun n1=>zP n1.1 fun o1 r1=>aA (bZ tb 3 (.ptr o1 r1) g V) fun X=>aA (aH tb 3 (.ptr M.next 2) X.2) fun t1=>zI .i64 t1.1 fun u1=>aB tb.P 16 [(.val (.int .u8 (IntKind.wrap .u8 g))),u1] X.2 fun v1 w1=>aB tb.P 15 [i,W,v1] w1 fun x1 Y=>zI .i64 x1 fun y1=>aD (y1 != (0:Int)) (Q false Y) (∃ Z:Nat,Z<U∧(s (aK .i64 g 1) Z Y))) (aB tb.P 17 [i] e fun A1 c0=>zI .i64 A1 fun B1=>aD (B1 != (0:Int)) (Q false c0) (∃ t:AV→Int→Nat→aC→Prop,(∃ C1:Nat,t i (0:Int) C1 c0)∧∀ (_:Nat→Option AV) (d0:AV) (u:Int) (e0:Nat) (f0:aC),t d0 u e0 f0→(aB tb.P 14 [D0,(5:Int)] f0 fun D1 v=>zI .i64 D1 fun E1=>aD (decide (u<E1)) (aB tb.P 12 [H] v fun F1 k=>∃ (f:AV) (g0:Int),F1=(.tup [f,g0])∧(aI (fun (G1:Bool) (h0:aC)=>aD (G1) (Q false h0) (∃ w:Int→Nat→aC→Prop,(∃ H1:Nat,w (0:Int) H1 h0)∧∀ (_:Nat→Option AV) (h:Int) (j0:Nat) (d:aC),w h j0 d→(aA (cC tb false 25 c.1 d) fun I1=>zI .i64 I1.1 fun J1=>aD (decide (h<J1)) (aI (fun (K1:Bool) (l0:aC)=>aD (K1) (Q false l0) (∃ m0:Nat,m0<j0∧(w (aK .i64 h 1) m0 l0))) fun n0=>aA (bS tb 25 c.1 h d) fun L1=>zP L1.1 fun N1 O1=>aA (aH tb 3 (.ptr N1 O1) d) fun P1=>zI .i64 P1.1 fun R1=>aD (decide (R1≥(0:Int))) (aA (bS tb 25 c.1 h d) fun S1=>zP S1.1 fun T1 U1=>aA (aH tb 3 (.ptr T1 U1) d) fun V1=>zI .i64 V1.1 fun W1=>aA (aH tb 3 (.ptr M.next 2) d) fun X1=>zI .i64 X1.1 fun Y1=>aB tb.P 16 [(.val (.int .u8 (IntKind.wrap .u8 W1))),Y1] d fun Z1 c2=>aB tb.P 15 [f,h,Z1] c2 fun d2 e2=>zI .i64 d2 fun f2=>n0 (f2 != (0:Int)) e2) (n0 false d)) (aB tb.P 17 [f] d fun g2 o0=>zI .i64 g2 fun h2=>aD (h2 != (0:Int)) (Q false o0) (∃ r0:Nat,r0<e0∧(t f (aK .i64 u 1) r0 o0)))))) fun o=>aD (g0 != (0:Int)) (o true k) (aA (cR tb .eql 30 (.tmp 97) (.const (.pointer none)) f (.val (.pointer none)) k) fun j2=>zB j2.1 fun l2=>aD (l2) (o true k) (aA (aH tb 3 (.ptr M.next 2) k) fun m2=>zI .i64 m2.1 fun n2=>aB tb.P 18 [f,c.1,n2] k fun o2 t0=>zB o2 fun r2=>aD (!r2) (o true t0) (aB tb.P 17 [f] t0 fun t2 u2=>zI .i64 t2 fun v2=>o (v2 != (0:Int)) u2))))) (aI (fun (w2:Bool) (x2:aC)=>Q w2 x2) fun u0=>aA (aH tb 3 (.ptr M.next 2) v) fun y2=>zI .i64 y2.1 fun A2=>aB tb.P 18 [d0,c.1,A2] v fun B2 v0=>zB B2 fun C2=>aD (C2) (aB tb.P 10 [] v0 fun D2 E2=>zB D2 fun F2=>u0 F2 E2) (u0 false v0))))))))))) fun w0=>aD (I != (0:Int)) (w0 true) (aA (cR tb .eql 30 (.tmp 39) (.const (.pointer none)) i (.val (.pointer none)) m) fun G2=>zB G2.1 fun H2=>w0 H2))))) fun x0=>aA (cC tb false 25 a2 l) fun I2=>zI .i64 I2.1 fun J2=>aD (decide (J2>(8:Int))) (x0 true l) (aA (aH tb 23 (.ptr M.next 0) l) fun K2=>∃ y0 z0 A0 B0 C0:Int,K2.1=(.agg [y0,z0,A0,B0,C0])∧(aB tb.P 9 [(.agg [y0,z0,A0,B0,C0]),a1] l fun L2 N2=>zB L2 fun O2=>x0 (!O2) N2))
section
variable {M0:aC} {g:eV} {k n:Int} {A:bI} {M:aC} {S:Ps} {P:Int→Option (Option dE)} {B:Int→Option dE}
theorem LF.keepM(h:LF M0 g k n A M S P B):aE M0 M []:=⟨h.wf,h.nx,fun b hb _=>h.low b hb⟩
end
section
variable {N:aC} {A:bI} {W:Nat} {ws:List Int}
end
structure FN (A:bI) (M:aC) (S:Ps) (P:Int→Option (Option dE)) (B:Int→Option dE):Prop where
 fr:∃ C m,FR A M S C m
 pend:∃ pm,jW M A A.mp pm P
 base:∃ bm,jW M A A.mb bm (fun n=>(B n).map some)
section
variable {A:bI} {M:aC} {S:Ps} {P:Int→Option (Option dE)} {B:Int→Option dE}
theorem FM.tell(h:FM A M S P B):FN A M S P B:=⟨h.fr,h.pend,h.base⟩
theorem FN.wf(h:FN A M S P B):M.WF:=by obtain⟨C,m,hr⟩:=h.fr;exact hr.wf
theorem FN.dis(h:FN A M S P B):A.all.Nodup:=by obtain⟨C,m,hr⟩:=h.fr;exact hr.dis
theorem FN.post{N:aC}(h:FN A M S P B)(hk:aE M N []):FN A N S P B:=by
 obtain⟨C,m,hr⟩:=h.fr
 obtain⟨pm,hp⟩:=h.pend
 obtain⟨bm,hb⟩:=h.base
 exact⟨⟨C,m,hr.post hk⟩,⟨pm,hp.keep h.wf hk (by simp) (by simp)⟩,⟨bm,hb.keep h.wf hk (by simp) (by simp)⟩⟩
theorem FN.flA(h:FN A M S P B):M.get A.f=some (.cells (jF (dO A S)) true):=by obtain⟨C,m,hr⟩:=h.fr;exact hr.fl
theorem FN.lmp(h:FN A M S P B):aH tb 80 (.ptr A.f 8) M=some (.map A.mp,M):=aR (dI rR rfl h.flA (o:=8) (v:= .map A.mp) rfl)
theorem FN.lmb(h:FN A M S P B):aH tb 80 (.ptr A.f 7) M=some (.map A.mb,M):=aR (dI rR rfl h.flA (o:=7) (v:= .map A.mb) rfl)
theorem FN.ldg(h:FN A M S P B):aH tb 4 (.ptr A.f 13) M=some (.val (.bool S.deg),M):=aR (dI ty4 rfl h.flA (o:=13) (v:=bv S.deg) rfl)
theorem aIQ(h:FN A M S P B)(n:Int):aB tb.P 64 [.ptr A.f 0,i64 n] M fun y N=>N=M∧((fD P B n=none∧y= .tup [eR,.val (.bool false)])∨∃ x d,fD P B n=some d∧y= .tup [x,.val (.bool true)]∧PgS M A x d):=by
 obtain⟨pm,hp⟩:=h.pend
 obtain⟨bm,hb⟩:=h.base
 refine aJr ?_
 unfold F64
 simp only[i64,aJ]
 refine aG cZ ?_
 refine aG xD ?_
 rw[bR]
 refine aG h.lmp ?_
 unfold fD
 cases hP:P n with
 | none=>
   refine aG (hp.none hP) ⟨_,_,rfl,?_⟩
   rw[gE]
   refine aG cZ ?_
   refine aG aDF ?_
   rw[bR]
   refine aG h.lmb ?_
   cases hB:B n with
   | none=>exact aG (hb.none (by rw[hB];rfl)) ⟨_,_,rfl,(by first|trivial|rfl),.inl ⟨rfl,rfl⟩⟩
   | some d=>
     obtain⟨x,h1,h2⟩:=hb.some (n:=n) (d:=d) (by rw[hB];rfl)
     exact aG h1 ⟨_,_,rfl,(by first|trivial|rfl),.inr ⟨x,d,rfl,rfl,h2⟩⟩
 | some o=>
   cases o with
   | none=>
     refine aG (hp.nil hP) ⟨_,_,rfl,?_⟩
     rw[gU]
     refine aG aGC ?_
     rw[cK]
     exact⟨(by first|trivial|rfl),.inl ⟨rfl,rfl⟩⟩
   | some d=>
     obtain⟨x,h1,h2⟩:=hp.some hP
     refine aG h1 ⟨_,_,rfl,?_⟩
     rw[gU]
     obtain⟨b,o,c1,c2,e,rfl⟩:=h2.2.1
     refine aG aNz ?_
     rw[cK]
     exact⟨(by first|trivial|rfl),.inr ⟨_,d,rfl,rfl,h2⟩⟩
theorem aJ7(h:FN A M S P B){z:Int}(hz:0≤z∧z<dK S.g):aB tb.P 51 [.ptr A.f 0,i64 z] M fun y N=>y=i64 0∧aE M N []:=by
 obtain⟨C,m,hr⟩:=h.fr
 have:=aGP M h.wf A.f (dO A S) A.p C hr.flat z
 have e:aB1 C z=0:=by
  unfold aB1
  rw[hr.rel.calm.off,hr.rel.g,if_neg (by simp),if_pos hz]
 rw[e] at this
 exact this
theorem aMK(h:FN A M S P B){z:Int}(hz:0≤z∧z<dK S.g)(hlen:∀ d,fD P B z=some d→0<d.length∧d.length≤1000):
 aB tb.P 30 [.ptr A.f 0,i64 z] M fun y N=>aE M N []∧((fD P B z=none∧y= .tup [eR,i64 4])∨∃ x d,fD P B z=some d∧y= .tup [x,i64 0]∧Gr N x d∧∀ c,aO x c→M.next≤c):=by
 refine aI7 ?_
 unfold F30
 simp only[i64,aJ]
 refine (aJ7 h hz).mono ?_
 rintro y N ⟨rfl,hk⟩
 simp only[i64,aJ]
 have hN:=h.post hk
 simp only[bne_self_eq_false,gE]
 refine (aIQ hN z).mono ?_
 rintro y N2 ⟨rfl,⟨h1,rfl⟩|⟨x,d,h1,rfl,h2⟩⟩
 ·refine⟨_,_,rfl,?_⟩
  simp only[Bool.not_false,gU]
  exact⟨hk,.inl ⟨h1,rfl⟩⟩
 ·refine⟨_,_,rfl,?_⟩
  simp only[Bool.not_true,gE]
  obtain⟨l1,l2⟩:=hlen d h1
  refine (rG N2 hN.wf x d h2.1 l1 (by omega)).mono ?_
  rintro y N3 ⟨g1,g2,g3⟩
  exact⟨hk.trans0 g2,.inr ⟨y,d,h1,rfl,g1,fun c hc=>Nat.le_trans hk.nxt (g3 c hc)⟩⟩
theorem aJN(h:FN A M S P B):aB tb.P 29 [.ptr A.f 0] M fun y N=>oP N y ((xA (fD P B) (dK S.g).toNat).map i64)∧aE M N []∧∀ c,aO y c→M.next≤c:=by
 obtain⟨C,m,hr⟩:=h.fr
 refine aI3 ?_
 unfold F29
 obtain⟨l1,l2⟩:=lD hr.inv.may
 have hm:=bL.1 hr.inv.may
 have l3:(S.g.bl-S.g.sp-3)*S.g.pg≤20*8:=Int.mul_le_mul (by omega) (by omega) (by omega) (by omega)
 have hlog:=wJ M h.wf A.f (dO A S) A.p C hr.flat
 rw[hr.rel.g] at hlog
 refine hlog.mono ?_
 rintro y M2 ⟨rfl,hk2⟩
 obtain⟨L,hL⟩:∃ L:Nat,dK S.g=L:=⟨(dK S.g).toNat,by omega⟩
 rw[hL]
 simp only[i64,aJ,Int.toNat_natCast]
 have h2:=h.post hk2
 refine⟨fun x i n Q=>∃ j:Nat,i=j∧n=L-j∧j≤L∧aE M Q []∧oP Q x ((xA (fD P B) j).map i64)∧∀ c,aO x c→M.next≤c,⟨_,0,rfl,rfl,Nat.zero_le _,hk2,.inl ⟨rfl,rfl⟩,fun c hc=>hc.elim⟩,?_⟩
 rintro _ x i n Q ⟨j,rfl,rfl,hj,hk,hx,fx⟩
 refine aS (fun hlt=>?_) (fun hge=>?_)
 ·have hlt:j<L:=Int.ofNat_lt.1 (of_decide_eq_true hlt)
  have hQ:=h.post hk
  refine bG fun K hK=>?_
  refine (aIQ hQ (j:Int)).mono ?_
  rintro y N2 ⟨rfl,⟨h1,rfl⟩|⟨x',d,h1,rfl,_⟩⟩
  ·refine⟨_,_,rfl,?_⟩
   rw[gE,hK]
   refine⟨_,by omega,j+1,dM (by omega),rfl,hlt,hk,?_,fx⟩
   rw[nQ,h1]
   simpa using hx
  ·refine⟨_,_,rfl,?_⟩
   rw[gU,hK]
   clear hK
   refine bG fun M21 hM21=>?_
   subst hM21
   have hpl:=rF (fD P B) j
   obtain⟨x2,N',g1,g2,g3,g4⟩:=oP.grow lY dR rfl (by decide) hk.wf hx (i64 (j:Int)) rfl (by rw[List.length_map];omega)
   refine aG g1 ?_
   have e:(xA (fD P B) (j+1)).map i64=(xA (fD P B) j).map i64++[i64 (j:Int)]:=by
    rw[nQ,h1]
    simp
   rw[← e] at g2
   refine⟨_,by omega,j+1,dM (by omega),rfl,hlt,nN hk g3 fx,g2,fun c hc=>?_⟩
   have:=g4 c hc
   have:=hk.nxt
   omega
 ·have hge:¬ (j:Int)<(L:Int):=of_decide_eq_false hge
  have:j=L:=by omega
  subst this
  exact⟨hx,hk,fx⟩
theorem aIP(h:FN A M S P B)(hdg:S.deg=true){z:Int}(hz:0≤z∧z<dK S.g){w:AV}{d:dE}(hw:aL M w d)(hd:(d.length:Int)=S.g.by'):aB tb.P 15 [.ptr A.f 0,i64 z,w] M fun y N=>y=i64 13∧aE M N []:=by
 refine aKI ?_
 unfold F15
 simp only[i64,aJ]
 refine (aJ7 h hz).mono ?_
 rintro y N ⟨rfl,hk⟩
 simp only[i64,aJ]
 have hN:=h.post hk
 simp only[bne_self_eq_false,gE]
 have hwN:aL N w d:=aP.keep0 hw h.wf hk
 refine aG (lF hwN.len) ?_
 simp only[aJ]
 refine aG cZ ?_
 refine aG mQ ?_
 rw[bR]
 refine aG (aR (dI dR rfl hN.flA (o:=3) (v:=i64 S.g.by') rfl)) ?_
 simp only[i64,aJ]
 rw[hd]
 simp only[bne_self_eq_false,gE]
 refine aG cZ ?_
 refine aG xM ?_
 rw[bR]
 refine aG hN.ldg ?_
 rw[cK,hdg,gU]
 exact⟨(by first|trivial|rfl),hk⟩
theorem aKc(h:FN A M S P B)(hdg:S.deg=true):aB tb.P 17 [.ptr A.f 0] M fun y N=>y=i64 13∧N=M:=by
 obtain⟨C,m,hr⟩:=h.fr
 refine aJZ ?_
 unfold F17
 refine aG jA ?_
 rw[cK,gE]
 refine aG cZ ?_
 refine aG iL ?_
 rw[bR]
 refine aG hr.ldp ?_
 refine (aK1 M h.wf A.p C hr.chip).mono ?_
 rintro y N ⟨rfl,rfl⟩
 rw[hr.rel.calm.off]
 simp only[cK,Bool.not_false,Bool.not_true,gE]
 refine aG cZ ?_
 refine aG xM ?_
 rw[bR]
 refine aG h.ldg ?_
 rw[cK,hdg,gU]
 exact⟨rfl,(by first|trivial|rfl)⟩
end
end Go.Proofs.YtlogedcoiogagaaGreat
