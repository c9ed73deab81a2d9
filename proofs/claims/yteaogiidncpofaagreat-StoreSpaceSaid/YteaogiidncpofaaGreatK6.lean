import Derived.Test.YteaogiidncpofaaGreatK1
import Derived.Test.YteaogiidncpofaaGreatK2
import Derived.Test.YteaogiidncpofaaGreatK3
import Derived.Test.YteaogiidncpofaaGreatK5
set_option linter.unusedSimpArgs false
set_option linter.unusedVariables false
set_option linter.unusedSectionVars false
set_option maxRecDepth 100000
namespace Go.Proofs.YteaogiidncpofaaGreat
open Go.AM
theorem aKc:MT 97 3 4 i64 unA (bv false):=
 ⟨⟨_,_,_,aIz,rfl,dX,ty4,rfl⟩,iB.eq,iB.ok,fun a=>⟨_,rfl,by simp[pY,eR]⟩⟩
theorem FR.stepX{A:bL}{M1 M2:aC}{S1:Ps}{C1:aQ}{m1:List iK}{c0:Nat}(hr1:FR A M1 S1 C1 m1)(hk1:aD M1 M2 [c0])(h1:c0∈A.av)(h2:c0∉A.wr):FR A M2 S1 C1 m1:=by
 refine hr1.keepS hk1 fun c hc=>?_
 rw[List.mem_singleton] at hc
 subst hc
 refine⟨h2,fun hm=>hr1.fsx _ hm h1,fun q hq hm=>?_⟩
 obtain⟨_,_,_,_,_,_,_,_,e6⟩:=hr1.lnk q hq
 exact e6 _ hm h1
structure Mtd (T:List Nat) (M:aC) (p:Nat) (C:aQ) (S:Ps) (B:Int→Option bZ) (A:bL) (N:aC) (S':Ps):Prop where
 ap:A.p=p
 ft:A.ft=foot p C
 fsA:A.fsA=C.fsA
 ext:A.ext=T
 new:M.next≤A.mf
 adr:A.mb=A.mf+1∧A.mp=A.mf+2∧A.ms=A.mf+3∧A.f=A.mf+4
 keep:aD M N (foot p C)
 x:S'.x=S.x∧S'.g=S.g∧S'.fs=S.fs∧S'.now=0
 deg:S'.deg= !decide ((dD S:Int)≤S.g.sp)
 ops:S.ops≤S'.ops∧S'.ops≤S.ops+nB S*nG S
 ep:(∀ b k v,bI S b k=some v→v.t.e≤S'.ep)∧(S'.ep=0∨∃ b k v,bI S b k=some v∧v.t.e=S'.ep)
 fr:∃ C m,FR A N S' C m
 pend:jY N A A.mp [] (fun _=>none)
 base:∃ bm,jY N A A.mb bm (fun n=>(B n).map some)
 stale:∃ es,N.get A.ms=some (.map es)∧((∀ b k v,bI S b k=some v→v.t.e≤bK S)→es=[])
theorem aNq(M:aC)(hw:M.WF)(p:Nat)(C:aQ)(S:Ps)(h:bF M p C)(hr:aFY C S)(hi:eW S)(ho:S.ops≤1000000000){B:Int→Option bZ}(hB:eH S B)(hneg:∀ p:Int,p<0→B p=none){T:List Nat}(hT:∀ c∈T,c<M.next∧¬ aN C.fsA c):
 aB tb.P 32 [.ptr p 0] M fun y N=>∃ A S',y= .tup [.ptr A.f 0,i64 0]∧Mtd T M p C S B A N S':=by
 refine aIU M hw p C S h hr hi ho ?_
 intro A0 N C' m sq ep D hAp hAft hAfs hAe hnew hAb hApn hAs hAf hD hm
 obtain⟨A,rfl,hAe2⟩:∃ A:bL,A0={ A with ext:=[] }∧A.ext=T:=⟨{ A0 with ext:=T },by cases A0;simp only at hAe;subst hAe;rfl,rfl⟩
 replace hm:Mnt M p C S A D _ N C' m sq ep:=⟨hm.st,hm.calm,hm.bs,hm.ops,hm.fl,hm.mf,hm.mb,hm.mp,hm.ms,hm.nd,hm.lnk,hm.hav,hm.sqb,hm.epb⟩
 dsimp only at hAp hAft hAfs hnew hAb hApn hAs hAf hD ⊢
 clear hAe
 have hAe:=hAe2
 have hmay:dV C.g=true:=h.may
 have hnGg:nG S=C.g.pg.toNat:=by unfold nG;rw[← hr.g]
 have hnBg:nB S=C.g.bl.toNat:=by unfold nB;rw[← hr.g]
 have hnPe:nP C.g=nB S*nG S:=by unfold nP;rw[hnGg,hnBg]
 obtain⟨hn1,hnP,_,hpg0,hpg4,hpg8,_,_⟩:=aAM hmay
 have hfo:∀ c∈foot p C,c<M.next:=fun c hmm=>h.lt hw c hmm
 obtain⟨o,ho1,ho2⟩:=hm.ops
 have hseq0:=hi.seq
 have hbk:∀ b k v,bI S b k=some v→b<nB S∧k<nG S∧b*nG S+k<nP C.g:=fun b k v hv=>by
  have hu:=cQ hv
  have hpg:=hi.pgs b
  obtain⟨X,x1,_⟩:=iF.1 hv
  have hbl:=(List.getElem?_eq_some_iff.1 x1).1
  rw[hi.len] at hbl
  refine⟨hbl,by omega,?_⟩
  rw[hnPe]
  have:(b+1)*nG S≤nB S*nG S:=Nat.mul_le_mul_right _ hbl
  rw[Nat.add_mul,Nat.one_mul] at this
  omega
 have hfnd:∀ b k v,bI S b k=some v→∃ q,q∈m∧q.1=((b:Int),(k:Int))∧q.2.s=v.t.s∧q.2.e=v.t.e:=fun b k v hv=>by
  obtain⟨q,hq,e⟩:=hm.hav b k v hv (hbk b k v hv).2.2
  obtain⟨b',k',w,e1,_,e3,e4,_⟩:=hm.lnk q hq
  rw[e] at e1
  injection e1 with e1 e1'
  have h1:b=b':=by omega
  have h2:k=k':=by omega
  subst h1 h2
  rw[hv] at e3
  injection e3 with e3
  subst e3
  exact⟨q,hq,e,e4.2.2.1,e4.2.2.2⟩
 obtain⟨S1,hS1⟩:∃ S1:Ps,S1={ S with seq:=sq,ep:=ep,now:=0,deg:=false,ops:=C'.ops }:=⟨_,rfl⟩
 have hCo:C.ops=S.ops:=hr.ops
 have hi1:eW S1:=by
  subst hS1
  refine⟨hi.may,hi.len,hi.pgs,⟨fun b k v hv=>?_,hi.sq.one⟩,fun b k v hv=>?_,hi.bad,⟨hm.sqb.1,?_⟩,fun b X hX=>?_⟩
  ·obtain⟨q,hq,_,e1,_⟩:=hfnd b k v hv
   show v.t.s≤sq
   rw[← e1];exact hm.sqb.2.2 q hq
  ·obtain⟨q,hq,_,_,e1⟩:=hfnd b k v hv
   obtain⟨a1,a2,a3,a4,a5⟩:=hi.tag b k v hv
   refine⟨a1,a2,a3,a4,?_⟩
   show v.t.e≤ep
   rw[← e1];exact hm.epb.2.2 q hq
  ·show sq≤C'.ops
   have:=hm.sqb.2.1
   omega
  ·obtain⟨a1,a2,a3,a4⟩:=hi.cnt b X hX
   show 0≤X.w∧X.w≤C'.ops∧0≤X.n∧X.n≤C'.ops
   omega
 have hrawe:aV C'.g=aV C.g:=by rw[hm.st.g]
 have hrel1:aFY C' S1:=by
  subst hS1
  refine⟨hm.st.g.trans hr.g,hm.st.fs.trans hr.fs,hm.calm,rfl,fun b B' hB'=>?_⟩
  rw[hm.bs] at hB'
  obtain⟨X,x1,x2,x3,x4,x5,x6⟩:=hr.blk b B' hB'
  exact⟨X,x1,x2,x3,x4,by rw[hrawe];exact x5,fun j h1 h2=>by rw[hrawe];exact x6 j h1 h2⟩
 have hall:∀ c,c∈A.av→c<M.next∨(A.mf≤c∧c<D):=fun c hc=>by
  simp only[bL.av,bL.all,hAe,List.mem_append,List.mem_cons] at hc
  rcases hc with (rfl|rfl|rfl|rfl|rfl|hc)|hc
  rotate_right
  ·exact .inl (hT c hc).1
  ·right;omega
  ·right;omega
  ·right;omega
  ·right;omega
  ·right;omega
  ·left;rw[hAft] at hc;exact hfo c hc
 have hdis:A.all.Nodup:=by
  unfold bL.all
  have hft:∀ c,A.mf≤c→c∉A.ft:=fun c hc hmm=>by rw[hAft] at hmm;have:=hfo c hmm;omega
  simp only[List.nodup_cons,List.mem_cons,not_or]
  refine⟨⟨by omega,by omega,by omega,by omega,hft _ (by omega)⟩,⟨by omega,by omega,by omega,hft _ (by omega)⟩,⟨by omega,by omega,hft _ (by omega)⟩,⟨by omega,hft _ (by omega)⟩,hft _ (by omega),by rw[hAft];exact h.nd⟩
 have hR:FR A N S1 C' m:=by
  refine⟨hm.st.wf,hi1,by rw[hS1];exact hm.fl,by rw[hAp];exact hm.st.at',by rw[hAp,hAft];exact hm.st.foot,by rw[hAfs];exact hm.st.fsA,hrel1,hm.mf,hm.nd,fun q hq=>?_,fun b k v hv=>?_,hdis,fun c hc hmm=>?_⟩
  ·obtain⟨b,k,v,e1,_,e3,e4,e5,e6,e7⟩:=hm.lnk q hq
   refine⟨b,k,v,e1,by rw[hS1];exact e3,e4,e5,e6,fun c hc hmm=>?_⟩
   have:=e7 c hc
   rcases hall c hmm with h1|h1
   ·omega
   ·omega
  ·rw[hS1] at hv
   obtain⟨q,hq,e,_⟩:=hfnd b k v hv
   exact⟨q,hq,e⟩
  ·rw[hAfs] at hc
   have hlt:=aO.blk_lt h.flt hw hc
   simp only[bL.av,bL.all,hAe,List.mem_append,List.mem_cons] at hmm
   rcases hmm with (rfl|rfl|rfl|rfl|rfl|hmm)|hmm
   rotate_right
   ·exact (hT c hmm).2 hc
   ·omega
   ·omega
   ·omega
   ·omega
   ·omega
   ·rw[hAft] at hmm;exact h.fsx c hc hmm
 have hB1:eH S1 B:=by rw[hS1];exact hB.now 0
 obtain⟨⟨w1,w2,w3⟩,w4,w5,w6⟩:=bL.maps hdis
 have hT1:∀ c∈[A.mb],c∈A.av:=fun c hc=>by rw[List.mem_singleton] at hc;rw[hc];exact gW.2.1
 have hT3:∀ c∈[A.ms],c∈A.av:=fun c hc=>by rw[List.mem_singleton] at hc;rw[hc];exact gW.2.2
 have hNn:D≤N.next:=by have:=hm.st.wf _ _ hm.fl;omega
 refine (aGj hR (-1)).mono ?_
 rintro y M119 ⟨l,hl,hy,hk119,fy⟩
 have hmem:=hR.mem_fds hl
 have hlen:l.length≤160:=by
  have:=hl.length_eq
  rw[List.length_map] at this
  have:=List.length_filter_le (fun q:iK=>q.1.1 != -1) m
  have:=hR.few
  omega
 have hR119:=hR.post hk119
 have hnwl:(nwF l).length≤1000:=by
  have hok:=aFl l
  have h1:((nwF l).map (·.1)).length≤(l.map fun f=>f.t.p).length:=lM hok.nd fun c hc=>by
   obtain⟨q,hq,rfl⟩:=List.mem_map.1 hc
   obtain⟨s1,_,s3,_⟩:=hok.snd q hq
   exact List.mem_map.2 ⟨q.2,s1,s3⟩
  rw[List.length_map,List.length_map] at h1
  omega
 have hrng:∀ f∈l,aI6 f.t.p:=fun f hf=>by
  obtain⟨b,k,v,hv,rfl⟩:=Go.Proofs.YteaogiidncpofaaGreat.mem_fds.1 ((hmem f).1 hf)
  have:=iT (hi1.tag b k v hv).1
  unfold aI6
  simp only
  omega
 refine (aRP M119 hk119.wf y l hy.at (by omega) hrng hnwl).mono ?_
 rintro y2 M121 ⟨ps,hps,_,hy2,hk121,fy2⟩
 have hR121:=hR119.post hk121
 have hk121':=hk119.trans0 hk121
 have hfm:=fun f=>aNP hi1 hmem hps f
 have hl'len:((ps.map (ofF (nwF l))).filter fun f=>decide (f.t.k=1)).length≤1000000:=by
  refine Nat.le_trans (List.length_filter_le _ _) ?_
  have:=hps.length_eq
  rw[List.length_map] at this
  rw[List.length_map,this]
  omega
 generalize ((ps.map (ofF (nwF l))).filter fun f=>decide (f.t.k=1))=l' at hy2 hfm hl'len
 refine aG (iO hy2.at.len) ?_
 simp only[aJ]
 have hmb121:M121.get A.mb=some (.map []):=hk121'.get hm.st.wf hm.mb (by simp)
 have hmp121:M121.get A.mp=some (.map []):=hk121'.get hm.st.wf hm.mp (by simp)
 have hms121:M121.get A.ms=some (.map []):=hk121'.get hm.st.wf hm.ms (by simp)
 have hN121:N.next≤M121.next:=hk121'.nxt
 obtain⟨Bj,hBj⟩:∃ Bj:Nat→Int→Option (Option bZ),∀ j p,Bj j p=if ((l'.take j).any fun f=>f.t.p==p)=true then (B p).map some else none:=⟨_,fun _ _=>rfl⟩
 have hy2b:∀ c,aN y2 c→c∉[A.mb]:=fun c hc hmm=>by
  rw[List.mem_singleton] at hmm
  have:=fy2 c hc
  have:=hk119.nxt
  omega
 refine⟨fun z n Q=>∃ (j:Nat) (bm:List (Int×AV)),z=j∧n=l'.length-j∧j≤l'.length∧aD M121 Q [A.mb]∧jY Q A A.mb bm (Bj j),
  ⟨_,0,[],rfl,rfl,Nat.zero_le _,aD.refl hR121.wf,⟨hmb121,List.nodup_nil,fun q hq=>by simp at hq,fun n x hx=>by rw[hBj] at hx;simp at hx⟩⟩,?_⟩
 rintro _ z n Q ⟨j,bm,rfl,rfl,hj,hkQ,hbQ⟩
 have hRQ:=hR121.stepX hkQ gW.2.1 w1
 have hyQ:jQ Q y2 l':=aO.keep hy2.at hR121.wf hkQ hy2b
 refine aT (fun hlt=>?_) (fun hge=>?_)
 ·have hlt:j<l'.length:=Int.ofNat_lt.1 (of_decide_eq_true hlt)
  obtain⟨b1,o1,a1,a2,_⟩:=hyQ.all hlt
  obtain⟨b,k,v,hx,hbest,hk1⟩:=(hfm l'[j]).1 (List.getElem_mem hlt)
  refine aG (a1 Q) ?_
  rw[bV]
  refine aG a2 ⟨_,_,_,_,_,_,rfl,?_⟩
  refine bE fun M139 hM139=>?_
  have e139:M139=Q.new (.cells [i64 0,i64 0,i64 0,i64 0,i64 0,i64 0] true):=hM139
  have k139:aD Q M139 []:=by rw[e139];exact aD.new hRQ.wf _
  have g139:M139.get Q.next=some (.cells [i64 0,i64 0,i64 0,i64 0,i64 0,i64 0] true):=by rw[e139];exact get_new _ _
  have n139:M139.next=Q.next+1:=by rw[e139];rfl
  clear hM139 e139
  refine aG (aAN l'[j] g139 rfl) ?_
  have k140:aD Q (M139.put Q.next (.cells (fJ l'[j]) true)) []:=xD k139 (Nat.le_refl _) (by omega) _
  have g140:(M139.put Q.next (.cells (fJ l'[j]) true)).get Q.next=some (.cells (fJ l'[j]) true):=by rw[aC.get_put,if_pos rfl]
  revert k140 g140
  generalize M139.put Q.next (.cells (fJ l'[j]) true)=M140
  intro k140 g140
  have hR140:=hRQ.post k140
  have hb140:=hbQ.keep hRQ.wf k140 (by simp) (by simp)
  refine aG (aS (eB sJ rfl hR140.fl (o:=7) (v:= .map A.mb) rfl)) ?_
  refine aG (aS (eB dX rfl g140 (o:=3) (v:=i64 l'[j].t.p) rfl)) ?_
  simp only[i64,aJ]
  refine aG (aS (eB aDl rfl hR140.fl (o:=6) (v:= .map A.mf) rfl)) ?_
  have lpl:aH tb 101 (.ptr Q.next 0) M140=some (bB l'[j].b l'[j].k,M140):=aS (eC (n:=2) pR rfl rfl g140 (by simp[fJ]))
  refine aG lpl ⟨_,_,rfl,?_⟩
  obtain⟨xd,x1,x2,x3,x4⟩:=hR140.ver hbest.1
  have hbk':l'[j].b=(b:Int)∧l'[j].k=(k:Int)∧l'[j].t=v.t:=by rw[hx];exact⟨rfl,rfl,rfl⟩
  obtain⟨q1,q2,q3⟩:=hbk'
  rw[q1,q2,q3]
  have hlk:pV tb 96 (.map A.mf) (bB (b:Int) (k:Int)) false M140=some (pgA ⟨v.t.k,v.t.p,v.t.s,v.t.e,xd⟩,M140):=gI vF (show M140.get A.mf=some (.map (mG vM pgA m)) from hR140.mf) hR140.nd x1 false
  refine aG hlk ⟨_,_,_,_,_,rfl,?_⟩
  have htag:=hi1.tag _ _ _ hbest.1
  have hd0:24≤v.d.length:=(iT htag.1).1.1
  have hsl:∃ b o n c e,xd= .sl b o n c e:=by
   rcases x2.2 with⟨_,h0⟩|⟨b',o',c',e',h0,_⟩
   ·omega
   ·exact⟨_,_,_,_,_,h0⟩
  obtain⟨pm',p1,p2,_⟩:=hb140.put hR140.wf gW.2.1 v.t.p xd (some v.d) (.inr ⟨v.d,rfl,x2,hsl,x4⟩)
  refine aG p1 ?_
  have kp:aD M140 (M140.put A.mb (.map (mG i64 (fun x:AV=>x) pm'))) [A.mb]:=aD.put hR140.wf (hR140.wf _ _ hb140.get) _
  refine⟨_,by omega,j+1,pm',dE (by omega),rfl,by omega,(hkQ.trans k140 (fun _ h _=>h) (by simp)).trans kp (fun _ h _=>h) (fun _ h _=>h),?_⟩
  have hp0:=(iT htag.1).2.2.2.1
  have hBp:B v.t.p=some v.d:=(hB1 v.t.p hp0 v.d).2 ⟨v.t.e,b,k,v,hbest,hk1,rfl,rfl,rfl⟩
  have hfun:Bj (j+1)=lW (Bj j) v.t.p (some v.d):=by
   funext p'
   unfold lW
   rw[hBj,hBj,List.take_add_one,List.getElem?_eq_getElem hlt,List.any_append]
   simp only[Option.toList_some,List.any_cons,List.any_nil,Bool.or_false,q3]
   by_cases e:p'=v.t.p
   ·rw[if_pos e,e]
    simp[hBp]
   ·rw[if_neg e]
    have:(v.t.p==p')=false:=by
     cases h:v.t.p==p' with
     | false=>rfl
     | true=>rw[beq_iff_eq] at h;exact absurd h.symm e
    rw[this,Bool.or_false]
  rw[hfun]
  exact p2
 ·
  have hge:¬ (j:Int)<l'.length:=of_decide_eq_false hge
  have:j=l'.length:=by omega
  subst this
  have hfun:Bj l'.length=fun n=>(B n).map some:=by
   funext p'
   rw[hBj,List.take_length]
   split
   ·rfl
   ·rename_i hno
    cases hBp:B p' with
    | none=>rfl
    | some d=>
      exfalso
      have hp0:0≤p':=by
       by_cases h0:0≤p'
       ·exact h0
       ·rw[hneg p' (by omega)] at hBp;cases hBp
      obtain⟨e,b,k,v,hbest,hk1,hpp,_,_⟩:=(hB1 p' hp0 d).1 hBp
      have hf:=(hfm ⟨b,k,v.t⟩).2 ⟨b,k,v,rfl,by rw[hpp];exact hbest,hk1⟩
      apply hno
      rw[List.any_eq_true]
      exact⟨_,hf,by simp[hpp]⟩
  rw[hfun] at hbQ
  have hmpQ:Q.get A.mp=some (.map []):=hkQ.get hR121.wf hmp121 (by simp;exact fun e=>w4 e.symm)
  have hmsQ:Q.get A.ms=some (.map []):=hkQ.get hR121.wf hms121 (by simp;exact fun e=>w5 e.symm)
  have hKQ:aD M Q (foot p C):=by
   have k0:aD M M121 (foot p C):=hm.st.keep.trans hk121' (fun _ h _=>h) (by simp)
   exact k0.trans hkQ (fun _ h _=>h) (fun c hc hlt=>by rw[List.mem_singleton] at hc;omega)
  refine (aGj hRQ (-1)).mono ?_
  rintro y3 M157 ⟨l2,hl2,hy3,hk157,fy3⟩
  have hmem2:=hRQ.mem_fds hl2
  have hlen2:l2.length≤160:=by
   have:=hl2.length_eq
   rw[List.length_map] at this
   have:=List.length_filter_le (fun q:iK=>q.1.1 != -1) m
   have:=hR.few
   omega
  refine (aML M157 hk157.wf y3 l2 hy3.at (by omega)).mono ?_
  rintro y4 M159 ⟨hy4,hk159,fy4⟩
  have hlast2:cM l2=bK S1:=vR hmem2
  have hlX:bK S1=bK S:=by rw[hS1];rfl
  have hstl:∀ f∈(l2.filter fun f=>decide (f.t.e>cM l2)),f.t.e>bK S:=fun f hf=>by
   rw[List.mem_filter,decide_eq_true_eq,hlast2,hlX] at hf
   exact hf.2
  have hstm:∀ f∈(l2.filter fun f=>decide (f.t.e>cM l2)),∃ b k v,bI S b k=some v∧f.t=v.t:=fun f hf=>by
   rw[List.mem_filter] at hf
   obtain⟨b,k,v,hv,e⟩:=Go.Proofs.YteaogiidncpofaaGreat.mem_fds.1 ((hmem2 f).1 hf.1)
   rw[hS1] at hv
   exact⟨b,k,v,hv,by rw[e]⟩
  have hstlen:(l2.filter fun f=>decide (f.t.e>cM l2)).length≤160:=Nat.le_trans (List.length_filter_le _ _) hlen2
  generalize (l2.filter fun f=>decide (f.t.e>cM l2))=l4 at*
  have hk159':=hk157.trans0 hk159
  have hR159:=hRQ.post hk159'
  have hb159:=hbQ.keep hRQ.wf hk159' (by simp) (by simp)
  have hmp159:=hk159'.get hRQ.wf hmpQ (by simp)
  have hms159:=hk159'.get hRQ.wf hmsQ (by simp)
  have hQn:M121.next≤Q.next:=hkQ.nxt
  have h157n:Q.next≤M157.next:=hk157.nxt
  refine aG (iO hy4.at.len) ?_
  simp only[aJ]
  refine⟨fun z n Q2=>∃ (j:Nat) (es:List (Int×Unit)),z=j∧n=l4.length-j∧j≤l4.length∧aD M159 Q2 [A.ms]∧Q2.get A.ms=some (.map (mG i64 unA es))∧(es.map (·.1)).Nodup∧(l4=[]→es=[]),
   ⟨_,0,[],rfl,rfl,Nat.zero_le _,aD.refl hR159.wf,hms159,List.nodup_nil,fun _=>rfl⟩,?_⟩
  rintro _ z n Q2 ⟨j,es,rfl,rfl,hj,hkQ2,hgQ2,hndQ2,hesQ2⟩
  have hRQ2:=hR159.stepX hkQ2 gW.2.2 w3
  have hyQ2:jQ Q2 y4 l4:=aO.keep hy4.at hR159.wf hkQ2 fun c hc hmm=>by
   rw[List.mem_singleton] at hmm
   have:=fy4 c hc
   omega
  refine aT (fun hlt=>?_) (fun hge=>?_)
  ·have hlt:j<l4.length:=Int.ofNat_lt.1 (of_decide_eq_true hlt)
   refine bE fun K186 hK186=>?_
   have key:∀ (N3:aC) (es':List (Int×Unit)),aD Q2 N3 [A.ms]→N3.get A.ms=some (.map (mG i64 unA es'))→(es'.map (·.1)).Nodup→K186 N3:=by
    intro N3 es' a1 a2 a3
    rw[hK186]
    exact⟨_,by omega,j+1,es',dE (by omega),rfl,by omega,hkQ2.trans a1 (fun _ h _=>h) (fun _ h _=>h),a2,a3,fun e=>by rw[e] at hlt;simp at hlt⟩
   clear hK186
   obtain⟨b1,o1,a1,a2,_⟩:=hyQ2.all hlt
   refine aG (a1 Q2) ?_
   rw[bV]
   refine aG a2 ⟨_,_,_,_,_,_,rfl,?_⟩
   refine bE fun M177 hM177=>?_
   have e177:M177=Q2.new (.cells [i64 0,i64 0,i64 0,i64 0,i64 0,i64 0] true):=hM177
   have k177:aD Q2 M177 []:=by rw[e177];exact aD.new hRQ2.wf _
   have g177:M177.get Q2.next=some (.cells [i64 0,i64 0,i64 0,i64 0,i64 0,i64 0] true):=by rw[e177];exact get_new _ _
   have n177:M177.next=Q2.next+1:=by rw[e177];rfl
   clear hM177 e177
   refine aG (aAN l4[j] g177 rfl) ?_
   have k178:aD Q2 (M177.put Q2.next (.cells (fJ l4[j]) true)) []:=xD k177 (Nat.le_refl _) (by omega) _
   have g178:(M177.put Q2.next (.cells (fJ l4[j]) true)).get Q2.next=some (.cells (fJ l4[j]) true):=by rw[aC.get_put,if_pos rfl]
   revert k178 g178
   generalize M177.put Q2.next (.cells (fJ l4[j]) true)=M178
   intro k178 g178
   have hR178:=hRQ2.post k178
   have hg178:=k178.get hRQ2.wf hgQ2 (by simp)
   refine aG (aS (eB dX rfl g178 (o:=2) (v:=i64 l4[j].t.k) rfl)) ?_
   simp only[i64,aJ]
   refine aT (fun _=>?_) (fun _=>key M178 es (k178.mono (by simp)) hg178 hndQ2)
   refine aG (aS (eB aIz rfl hR178.fl (o:=9) (v:= .map A.ms) rfl)) ?_
   refine aG (aS (eB dX rfl g178 (o:=3) (v:=i64 l4[j].t.p) rfl)) ?_
   simp only[i64,aJ]
   obtain⟨es',p1,p2,_,_⟩:=aEb aKc hg178 hndQ2 l4[j].t.p ()
   refine aG p1 ?_
   exact key _ es' (k178.trans (aD.put k178.wf (k178.wf _ _ hg178) _) (by simp) (fun _ h _=>h)) (by rw[aC.get_put,if_pos rfl]) p2
  ·refine (aC6 hRQ2).mono ?_
   rintro y5 M189 ⟨rfl,hR189,hk189⟩
   simp only[i64,aJ]
   have hkA:∀ c∈[A.f],c∈A.av:=fun c hc=>by rw[List.mem_singleton] at hc;rw[hc];simp[bL.av,bL.all]
   have hbQ2:=hb159.keep hR159.wf hkQ2 (by simp[w5]) hT3
   have hfw:A.f∈A.wr:=by simp[bL.wr]
   have hbf:=hbQ2.keep hRQ2.wf hk189 (by simp;exact fun e=>w1 (by rw[e];exact hfw)) hkA
   have hmpQ2:=hkQ2.get hR159.wf hmp159 (by simp[w6])
   have hmpf:=hk189.get hRQ2.wf hmpQ2 (by simp;exact fun e=>w2 (by rw[e];exact hfw))
   have hmsf:=hk189.get hRQ2.wf hgQ2 (by simp;exact fun e=>w3 (by rw[e];exact hfw))
   have hS1x:S1.x=S.x∧S1.g=S.g∧S1.fs=S.fs∧S1.now=0∧S1.ep=ep∧S1.ops=C'.ops:=by rw[hS1];exact⟨rfl,rfl,rfl,rfl,rfl,rfl⟩
   have hlost1:dD S1=dD S:=by rw[hS1];rfl
   have hwx:(jI S1).1.x=S1.x∧(jI S1).1.g=S1.g∧(jI S1).1.fs=S1.fs∧(jI S1).1.now=S1.now∧(jI S1).1.ep=S1.ep∧(jI S1).1.ops=S1.ops∧(jI S1).1.deg= !decide ((dD S1:Int)≤S1.g.sp):=by
    unfold jI
    split
    ·rename_i hh
     refine⟨rfl,rfl,rfl,rfl,rfl,rfl,?_⟩
     rw[decide_eq_true hh,hS1];rfl
    ·rename_i hh
     refine⟨rfl,rfl,rfl,rfl,rfl,rfl,?_⟩
     rw[decide_eq_false hh];rfl
   obtain⟨x1,x2,x3,x4,x5,x6,x7⟩:=hwx
   refine⟨A,(jI S1).1,by first|trivial|rfl,hAp,hAft,hAfs,hAe,hnew,⟨hAb,hApn,hAs,hAf⟩,?_,⟨x1.trans hS1x.1,x2.trans hS1x.2.1,x3.trans hS1x.2.2.1,x4.trans hS1x.2.2.2.1⟩,?_,?_,⟨fun b k v hv=>?_,?_⟩,⟨_,_,hR189⟩,⟨hmpf,List.nodup_nil,fun q hq=>by simp at hq,fun n x hx=>by cases hx⟩,⟨bm,hbf⟩,⟨_,hmsf,fun hno=>?_⟩⟩
   ·have k1:aD M Q2 (foot p C):=(hKQ.trans hk159' (fun _ h _=>h) (by simp)).trans hkQ2 (fun _ h _=>h) (fun c hc hlt=>by rw[List.mem_singleton] at hc;omega)
    exact k1.trans hk189 (fun _ h _=>h) (fun c hc hlt=>by rw[List.mem_singleton] at hc;omega)
   ·rw[x7,hlost1,hS1x.2.1]
   ·rw[x6,hS1x.2.2.2.2.2]
    have h9:((nB S:Int)*(nG S:Int))=((nB S*nG S:Nat):Int):=by rw[Int.natCast_mul]
    omega
   ·rw[x5,hS1x.2.2.2.2.1]
    obtain⟨q,hq,_,_,e1⟩:=hfnd b k v hv
    rw[← e1];exact hm.epb.2.2 q hq
   ·rw[x5,hS1x.2.2.2.2.1]
    rcases hm.epb.2.1 with h0|⟨q,hq,e⟩
    ·exact .inl h0
    ·obtain⟨b,k,v,_,_,e3,e4,_⟩:=hm.lnk q hq
     exact .inr ⟨b,k,v,e3,by rw[← e4.2.2.2];exact e⟩
   ·have hl4:l4=[]:=by
     cases hl4:l4 with
     | nil=>rfl
     | cons f r=>
       exfalso
       have hf:f∈l4:=by rw[hl4];simp
       have h1:=hstl f hf
       obtain⟨b,k,v,hv,e⟩:=hstm f hf
       have h2:=hno b k v hv
       rw[e] at h1
       omega
    rw[hesQ2 hl4]
    rfl
set_option maxRecDepth 100000
def yA(x:Int)(n:Nat):Nat:=((x%18446744073709551616).tmod (n:Int)).toNat
theorem aEO(x:Int){n:Nat}(hn:0<n):yA x n<n:=by
 unfold yA
 have h0:0≤x%18446744073709551616:=Int.emod_nonneg _ (by omega)
 rw[Int.tmod_eq_emod_of_nonneg h0]
 have:=Int.emod_lt_of_pos (x%18446744073709551616) (show (0:Int)<n by omega)
 have:=Int.emod_nonneg (x%18446744073709551616) (show (n:Int)≠0 by omega)
 omega
theorem aSu(M:aC)(x:Int)(n:Nat)(hn:0<n)(hn2:n<4611686018427387904):
 aB tb.P 12 [i64 x,i64 (n:Int)] M fun y N=>y=i64 (yA x n:Int)∧N=M:=by
 have h0:0≤x%18446744073709551616:=Int.emod_nonneg _ (by omega)
 have e1:(n:Int)%18446744073709551616=n:=by omega
 have hnn:(n:Int)≠0:=by omega
 have hlt:=aEO x hn
 have h2:0≤(x%18446744073709551616).tmod (n:Int):=Int.tmod_nonneg _ h0
 have e2:(x%18446744073709551616).tmod (n:Int)=(yA x n:Int):=by unfold yA;omega
 refine aPE ?_
 unfold F12
 simp only[i64,aJ,aDQ,e1]
 refine aG (cB (v:= .val (.int .u64 (yA x n:Int))) ?_) ?_
 ·rw[vX (by simp) (by simp)]
  simp only[tE,hnn,decide_false,cond_false,e2,Option.map_some]
 ·simp only[aJ]
  rw[aL (by omega) (by omega)]
  exact⟨rfl,by trivial⟩
def aSh(z:Int)(n:Nat):bZ:=(List.range n).map fun i:Nat=>BitVec.ofInt 8 (z+(i:Int))
@[simp] theorem aSl (z:Int) (n:Nat):(aSh z n).length=n:=by simp[aSh]
theorem aIj(z:Int)(i:Nat):AV.val (.int .u8 (aM .u8 z (IntKind.wrap .u8 (i:Int))))=rZ (BitVec.ofInt 8 (z+(i:Int))):=by
 unfold rZ
 rw[aM,vL,vL,BitVec.toNat_ofInt]
 congr 2
 have h1:((2^8:Nat):Int)=256:=by decide
 rw[h1]
 have:0≤(z+(i:Int))%256:=Int.emod_nonneg _ (by omega)
 omega
theorem aAL(M:aC)(a b c:Int):aB tb.P 51 [i64 a,i64 b,i64 c] M fun y N=>y= .val (.bool (yI a b c))∧N=M:=by
 refine aPU ?_
 unfold F51 yI
 simp only[i64,aJ,cY]
 refine aT (fun h=>?_) (fun h=>?_)
 ·have h:b≤a:=by simpa using h
  simp[h]
 ·have h:¬ b≤a:=by simpa using h
  simp[h]
theorem aJB(M:aC)(hw:M.WF)(g:eF)(h1:8≤g.bl∧g.bl≤20)(h2:4≤g.pg∧g.pg≤8)(h3:0≤g.sp∧g.sp≤4):aB tb.P 34 [fX g] M fun y N=>(∃ z,y=i64 z∧decide (z≥4)=decide (12≤(g.bl-g.sp-3)*g.pg))∧aD M N []:=by
 refine aIS ?_
 unfold F34
 refine⟨_,_,_,_,_,rfl,?_⟩
 simp only[cY]
 have hg:=get_new M (.cells (cW g) true)
 obtain⟨l0,l1,l2,l3,l4,_⟩:=cC hg
 have hK:=aD.new hw (.cells (cW g) true)
 refine aG (aS l0) ?_
 simp only[i64,aJ]
 refine aG (aS l3) ?_
 simp only[i64,aJ]
 refine aG (aS l1) ?_
 simp only[i64,aJ]
 obtain⟨e,hb1,hb2⟩:=aCq h1 h2 h3
 rw[e]
 generalize (g.bl-g.sp-3)*g.pg=m at hb1 hb2 ⊢
 refine aG (nQ _ _ _) ?_
 simp only[aJ]
 refine⟨⟨_,rfl,?_⟩,hK⟩
 have hp:0≤max (m-4) 0∧max (m-4) 0≤1000000:=by omega
 rw[kV,Int.tdiv_eq_ediv_of_nonneg hp.1,aL (by omega) (by omega),decide_eq_decide]
 omega
theorem yW(M:aC)(hw:M.WF)(g:eF):aB tb.P 18 [fX g] M fun y N=>y= .val (.bool (dV g))∧aD M N []:=by
 refine aQM ?_
 unfold F18
 refine⟨_,_,_,_,_,rfl,?_⟩
 simp only[cY]
 have hg:=get_new M (.cells (cW g) true)
 obtain⟨l0,l1,l2,l3,l4,l5⟩:=cC hg
 have hK:=aD.new hw (.cells (cW g) true)
 unfold dV
 refine aG (aS l0) ?_
 simp only[i64,aJ]
 refine (aAL _ g.bl 8 20).mono ?_
 rintro y N ⟨rfl,rfl⟩
 simp only[cO]
 generalize hh0:yI g.bl 8 20=q0
 refine aT (fun h=>?_) (fun h=>⟨by rw[h];rfl,hK⟩)
 subst h
 rw[Bool.true_and]
 refine aG (aS l1) ?_
 simp only[i64,aJ]
 refine (aAL _ g.pg 4 8).mono ?_
 rintro y N ⟨rfl,rfl⟩
 simp only[cO]
 generalize hh1:yI g.pg 4 8=q1
 refine aT (fun h=>?_) (fun h=>⟨by rw[h];rfl,hK⟩)
 subst h
 rw[Bool.true_and]
 refine aG (aS l2) ?_
 simp only[i64,aJ]
 refine (aAL _ g.by' 24 64).mono ?_
 rintro y N ⟨rfl,rfl⟩
 simp only[cO]
 generalize hh2:yI g.by' 24 64=q2
 refine aT (fun h=>?_) (fun h=>⟨by rw[h];rfl,hK⟩)
 subst h
 rw[Bool.true_and]
 refine aG (aS l3) ?_
 simp only[i64,aJ]
 refine (aAL _ g.sp 0 4).mono ?_
 rintro y N ⟨rfl,rfl⟩
 simp only[cO]
 generalize hh3:yI g.sp 0 4=q3
 refine aT (fun h=>?_) (fun h=>⟨by rw[h];rfl,hK⟩)
 subst h
 rw[Bool.true_and]
 refine aG (aS l4) ?_
 simp only[i64,aJ]
 refine (aAL _ g.tr 2 20).mono ?_
 rintro y N ⟨rfl,rfl⟩
 simp only[cO]
 generalize hh4:yI g.tr 2 20=q4
 refine aT (fun h=>?_) (fun h=>⟨by rw[h];rfl,hK⟩)
 subst h
 rw[Bool.true_and]
 refine aG (aS l5) ?_
 refine⟨_,_,_,_,_,rfl,?_⟩
 unfold yI at hh0 hh1 hh3
 simp only[Bool.and_eq_true,decide_eq_true_eq] at hh0 hh1 hh3
 refine (aJB _ hK.wf g hh0 hh1 hh3).mono ?_
 rintro y N ⟨⟨z,rfl,hz⟩,hk2⟩
 simp only[i64,aJ]
 exact⟨by rw[hz],hK.trans0 hk2⟩
def dJ(M:aC)(x:AV)(l:List Int):Prop:=aO 1 M x l.length (l.map i64)
theorem nK.ints{M:aC}{x:AV}{l:List Int}(h:nK M x (l.map i64)):dJ M x l:=by
 have:=h.at
 unfold dJ
 unfold lV at this
 rwa [List.length_map] at this
theorem dJ.len{M M':aC}{x:AV}{l:List Int}(h:dJ M x l):bD tb false 48 x M'=some l.length:=aO.len h uY rfl
theorem dJ.at{M:aC}{x:AV}{l:List Int}(h:dJ M x l){i:Nat}(hi:i<l.length):
 ∃ b o,bJ tb 48 x (.val (.int .i64 (i:Int)))=some (.ptr b o)∧aY tb 3 (.ptr b o) M=some (i64 l[i]):=by
 obtain⟨b,o,h1,_,h2,_⟩:=aO.at h uY rfl dX rfl hi (k':= .i64)
 refine⟨b,o,h1,?_⟩
 unfold aY
 rw[dX]
 have:=h2 0 (by omega)
 simp only[Nat.add_zero,Nat.mul_one] at this
 rw[List.getElem?_map,List.getElem?_eq_getElem hi] at this
 simpa[TI.isAgg] using this
theorem aF4(M:aC)(x y:AV)(l m:List Int)(hx:dJ M x l)(hy:dJ M y m)(hl:l.length≤9223372036854775806):
 aB tb.P 25 [x,y] M fun v N=>v= .val (.bool (decide (l=m)))∧N=M:=by
 refine aQg ?_
 unfold F25
 refine aG (iO hx.len) ?_
 simp only[aJ]
 refine aG (iO hy.len) ?_
 simp only[aJ]
 refine aT (fun hne=>?_) (fun heq=>?_)
 ·have:l≠m:=fun h=>by subst h;simp at hne
  simp[this]
 ·have hlen:l.length=m.length:=by simp at heq;omega
  refine⟨fun z n N=>∃ i:Nat,z=i∧n=l.length-i∧i≤l.length∧N=M∧l.take i=m.take i,⟨l.length,0,rfl,rfl,Nat.zero_le _,rfl,by simp⟩,?_⟩
  rintro _ z n N ⟨i,rfl,rfl,hi,rfl,htk⟩
  refine aG (iO hx.len) ?_
  simp only[aJ]
  refine aT (fun hlt=>?_) (fun hge=>?_)
  ·have hlt:i<l.length:=by simpa using hlt
   have hlt':i<m.length:=by omega
   obtain⟨b,o,hia,hld⟩:=hx.at hlt
   obtain⟨b',o',hia',hld'⟩:=hy.at hlt'
   refine aG (bH hia) ?_
   refine aG (bH hia') ?_
   refine aG (aS hld) ?_
   simp only[i64,aJ]
   refine aG (aS hld') ?_
   simp only[i64,aJ]
   refine aT (fun hd=>?_) (fun hd=>?_)
   ·have hne:l[i]≠m[i]:=by simpa using hd
    have:l≠m:=fun h=>by subst h;exact hne rfl
    simp[this]
   ·have he:l[i]=m[i]:=by simpa using hd
    exact⟨l.length-(i+1),by omega,i+1,dE (by omega),rfl,hlt,by trivial,by rw[List.take_succ_eq_append_getElem hlt,List.take_succ_eq_append_getElem hlt',htk,he]⟩
  ·have hge:i=l.length:=by have:¬ (i:Int)<l.length:=by simpa using hge
                           omega
   subst hge
   have:l=m:=by
    rw[List.take_of_length_le (Nat.le_refl _),List.take_of_length_le (by omega)] at htk
    exact htk
   simp[this]
structure LC (M0:aC) (g:eF) (k n:Int) (M:aC) (p:Nat) (C:aQ) (S:Ps) (B:Int→Option bZ):Prop where
 wf:M.WF
 chip:bF M p C
 rel:aFY C S
 q:tY S
 base:eH S B
 neg:∀ p:Int,p<0→B p=none
 g:S.g=g
 ops:S.ops≤n
 ep:S.ep≤k
 ge:∀ c∈foot p C,M0.next≤c
 nx:M0.next≤M.next
 low:∀ c,c<M0.next→M.get c=M0.get c
structure LF (M0:aC) (g:eF) (k n:Int) (A:bL) (M:aC) (S:Ps) (P:Int→Option (Option bZ)) (B:Int→Option bZ):Prop where
 fm:FM A M S P B
 q:tY S
 base:eH S B
 pend:aA1 S.g P
 neg:∀ p:Int,p<0→B p=none
 deg:S.deg=false
 g:S.g=g
 ops:S.ops≤n
 ep:S.ep≤k
 ext:∀ c∈A.ext,c<M.next
 ge:∀ c∈A.all,M0.next≤c
 nx:M0.next≤M.next
 low:∀ c,c<M0.next→M.get c=M0.get c
def NoP:Int→Option (Option bZ):=fun _=>none
theorem bL.mw_all{A:bL}:∀ c∈A.mw,c∈A.all:=fun c hc=>by
 simp only[bL.mw,bL.wr,bL.all,List.mem_cons] at hc ⊢
 rcases hc with h|h|h|h|h|h <;> simp[h]
theorem bL.mp_all{A:bL}:∀ c∈[A.mp],c∈A.all:=fun c hc=>by
 rw[List.mem_singleton] at hc
 simp[bL.all,hc]
section
variable {M0:aC} {g:eF} {k n:Int} {A:bL} {M:aC} {S:Ps} {P:Int→Option (Option bZ)} {B:Int→Option bZ}
theorem LF.wf(h:LF M0 g k n A M S P B):M.WF:=h.fm.wf
theorem LF.hext(h:LF M0 g k n A M S P B):∀ c∈A.ext,c<M.next:=h.ext
theorem LF.lt(h:LF M0 g k n A M S P B):∀ c∈A.all,c<M.next:=fun c hc=>h.fm.av_lt h.hext c (by simp only[bL.av,List.mem_append];exact .inl hc)
theorem lE{N:aC}{T:List Nat}(hl:∀ c,c<M0.next→M.get c=M0.get c)(hn:M0.next≤M.next)(hge:∀ c∈T,M0.next≤c)(hk:aD M N T):∀ c,c<M0.next→N.get c=M0.get c:=fun c hc=>by
 rw[hk.old c (by omega) fun hm=>by have:=hge c hm;omega]
 exact hl c hc
theorem LF.keep{N:aC}(h:LF M0 g k n A M S P B)(hk:aD M N []):LF M0 g k n A N S P B:=
 { h with fm:=h.fm.post hk,ext:=fun c hc=>Nat.lt_of_lt_of_le (h.ext c hc) hk.nxt,nx:=Nat.le_trans h.nx hk.nxt,low:=lE h.low h.nx (by simp) hk }
theorem jY.aside{pm:List (Int×AV)}{R:Int→Option (Option bZ)}{b:Nat}(h:jY M A b pm R)(hw:M.WF){T:List Nat}(hT:∀ c∈T,M.next≤c):jY M { A with ext:=T++A.ext } b pm R:=
 ⟨h.get,h.nd,fun q hq=>(h.ent q hq).imp id fun⟨d,e1,e2,e3,e4⟩=>⟨d,e1,e2,e3,fun c hc hm=>by
  have hlt:c<M.next:=by
   rcases e2.2 with⟨e5,e6⟩|⟨b',o,cp,ex,e5,_,e6⟩
   ·rw[e5] at hc;exact hc.elim
   ·rw[e5] at hc
    rcases e6 with e6|⟨cs,rw',e7,_⟩
    ·exact absurd e6 hc.1
    ·rw[← hc.2];exact hw _ _ e7
  simp only[bL.av,List.mem_append] at hm
  rcases hm with hm|hm|hm
  ·exact e4 c hc (by simp only[bL.av,List.mem_append];exact .inl hm)
  ·have:=hT c hm;omega
  ·exact e4 c hc (by simp only[bL.av,List.mem_append];exact .inr hm)⟩,h.cov⟩
theorem FM.aside(h:FM A M S P B){T:List Nat}(hT:∀ c∈T,M.next≤c):FM { A with ext:=T++A.ext } M S P B:=by
 obtain⟨C,m,hr⟩:=h.fr
 obtain⟨pm,hp⟩:=h.pend
 obtain⟨bm,hb⟩:=h.base
 exact⟨⟨C,m,hr.aside hT⟩,⟨pm,hp.aside h.wf hT⟩,⟨bm,hb.aside h.wf hT⟩,h.stale⟩
theorem LF.aside{N:aC}(h:LF M0 g k n A M S P B)(hk:aD M N []){T:List Nat}(hT:∀ c∈T,M.next≤c∧c<N.next):LF M0 g k n { A with ext:=T++A.ext } N S P B:=
 { (h.keep hk) with fm:=(h.fm.aside fun c hc=>(hT c hc).1).post hk,ext:=fun c hc=>(List.mem_append.1 hc).elim (fun hc=>(hT c hc).2) (fun hc=>Nat.lt_of_lt_of_le (h.ext c hc) hk.nxt),ge:=h.ge }
theorem LF.beside{N:aC}{b:Nat}(h:LF M0 g k n A M S P B)(hk:aD M N [b])(hb:b∉A.all)(he:b∈A.ext)(hg:M0.next≤b):LF M0 g k n A N S P B:=
 { h with fm:=h.fm.keepX hk (fun c hc=>by rw[List.mem_singleton] at hc;subst hc;exact⟨he,hb⟩),ext:=fun c hc=>Nat.lt_of_lt_of_le (h.ext c hc) hk.nxt,nx:=Nat.le_trans h.nx hk.nxt,low:=lE h.low h.nx (fun c hc=>by rw[List.mem_singleton] at hc;omega) hk }
theorem LF.mono{k' n':Int}(h:LF M0 g k n A M S P B)(hk:k≤k')(hn:n≤n'):LF M0 g k' n' A M S P B:=
 { h with ops:=Int.le_trans h.ops hn,ep:=Int.le_trans h.ep hk }
theorem LF.may(h:LF M0 g k n A M S P B):dV g=true:=by rw[← h.g];exact h.q.inv.may
theorem LF.left(h:LF M0 g k n A M S P B):∃ C,LC M0 g k n M A.p C S B∧foot A.p C=A.ft:=by
 obtain⟨C,m,hr⟩:=h.fm.fr
 exact⟨C,⟨h.wf,hr.chip,hr.rel,h.q,h.base,h.neg,h.g,h.ops,h.ep,fun c hc=>h.ge c (by rw[hr.foot] at hc;simp[bL.all,hc]),h.nx,h.low⟩,hr.foot⟩
theorem LF.len(h:LF M0 g k n A M S P B){z:Int}(hz:0≤z){d:bZ}(hd:jO P B z=some d):(d.length:Int)=g.by':=by
 rw[← h.g]
 unfold jO at hd
 cases hP:P z with
 | none=>rw[hP] at hd;exact (h.base.rng h.q.inv hz hd).2
 | some x=>rw[hP] at hd;subst hd;exact h.pend.len z d hP
theorem aHT{p:Nat}{C:aQ}(h:LC M0 g k n M p C S B)(hn:n≤1000000000){T:List Nat}(hT:∀ c∈T,c<M.next∧¬ aN C.fsA c):aB tb.P 32 [.ptr p 0] M fun y N=>∃ A S',y= .tup [.ptr A.f 0,i64 0]∧A.ext=T∧LF M0 g k (n+160) A N S' NoP B∧A.p=p∧A.ft=foot p C∧S'.fs=S.fs∧aD M N (foot p C)∧(∀ c∈A.all,c∈foot p C∨M.next≤c)∧S'.x=S.x∧S'.g=S.g∧S.ops≤S'.ops∧S'.ops≤S.ops+(nB S:Int)*nG S:=by
 have hge:=h.q.inv.geo
 refine (aNq M h.wf p C S h.chip h.rel h.q.inv (by have:=h.ops;omega) h.base h.neg hT).mono ?_
 rintro y N ⟨A,S',rfl,hm⟩
 have hnp:nB S*nG S≤160:=by
  have:nB S*nG S≤20*8:=Nat.mul_le_mul (by omega) (by omega)
  omega
 obtain⟨x1,x2,x3,x4⟩:=hm.x
 have x5:S'.now=S.now:=by rw[x4,h.q.now]
 have hS:S'={ S with seq:=S'.seq,ep:=S'.ep,deg:=S'.deg,ops:=S'.ops }:=by
  clear hm
  cases S'
  cases S
  simp only at x1 x2 x3 x5
  subst x1 x2 x3 x5
  rfl
 have hlx:=eT S
 have hle:∀ b k v,bI S b k=some v→v.t.e≤bK S:=fun b k v hv=>by rw[← h.q.ep];exact (h.q.inv.tag b k v hv).2.2.2.2
 have hep:S'.ep=bK S:=by
  obtain⟨e1,e2⟩:=hm.ep
  refine Int.le_antisymm ?_ ?_
  ·rcases e2 with e2|⟨b,k,v,hv,e⟩
   ·rw[e2];exact hlx.2.1
   ·rw[← e];exact hle b k v hv
  ·rcases hlx.2.2 with e3|⟨b,i,v,hv,_,e⟩
   ·rw[e3]
    rcases e2 with e2|⟨b,k,v,hv,e⟩
    ·omega
    ·have:=(iT (h.q.inv.tag b k v hv).1).2.2.2.2.2.2.2.2.1
     omega
   ·rw[← e];exact e1 b i v hv
 have hl':bK S'=bK S:=by rw[hS];rfl
 have hlost:dD S'=dD S:=by rw[hS];rfl
 have hphi:phi S'=phi S:=by rw[hS];rfl
 obtain⟨C',m,hr⟩:=hm.fr
 obtain⟨es,hes,hes0⟩:=hm.stale
 obtain⟨bm,hbm⟩:=hm.base
 have hall:∀ c∈A.all,M0.next≤c:=fun c hc=>by
  have:=hm.new
  have:=hm.adr
  have:=h.nx
  simp only[bL.all,List.mem_cons] at hc
  rcases hc with rfl|rfl|rfl|rfl|rfl|hc
  ·omega
  ·omega
  ·omega
  ·omega
  ·omega
  ·rw[hm.ft] at hc;exact h.ge c hc
 have hb':eH S' B:=h.base.same ⟨hl',x5,fun c k p e d=>by rw[hS];exact Iff.rfl⟩
 refine⟨A,S',rfl,hm.ext,⟨⟨⟨C',m,hr⟩,⟨_,hm.pend⟩,⟨bm,hbm⟩,?_⟩,⟨hr.inv,x4,by rw[hep,hl'],?_,?_⟩,hb',⟨fun n x hx=>(by cases hx),fun n d hx=>(by cases hx)⟩,h.neg,?_,by rw[x2];exact h.g,?_,?_,(by rw[hm.ext];exact fun c hc=>Nat.lt_of_lt_of_le (hT c hc).1 hm.keep.nxt),hall,Nat.le_trans h.nx hm.keep.nxt,lE h.low h.nx h.ge hm.keep⟩,hm.ap,hm.ft,x3,hm.keep,fun c hc=>?_,x1,x2,hm.ops.1,hm.ops.2⟩
 rotate_right
 ·have:=hm.new
  have:=hm.adr
  simp only[bL.all,List.mem_cons] at hc
  rcases hc with rfl|rfl|rfl|rfl|rfl|hc
  ·right;omega
  ·right;omega
  ·right;omega
  ·right;omega
  ·right;omega
  ·left;rw[← hm.ft];exact hc
 ·rw[hes,hes0 hle]
 ·rw[hlost,x2];exact h.q.lost
 ·rw[hphi,x2];exact h.q.phi
 ·rw[hm.deg]
  have:=h.q.lost
  simp[this]
 ·have h1:=hm.ops.2
  have h2:=h.ops
  have h3:(nB S:Int)*nG S≤160:=by exact_mod_cast hnp
  omega
 ·rw[hep,← h.q.ep];exact h.ep
theorem aHY{p:Nat}{C:aQ}(h:LC M0 g k n M p C S B)(hn:n≤1000000000){T:List Nat}(hT:∀ c∈T,c<M.next∧¬ aN C.fsA c):aB tb.P 32 [.ptr p 0] M fun y N=>∃ A S',y= .tup [.ptr A.f 0,i64 0]∧A.ext=T∧LF M0 g k (n+160) A N S' NoP B∧A.p=p∧A.ft=foot p C∧S'.fs=S.fs∧aD M N (foot p C)∧∀ c∈A.all,c∈foot p C∨M.next≤c:=
 (aHT h hn hT).mono fun y N ⟨A,S',h1,h2,h3,h4,h5,h6,h7,h8,_⟩=>⟨A,S',h1,h2,h3,h4,h5,h6,h7,h8⟩
theorem aJO{p:Nat}{C:aQ}(h:LC M0 g k n M p C S B)(hn:n≤1000000000):aB tb.P 32 [.ptr p 0] M fun y N=>∃ A S',y= .tup [.ptr A.f 0,i64 0]∧LF M0 g k (n+160) A N S' NoP B∧A.p=p∧A.ft=foot p C∧S'.fs=S.fs∧aD M N (foot p C)∧∀ c∈A.all,c∈foot p C∨M.next≤c:=
 (aHY h hn (T:=[]) (fun c hc=>by simp at hc)).mono fun y N ⟨A,S',h1,_,h2⟩=>⟨A,S',h1,h2⟩
theorem aKN(h:LF M0 g k n A M S P B){z:Int}(hz:0≤z∧z<eL g){w:AV}{d:bZ}(hw:aI M w d)(hd:(d.length:Int)=g.by'):
 aB tb.P 47 [.ptr A.f 0,i64 z,w] M fun y N=>y=i64 0∧LF M0 g k n A N S (lW P z (some d)) B∧aD M N A.all:=by
 have hm:=bP.1 h.may
 refine (aMq h.fm h.hext (z:=z) (by rw[h.g];exact hz) hw (by rw[h.g];exact hd) ⟨by omega,by omega⟩).mono ?_
 rintro y N ⟨h1,_⟩
 obtain⟨rfl,hf,hk⟩:=h1 h.deg
 refine⟨rfl,{ h with fm:=hf,pend:=⟨fun n x hx=>?_,fun n d' hx=>?_⟩,ext:=fun c hc=>Nat.lt_of_lt_of_le (h.ext c hc) hk.nxt,nx:=Nat.le_trans h.nx hk.nxt,low:=lE h.low h.nx (fun c hc=>h.ge c (bL.mp_all c hc)) hk },hk.mono fun c hc _=>bL.mp_all c hc⟩
 ·unfold lW at hx
  split at hx
  ·rename_i e;subst e;rw[h.g];exact hz
  ·exact h.pend.rng n x hx
 ·unfold lW at hx
  split at hx
  ·injection hx with hx;injection hx with hx;subst hx;rw[h.g];exact hd
  ·exact h.pend.len n d' hx
theorem aLw(h:LF M0 g k n A M S P B){z:Int}(hz:0≤z∧z<eL g):
 aB tb.P 49 [.ptr A.f 0,i64 z] M fun y N=>(jO P B z=none→y=i64 4∧LF M0 g k n A N S P B∧aD M N A.all)∧(jO P B z≠none→y=i64 0∧LF M0 g k n A N S (lW P z none) B∧aD M N A.all):=by
 refine (aQF h.fm (z:=z) (by rw[h.g];exact hz)).mono ?_
 rintro y N ⟨_,h2,h3⟩
 refine⟨fun e=>?_,fun e=>?_⟩
 ·obtain⟨rfl,hk⟩:=h2 h.deg e
  exact⟨rfl,h.keep hk,hk.mono (by simp)⟩
 ·obtain⟨rfl,hf,hk⟩:=h3 h.deg e
  refine⟨rfl,{ h with fm:=hf,pend:=⟨fun n x hx=>?_,fun n d' hx=>?_⟩,ext:=fun c hc=>Nat.lt_of_lt_of_le (h.ext c hc) hk.nxt,nx:=Nat.le_trans h.nx hk.nxt,low:=lE h.low h.nx (fun c hc=>h.ge c (bL.mp_all c hc)) hk },hk.mono fun c hc _=>bL.mp_all c hc⟩
  ·unfold lW at hx
   split at hx
   ·rename_i e;subst e;rw[h.g];exact hz
   ·exact h.pend.rng n x hx
  ·unfold lW at hx
   split at hx
   ·cases hx
   ·exact h.pend.len n d' hx
theorem aIG(h:LF M0 g k n A M S P B)(hfs:(S.fs.length:Int)≤g.sp)(hn:n≤900000000)(hk:k≤16777214):
 aB tb.P 50 [.ptr A.f 0] M fun y N=>y=i64 0∧∃ S',LF M0 g (k+1) (n+31000) A N S' NoP (jO P B)∧S'.fs=S.fs∧aD M N A.all∧(S'=S∨S'=(kL S (iP P B (fW S.g))).1∧(kL S (iP P B (fW S.g))).2=0):=by
 have hge:=h.q.inv.geo
 have hK0:dQ S=9*(nB S+1)+1:=rfl
 have hops:=h.ops
 have hep:=h.ep
 refine (aMn h.fm h.hext h.q h.pend h.deg (by omega) (by omega)).mono ?_
 rintro y N ⟨h1,h2⟩
 by_cases hP:∀ n,P n=none
 ·obtain⟨rfl,hf,hk'⟩:=h1 hP
  have e:P=NoP:=funext hP
  subst e
  exact⟨rfl,S,{ h with fm:=hf,ops:=by omega,ep:=by omega,ext:=fun c hc=>Nat.lt_of_lt_of_le (h.ext c hc) hk'.nxt,nx:=Nat.le_trans h.nx hk'.nxt,low:=lE h.low h.nx (fun c hc=>h.ge c (bL.mw_all c hc)) hk' },rfl,hk'.mono (fun c hc _=>bL.mw_all c hc),.inl rfl⟩
 ·obtain⟨rfl,hk',h3,h4⟩:=h2 hP
  have hfl:=aKu (P:=P) (B:=B) h.q h.base h.pend (by omega) (by omega)
  obtain⟨e1,e2⟩:=hfl.env
  rcases hfl.code with⟨c0,hq,hd,he,hb⟩|⟨_,_,hlo,_⟩
  ·refine⟨by rw[c0],_,⟨h3 c0,hq,hb,⟨fun n x hx=>(by cases hx),fun n d hx=>(by cases hx)⟩,fun p hp=>?_,by rw[hd];exact h.deg,by rw[e1];exact h.g,?_,by omega,(fun c hc=>Nat.lt_of_lt_of_le (h.ext c hc) hk'.nxt),h.ge,Nat.le_trans h.nx hk'.nxt,lE h.low h.nx (fun c hc=>h.ge c (bL.mw_all c hc)) hk'⟩,e2,hk'.mono (fun c hc _=>bL.mw_all c hc),.inr ⟨rfl,c0⟩⟩
   ·unfold jO
    cases hPp:P p with
    | none=>exact h.neg p hp
    | some x=>have:=(h.pend.rng p x hPp).1;omega
   ·have ho:=hfl.ops.2
    have hnp:nB S*nG S+1≤161:=by
     have:nB S*nG S≤20*8:=Nat.mul_le_mul (by omega) (by omega)
     omega
    have:dQ S*((nB S*nG S+1:Nat):Int)≤190*161:=by
     refine Int.mul_le_mul (by omega) (by omega) (by omega) (by omega)
    generalize dQ S*((nB S*nG S+1:Nat):Int)=X at ho this
    omega
  ·exfalso
   have:=aEJ (kL S (iP P B (fW S.g))).1
   rw[e2] at this
   have e0:S.g.sp=g.sp:=by rw[h.g]
   omega
theorem aKi(h:LF M0 g k n A M S P B)(hfs:(S.fs.length:Int)≤g.sp)(hn:n≤900000000)(hk:k≤16777214):
 aB tb.P 50 [.ptr A.f 0] M fun y N=>y=i64 0∧∃ S',LF M0 g (k+1) (n+31000) A N S' NoP (jO P B)∧S'.fs=S.fs∧aD M N A.all:=
 (aIG h hfs hn hk).mono fun y N ⟨h1,S',h2,h3,h4,_⟩=>⟨h1,S',h2,h3,h4⟩
theorem aG8(h:LF M0 g k n A M S P B){z:Int}(hz:0≤z∧z<eL g):
 aB tb.P 45 [.ptr A.f 0,i64 z] M fun y N=>LF M0 g k n A N S P B∧aD M N []∧((jO P B z=none∧y= .tup [jW,i64 4])∨∃ x d,jO P B z=some d∧y= .tup [x,i64 0]∧Gr N x d∧∀ c,aN x c→M.next≤c):=by
 have hm:=bP.1 h.may
 refine (aQX h.fm (z:=z) (by rw[h.g];exact hz) fun d hd=>?_).mono fun y N ⟨hk,h2⟩=>⟨h.keep hk,hk,h2⟩
 have:=h.len hz.1 hd
 omega
theorem aDY(h:LF M0 g k n A M S P B):aB tb.P 48 [.ptr A.f 0] M fun y N=>LF M0 g k n A N S P B∧dJ N y (pgN (jO P B) (eL g).toNat)∧aD M N []∧∀ c,aN y c→M.next≤c:=by
 refine (aLU h.fm).mono fun y N ⟨h1,h2,h3⟩=>⟨h.keep h2,?_,h2,h3⟩
 rw[h.g] at h1
 exact h1.ints
end
def hC(g:eF)(fs:List nU):Ps:=⟨g,fs,List.replicate g.bl.toNat ⟨[],0,0⟩,0,0,0,false,0⟩
theorem uE(g:eF)(fs:List nU)(b i:Nat):bI (hC g fs) b i=none:=by
 unfold bI hC
 simp only[List.getElem?_replicate]
 split
 ·rename_i B hB
  split at hB
  ·injection hB with hB;subst hB;rfl
  ·cases hB
 ·rfl
theorem aA9(g:eF)(fs:List nU)(b:Nat):aP (hC g fs) b=0:=by
 unfold aP hC
 simp only[List.getElem?_replicate]
 split
 ·rename_i B hB
  split at hB
  ·injection hB with hB;subst hB;rfl
  ·cases hB
 ·rfl
theorem aMH{g:eF}(hg:dV g=true)(fs:List nU):eW (hC g fs):=by
 refine⟨hg,by simp[hC,nB],fun b=>by rw[aA9];exact Nat.zero_le _,⟨fun b i v hv=>?_,fun b i v b' i' v' hv _ _=>?_⟩,fun b i v hv=>?_,fun b _=>aA9 g fs b,⟨Int.le_refl _,Int.le_refl _⟩,fun b B hB=>?_⟩
 ·rw[uE] at hv;cases hv
 ·rw[uE] at hv;cases hv
 ·rw[uE] at hv;cases hv
 ·simp only[hC,List.getElem?_replicate] at hB
  split at hB
  ·injection hB with hB;subst hB
   exact⟨Int.le_refl _,Int.le_refl _,Int.le_refl _,Int.le_refl _⟩
  ·cases hB
theorem aFi(g:eF)(fs:List nU):bK (hC g fs)=0:=by
 obtain⟨_,_,h|⟨b,i,v,hv,_⟩⟩:=eT (hC g fs)
 ·exact h
 ·rw[uE] at hv;cases hv
theorem aN3{n:Nat}{is:Nat→Bool}(h:∀ b,b<n→is b=true):cnt n is=n:=by
 induction n with
 | zero=>rfl
 | succ n ih=>rw[dT,ih fun b hb=>h b (by omega),h n (by omega)];rfl
theorem aHP{g:eF}(hg:dV g=true){fs:List nU}(hl:(dD (hC g fs):Int)≤g.sp):tY (hC g fs):=by
 have hm:=bP.1 hg
 refine⟨aMH hg fs,rfl,(aFi g fs).symm,hl,?_⟩
 have:phi (hC g fs)=nB (hC g fs):=aN3 fun b _=>by unfold xE;rw[aA9];simp
 rw[this]
 have:nB (hC g fs)=g.bl.toNat:=rfl
 show 2+g.sp≤_
 omega
theorem aJQ(g:eF)(fs:List nU):eH (hC g fs) (fun _=>none):=fun p hp d=>by
 refine⟨fun h=>(by cases h),fun⟨e,b,i,v,hb,_⟩=>?_⟩
 have:=hb.1
 rw[uE] at this;cases this
theorem aOf{g:eF}{fs:List nU}{fsA:AV}{bb:Nat}{bs:List vP}(hb:aHl g bs)(hl:bs.length=g.bl.toNat):aFY (iU g fsA fs bb bs) (hC g fs):=by
 refine⟨rfl,rfl,⟨rfl,rfl,rfl⟩,rfl,fun b B hB=>?_⟩
 have hB:bs[b]? =some B:=hB
 have hlt:=(List.getElem?_eq_some_iff.1 hB).1
 have hm:=List.mem_of_getElem? hB
 have e:=hb B hm
 refine⟨⟨[],0,0⟩,by simp only[hC,List.getElem?_replicate];rw[if_pos (by omega)],by rw[e];rfl,by rw[e];rfl,by rw[e];rfl,fun j v hv=>by simp at hv,fun j _ hj=>?_⟩
 rw[e]
 show List.take _ (List.drop _ (List.replicate _ _))=_
 rw[List.drop_replicate,List.take_replicate]
 congr 1
 have hj:j<g.pg.toNat:=hj
 have:(j+1)*aV g≤g.pg.toNat*aV g:=Nat.mul_le_mul_right _ hj
 rw[Nat.add_mul,Nat.one_mul] at this
 show min (aV g) (g.pg.toNat*aV g-j*aV g)=aV g
 omega
theorem aEQ{M N:aC}{g:eF}{fs:List nU}{p:Nat}{fsA:AV}{bb:Nat}{bs:List vP}(hg:dV g=true)(hl:(dD (hC g fs):Int)≤g.sp)(hk:aD M N [])(hc:bF N p (iU g fsA fs bb bs))(hb:aHl g bs)(hf:∀ c∈foot p (iU g fsA fs bb bs),M.next≤c):
 LC M g 0 0 N p (iU g fsA fs bb bs) (hC g fs) (fun _=>none):=
 ⟨hk.wf,hc,aOf hb hc.len,aHP hg hl,aJQ g fs,fun _ _=>rfl,rfl,Int.le_refl _,Int.le_refl _,hf,hk.nxt,fun c hc=>hk.old c hc (by simp)⟩
def dC(b s:Nat):Nat:=max ((s+b-1)/b) 1
def dI(l:List Nat):Nat:=l.foldl (·+ ·) 0
theorem aIi(l:List Nat):∀ a,l.foldl (·+ ·) a=a+dI l:=by
 induction l with
 | nil=>intro a;rfl
 | cons x l ih=>
   intro a
   unfold dI
   rw[List.foldl_cons,List.foldl_cons,ih,ih (0+x)]
   omega
theorem fC(x:Nat)(l:List Nat):dI (x::l)=x+dI l:=by
 unfold dI
 rw[List.foldl_cons,aIi]
 unfold dI
 omega
theorem aEC(l m:List Nat):dI (l++m)=dI l+dI m:=by
 induction l with
 | nil=>simp[dI]
 | cons x l ih=>rw[List.cons_append,fC,fC,ih];omega
def rY(b:Nat)(ss:List Nat):Nat:=dC (b-2) (2+dI (ss.map fun s=>4+2*dC b s))
def jC(b:Nat)(ss:List Nat):Nat:=rY b ss+dI (ss.map (dC b))
theorem aBc(b s:Nat):1≤dC b s:=by unfold dC;omega
theorem aAw{b s:Nat}(hb:0<b):s≤dC b s*b:=by
 have h:s≤(s+b-1)/b*b:=by
  have h1:=Nat.div_add_mod (s+b-1) b
  have h2:=Nat.mod_lt (s+b-1) hb
  rw[Nat.mul_comm] at h1
  omega
 exact Nat.le_trans h (Nat.mul_le_mul_right _ (by unfold dC;omega))
theorem aG0{b s k:Nat}(hb:0<b)(hk:1≤k)(h:s≤k*b):dC b s≤k:=by
 have:(s+b-1)/b≤k:=by
  have h1:(s+b-1)/b<k+1:=by
   rw[Nat.div_lt_iff_lt_mul hb,Nat.add_mul]
   omega
  omega
 unfold dC
 omega
abbrev Obj:=List (Nat×bZ)
def bN(n:Nat):BitVec 8:=BitVec.ofNat 8 n
def zS(o:Nat×bZ):bZ:=[bN (o.1/256),bN o.1,bN (o.2.length/65536),bN (o.2.length/256),bN o.2.length]++o.2
def nF(l:Obj):bZ:=l.flatMap zS
def xZ(l:Obj):bZ:=[bN (l.length/256),bN l.length]++nF l
def iL(l:Obj):List Nat:=l.map fun o=>o.2.length
theorem aDH(o:Nat×bZ):(zS o).length=5+o.2.length:=by simp[zS];omega
theorem aAx(l:Obj):(nF l).length=5*l.length+dI (iL l):=by
 induction l with
 | nil=>rfl
 | cons o l ih=>
   show (zS o++nF l).length=_
   rw[List.length_append,ih,aDH]
   show _=5*(l.length+1)+dI (o.2.length::iL l)
   rw[fC]
   omega
theorem aDa(l:Obj):(xZ l).length=2+5*l.length+dI (iL l):=by
 unfold xZ
 rw[List.length_append,aAx]
 simp
 omega
theorem aOh(b:Nat)(ss:List Nat):dI (ss.map fun s=>4+2*dC b s)=4*ss.length+2*dI (ss.map (dC b)):=by
 induction ss with
 | nil=>rfl
 | cons s ss ih=>
   rw[List.map_cons,List.map_cons,fC,fC,ih,List.length_cons]
   omega
theorem aCM{b:Nat}(hb:0<b)(ss:List Nat):dI ss≤dI (ss.map (dC b))*b∧ss.length≤dI (ss.map (dC b)):=by
 induction ss with
 | nil=>exact⟨by simp[dI],by simp⟩
 | cons s ss ih=>
   rw[List.map_cons,fC,fC,Nat.add_mul,List.length_cons]
   have:=aAw (s:=s) hb
   have:=aBc b s
   omega
theorem aBA{b:Nat}(hb:3≤b)(l:Obj):dC b (xZ l).length≤jC b (iL l):=by
 have h1:=aCM (b:=b) (by omega) (iL l)
 have hl:(iL l).length=l.length:=by simp[iL]
 have h2:2+dI ((iL l).map fun s=>4+2*dC b s)≤rY b (iL l)*(b-2):=aAw (by omega)
 have h3:1≤rY b (iL l):=aBc _ _
 rw[aOh] at h2
 refine aG0 (by omega) (by unfold jC;omega) ?_
 rw[aDa]
 unfold jC
 rw[Nat.add_mul]
 have h4:rY b (iL l)*(b-2)≤rY b (iL l)*b:=Nat.mul_le_mul_left _ (by omega)
 omega
def ctC(b:Nat)(d:bZ)(i:Nat):bZ:=(d.drop (i*b)).take b++List.replicate (b-(d.length-i*b)) 0
theorem zJ(b:Nat)(d:bZ)(i:Nat):(ctC b d i).length=b:=by
 unfold ctC
 rw[List.length_append,List.length_take,List.length_drop,List.length_replicate]
 omega
def aED(b:Nat)(d:bZ)(z:Int):Option bZ:=if 0≤z∧z<(dC b d.length:Nat) then some (ctC b d z.toNat) else none
theorem aKs(b:Nat)(d:bZ)(k:Nat):(List.range k).flatMap (ctC b d)=d.take (k*b)++List.replicate (k*b-d.length) 0:=by
 induction k with
 | zero=>simp
 | succ k ih=>
   rw[List.range_succ,List.flatMap_append,ih]
   show _++(ctC b d k++[])=_
   rw[List.append_nil]
   unfold ctC
   rw[Nat.add_mul,Nat.one_mul]
   by_cases h:k*b≤d.length
   ·have e0:k*b-d.length=0:=by omega
    rw[e0,List.replicate_zero,List.append_nil,← List.append_assoc,List.take_add]
    congr 2
    omega
   ·have e1:d.drop (k*b)=[]:=List.drop_eq_nil_of_le (by omega)
    rw[e1,List.take_nil,List.nil_append,List.take_of_length_le (by omega),List.take_of_length_le (by omega),List.append_assoc,List.replicate_append_replicate]
    congr 2
    omega
theorem aKU{b:Nat}(hb:0<b)(d:bZ):(List.range (dC b d.length)).flatMap (ctC b d)=d++List.replicate (dC b d.length*b-d.length) 0:=by
 rw[aKs,List.take_of_length_le (aAw hb)]
def nC(l:Obj):Prop:=l.Pairwise fun a b=>a.1<b.1
def pD(l:Obj)(z:Int):Option bZ:=(l.find? fun o=>decide ((o.1:Int)=z)).map (·.2)
def dO(l:Obj)(i:Nat)(d:bZ):Obj:=(l.filter fun o=>decide (o.1<i))++(i,d)::l.filter fun o=>decide (i<o.1)
def tK(l:Obj)(i:Nat):Obj:=l.filter fun o=>decide (o.1≠i)
theorem nC.uniq{l:Obj}(h:nC l){i:Nat}{d e:bZ}(h1:(i,d)∈l)(h2:(i,e)∈l):d=e:=by
 induction l with
 | nil=>simp at h1
 | cons o l ih=>
   unfold nC at h
   rw[List.pairwise_cons] at h
   rcases List.mem_cons.1 h1 with e1|h1 <;> rcases List.mem_cons.1 h2 with e2|h2
   ·rw[← e1] at e2;injection e2 with _ e2;exact e2.symm
   ·have:=h.1 _ h2;rw[← e1] at this;omega
   ·have:=h.1 _ h1;rw[← e2] at this;omega
   ·exact ih h.2 h1 h2
theorem fI{l:Obj}(h:nC l){z:Int}{d:bZ}:pD l z=some d↔∃ i:Nat,z=i∧(i,d)∈l:=by
 unfold pD
 constructor
 ·intro h1
  obtain⟨o,ho,rfl⟩:=Option.map_eq_some_iff.1 h1
  have h2:=List.find?_some ho
  exact⟨o.1,(of_decide_eq_true h2).symm,List.mem_of_find?_eq_some ho⟩
 ·rintro⟨i,rfl,hm⟩
  cases hf:l.find? fun o=>decide ((o.1:Int)=i) with
  | none=>
    have:=List.find?_eq_none.1 hf _ hm
    simp at this
  | some o=>
    have h2:decide ((o.1:Int)=i)=true:=List.find?_some (p:=fun o:Nat×bZ=>decide ((o.1:Int)=i)) hf
    have h2:=of_decide_eq_true h2
    have h3:=List.mem_of_find?_eq_some hf
    have e:o.1=i:=by omega
    rw[Option.map_some]
    obtain⟨o1,o2⟩:=o
    subst e
    rw[h.uniq h3 hm]
theorem aHn{l:Obj}(h:nC l){f:Int→Option bZ}(h1:∀ i d,(i,d)∈l→f (i:Nat)=some d)(h2:∀ z d,f z=some d→∃ i:Nat,z=i∧(i,d)∈l):pD l=f:=by
 funext z
 cases hf:f z with
 | some d=>exact (fI h).2 (h2 z d hf)
 | none=>
   cases hl:pD l z with
   | none=>rfl
   | some d=>
     obtain⟨i,rfl,hm⟩:=(fI h).1 hl
     rw[h1 i d hm] at hf;cases hf
theorem oE{l:Obj}{i:Nat}{d:bZ}(o:Nat×bZ):o∈dO l i d↔o=(i,d)∨(o∈l∧o.1≠i):=by
 unfold dO
 rw[List.mem_append,List.mem_cons,List.mem_filter,List.mem_filter,decide_eq_true_eq,decide_eq_true_eq]
 constructor
 ·rintro (⟨h1,h2⟩|h|⟨h1,h2⟩)
  ·exact .inr ⟨h1,by omega⟩
  ·exact .inl h
  ·exact .inr ⟨h1,by omega⟩
 ·rintro (h|⟨h1,h2⟩)
  ·exact .inr (.inl h)
  ·by_cases h3:o.1<i
   ·exact .inl ⟨h1,h3⟩
   ·exact .inr (.inr ⟨h1,by omega⟩)
theorem aAR{l:Obj}(h:nC l)(i:Nat)(d:bZ):nC (dO l i d):=by
 unfold nC dO
 rw[List.pairwise_append,List.pairwise_cons]
 refine⟨h.filter _,⟨fun o ho=>of_decide_eq_true (List.mem_filter.1 ho).2,h.filter _⟩,fun a ha b hb=>?_⟩
 have h1:a.1<i:=of_decide_eq_true (List.mem_filter.1 ha).2
 rcases List.mem_cons.1 hb with rfl|hb
 ·exact h1
 ·have h2:i<b.1:=of_decide_eq_true (List.mem_filter.1 hb).2
  omega
theorem aAq{l:Obj}(h:nC l)(i:Nat):nC (tK l i):=List.Pairwise.filter _ h
theorem zR{l:Obj}(h:nC l)(i:Nat)(d:bZ):pD (dO l i d)=fun z=>if z=(i:Int) then some d else pD l z:=by
 refine aHn (aAR h i d) (fun j e hj=>?_) (fun z e hz=>?_)
 ·rcases (oE _).1 hj with h1|⟨h1,h2⟩
  ·injection h1 with h1 h2;subst h1 h2;simp
  ·have h2:j≠i:=h2
   show (if (j:Int)=(i:Int) then _ else _)=_
   rw[if_neg (by omega)]
   exact (fI h).2 ⟨j,rfl,h1⟩
 ·have hz:(if z=(i:Int) then some d else pD l z)=some e:=hz
  by_cases h1:z=(i:Int)
  ·rw[if_pos h1] at hz
   injection hz with hz
   exact⟨i,h1,(oE _).2 (.inl (by rw[hz]))⟩
  ·rw[if_neg h1] at hz
   obtain⟨j,rfl,hj⟩:=(fI h).1 hz
   exact⟨j,rfl,(oE _).2 (.inr ⟨hj,fun e=>h1 (by simp only at e;omega)⟩)⟩
theorem aMp{l:Obj}(h:nC l)(i:Nat):pD (tK l i)=fun z=>if z=(i:Int) then none else pD l z:=by
 refine aHn (aAq h i) (fun j e hj=>?_) (fun z e hz=>?_)
 ·obtain⟨h1,h2⟩:=List.mem_filter.1 hj
  have h2:j≠i:=of_decide_eq_true h2
  show (if (j:Int)=(i:Int) then _ else _)=_
  rw[if_neg (by omega)]
  exact (fI h).2 ⟨j,rfl,h1⟩
 ·have hz:(if z=(i:Int) then none else pD l z)=some e:=hz
  by_cases h1:z=(i:Int)
  ·rw[if_pos h1] at hz;cases hz
  ·rw[if_neg h1] at hz
   obtain⟨j,rfl,hj⟩:=(fI h).1 hz
   exact⟨j,rfl,List.mem_filter.2 ⟨hj,decide_eq_true fun e=>h1 (by simp only at e;omega)⟩⟩
theorem aAm{l:Obj}{i:Nat}(h:∀ o∈l,o.1<i)(d:bZ):dO l i d=l++[(i,d)]:=by
 unfold dO
 rw[List.filter_eq_self.2 fun o ho=>decide_eq_true (h o ho),List.filter_eq_nil_iff.2 fun o ho=>by have:=h o ho;simp;omega]
theorem aDk{P:Int→Option (Option bZ)}{B:Int→Option bZ}{a:Int}{x:Option bZ}(z:Int):jO (lW P a x) B z=if z=a then x else jO P B z:=by
 unfold jO lW
 by_cases h:z=a
 ·rw[if_pos h,if_pos h]
 ·rw[if_neg h,if_neg h]
theorem aKw{M:aC}(a:Int):dJ (M.new (.cells [.val (.int .i64 a)] true)) (.sl M.next 0 1 1 none) [a]:=
 ⟨rfl,.inr ⟨_,_,_,_,rfl,⟨Nat.le_refl _,.inl rfl⟩,.inr ⟨_,_,get_new _ _,Nat.le_refl _,rfl⟩⟩⟩
theorem dJ.keep{M N:aC}{x:AV}{l:List Int}(h:dJ M x l)(hw:M.WF)(hk:aD M N []):dJ N x l:=aO.keep0 h hw hk
theorem aI.keep0{M N:aC}{x:AV}{l:List (BitVec 8)}(h:aI M x l)(hw:M.WF)(hk:aD M N []):aI N x l:=aO.keep0 h hw hk
def awG:eF:=⟨8,4,32,0,2⟩
theorem aBb:dV awG=true:=by decide
theorem aJq{f:Int→Option bZ}{n:Nat}{z:Int}:z∈pgN f n↔(0≤z∧z<n)∧(f z).isSome=true:=by
 unfold pgN
 rw[List.mem_filter,List.mem_map]
 refine⟨fun⟨⟨i,hi,e⟩,h⟩=>⟨by rw[List.mem_range] at hi;omega,h⟩,fun⟨h1,h2⟩=>⟨⟨z.toNat,by rw[List.mem_range];omega,by omega⟩,h2⟩⟩
theorem aRy(f:Int→Option bZ)(n:Nat):(pgN f n).Nodup:=by
 unfold pgN
 exact List.Pairwise.filter _ (List.Pairwise.map _ (fun a b h e=>h (by omega)) List.nodup_range)
theorem aQ3(M:aC)(x z:Int)(h0:0<z)(h1:z<4611686018427387904):aB tb.P 12 [i64 x,i64 z] M fun y N=>y=i64 (yA x z.toNat:Int)∧N=M:=by
 have e:((z.toNat:Nat):Int)=z:=by omega
 have:=aSu M x z.toNat (by omega) (by omega)
 rwa [e] at this
section
variable {M0:aC} {g:eF} {k n:Int} {A:bL} {M:aC} {S:Ps} {P:Int→Option (Option bZ)} {B:Int→Option bZ}
theorem LF.box(h:LF M0 g k n A M S P B){q:Nat}(hq:M0.get q=some (.cells (cW g) true))(hlt:q<M0.next):aY tb 3 (.ptr q 2) M=some (i64 g.by')∧aY tb 23 (.ptr q 0) M=some (fX g):=by
 have:=cC (M:=M) (b:=q) (g:=g) (rw':=true) (by rw[h.low _ hlt];exact hq)
 exact⟨this.2.2.1,this.2.2.2.2.2⟩
end
theorem xU(M:aC)(hw:M.WF)(g:eF)(hg:dV g=true):aB tb.P 11 [fX g] M fun y N=>y=i64 (eL g)∧aD M N []:=by
 have hm:=bP.1 hg
 refine aQ9 ?_
 unfold F11
 refine⟨_,_,_,_,_,rfl,?_⟩
 refine bE fun M6 hM6=>?_
 have hM6:M6=M.new (.cells (cW g) true):=hM6
 have hk6:aD M M6 []:=by rw[hM6];exact aD.new hw _
 have hbox:M6.get M.next=some (.cells (cW g) true):=by rw[hM6];exact get_new _ _
 obtain⟨_,_,_,_,_,l5⟩:=cC hbox
 refine aG (aS l5) ?_
 refine⟨_,_,_,_,_,rfl,?_⟩
 refine (yW M6 hk6.wf g).mono ?_
 rintro y N ⟨rfl,hk⟩
 simp only[cO,hg,Bool.not_true,fG]
 have hbox':=hk.get hk6.wf hbox (by simp)
 obtain⟨_,_,_,_,_,l5⟩:=cC hbox'
 refine aG (aS l5) ?_
 refine⟨_,_,_,_,_,rfl,?_⟩
 have hkN:=hk6.trans0 hk
 clear hM6
 refine aIS ?_
 unfold F34
 refine⟨_,_,_,_,_,rfl,?_⟩
 simp only[cY]
 have hg5:=get_new N (.cells (cW g) true)
 obtain⟨q0,q1,q2,q3,q4,_⟩:=cC hg5
 have hK:=aD.new hk.wf (.cells (cW g) true)
 refine aG (aS q0) ?_
 simp only[i64,aJ]
 refine aG (aS q3) ?_
 simp only[i64,aJ]
 refine aG (aS q1) ?_
 simp only[i64,aJ]
 refine aG (nQ _ _ _) ?_
 simp only[aJ]
 obtain⟨e,hb1,hb2⟩:=aCq ⟨hm.1.1,hm.1.2⟩ ⟨hm.2.1.1,hm.2.1.2⟩ ⟨hm.2.2.2.1.1,hm.2.2.2.1.2⟩
 refine⟨?_,hkN.trans0 hK⟩
 unfold eL
 rw[e,show max ((g.bl-g.sp-3)*g.pg-4) 0=(g.bl-g.sp-3)*g.pg-4 by omega]
theorem nK.growA{M:aC}{x:AV}{l:List AV}{b:Nat}{v:AV}(hw:M.WF)(h:nK M x l)(hb:M.get b=some (.cells [v] true))(hv:v.one=true)(hl:l.length≤10000):
 ∃ x' N,aR tb 48 48 x (.sl b 0 1 1 none) M=some (x',N)∧nK N x' (l++[v])∧N.WF∧M.next≤N.next∧(∀ c,c<M.next→¬ aN x c→N.get c=M.get c)∧∀ c,aN x' c→M.next≤c:=by
 have hsl:aO 1 M (.sl b 0 1 1 none) 1 [v]:=⟨rfl,.inr ⟨_,_,_,_,rfl,⟨Nat.le_refl _,.inl rfl⟩,.inr ⟨_,_,hb,by simp,by simp⟩⟩⟩
 rcases h with⟨rfl,rfl⟩|⟨b',hg⟩
 ·obtain⟨N,h1,rfl⟩:=append_nil (T:=tb) (k:=1) uY rfl dX rfl hsl (by omega) ⟨by simp only;omega,by omega⟩
  refine⟨_,_,h1,.inr ⟨M.next,rfl,by simp,by simp,get_new _ _⟩,hw.new _,Nat.le_succ _,fun c hc _=>by rw[aC.get_new,if_neg (by omega)],fun c hc=>by rw[← hc.2];exact Nat.le_refl _⟩
 ·have hbM:=hw _ _ hg.2.2.2
  obtain⟨N,h1,rfl⟩:=iC (T:=tb) (k:=1) uY rfl dX rfl hg hsl (by omega) (fun u hu=>by rw[List.mem_singleton.1 hu];exact hv) ⟨by simp only;omega,by omega⟩
  refine⟨_,_,h1,.inr ⟨M.next,by simp,by simp,by simp,?_⟩,(hw.kill _).new _,Nat.le_succ _,fun c hc hn=>?_,fun c hc=>by rw[← hc.2];exact Nat.le_refl _⟩
  ·rw[aC.get_new,if_pos (by rfl)]
  ·have hcb:c≠b':=fun he=>hn (by rw[he,hg.1];exact⟨by have:=hg.2.1;omega,rfl⟩)
   rw[aC.get_new,if_neg (by show c≠M.next;omega),aC.get_kill,if_neg hcb]
section
variable {M0:aC} {g:eF} {k n:Int} {A:bL} {M:aC} {S:Ps} {P:Int→Option (Option bZ)} {B:Int→Option bZ}
end
theorem aEU{M:aC}(hw:M.WF)(g:eF):aD M (M.new (.cells (cW g) true)) []∧∀ N,aD (M.new (.cells (cW g) true)) N []→aY tb 3 (.ptr M.next 2) N=some (i64 g.by')∧aY tb 23 (.ptr M.next 0) N=some (fX g):=by
 have hk:aD M (M.new (.cells (cW g) true)) []:=aD.new hw _
 refine⟨hk,fun N h=>?_⟩
 obtain⟨_,_,l2,_,_,l5⟩:=cC (h.get hk.wf (get_new M (.cells (cW g) true)) (by simp))
 exact⟨l2,l5⟩
theorem kK{g:eF}(hg:dV g=true):g.by'=((g.by'.toNat:Nat):Int)∧24≤g.by'.toNat∧g.by'.toNat≤64:=by
 have:=bP.1 hg
 omega
theorem aJZ{b s:Nat}(hb:0<b)(hb':b≤1000)(hs:s≤4000000000):aW .i64 (aM .i64 (s:Int) b) 1=((s+b-1:Nat):Int):=by
 rw[aM,aL (by omega) (by omega),aW,aL (by omega) (by omega)]
 omega
theorem aGW(M:aC)(b s:Nat)(hb:0<b)(hb':b≤1000)(hs:s≤4000000000):aB tb.P 103 [i64 (b:Int),i64 (s:Int)] M fun y N=>y=i64 (dC b s:Nat)∧N=M:=by
 refine aLP ?_
 unfold F103
 simp only[i64,aJ]
 rw[aJZ hb hb' hs]
 refine aG (aA3 (by omega) (by omega)) ?_
 simp only[aJ]
 refine aG (nQ _ _ _) ?_
 simp only[aJ]
 refine⟨?_,(by first|trivial|rfl)⟩
 unfold dC
 congr 3
 omega
theorem aHi(M:aC)(b s:Nat)(hb:0<b)(hb':b≤1000)(hs:s≤4000000000):aB tb.P 81 [i64 (s:Int),i64 (b:Int)] M fun y N=>y=i64 (dC b s:Nat)∧N=M:=by
 refine aPa ?_
 unfold F81
 simp only[i64,aJ]
 rw[aJZ hb hb' hs]
 refine aG (aA3 (by omega) (by omega)) ?_
 simp only[aJ]
 refine aG (nQ _ _ _) ?_
 simp only[aJ]
 refine⟨?_,(by first|trivial|rfl)⟩
 unfold dC
 congr 3
 omega
theorem aG4(M:aC)(s:Nat)(hs:s≤1048576):aB tb.P 80 [i64 (s:Int)] M fun y N=>y= .val (.bool true)∧N=M:=by
 refine aRe ?_
 unfold F80
 simp only[i64,aJ]
 refine bE fun K hK=>?_
 refine aT (fun _=>?_) fun h=>absurd (of_decide_eq_false h) (by omega)
 rw[decide_eq_true (by omega),hK]
 exact⟨rfl,(by first|trivial|rfl)⟩
theorem aCv(M:aC)(hw:M.WF)(g:eF)(hg:dV g=true)(s:Nat)(hs:s≤1048576):aB tb.P 71 [fX g,i64 (s:Int)] M fun y N=>y=i64 (dC g.by'.toNat s:Nat)∧aD M N []:=by
 obtain⟨hb,hb1,hb2⟩:=kK hg
 refine aPZ ?_
 unfold F71
 refine⟨_,_,_,_,_,rfl,?_⟩
 simp only[i64,aJ]
 refine bE fun M7 hM7=>?_
 have hM7:M7=M.new (.cells (cW g) true):=hM7
 subst hM7
 obtain⟨k7,ld⟩:=aEU hw g
 refine bE fun K hK=>?_
 refine aG (aS (ld _ (aD.refl k7.wf)).2) ?_
 refine⟨_,_,_,_,_,rfl,?_⟩
 refine (jP _ k7.wf g).mono ?_
 rintro _ N ⟨rfl,k⟩
 simp only[cO,hg,Bool.not_true,fG]
 refine aT (fun h=>absurd (of_decide_eq_true h) (by omega)) fun _=>?_
 rw[decide_eq_false (by omega),hK]
 dsimp only
 simp only[fG]
 refine aG (aS (ld _ k).1) ?_
 simp only[i64,aJ]
 rw[hb]
 refine (aGW N g.by'.toNat s (by omega) (by omega) (by omega)).mono ?_
 rintro _ _ ⟨rfl,rfl⟩
 simp only[i64,aJ]
 exact⟨rfl,k7.trans0 k⟩
theorem aGU(M:aC)(hw:M.WF)(g:eF)(hg:dV g=true)(s:Nat)(hs:s≤1048576):aB tb.P 54 [fX g,i64 (s:Int)] M fun y N=>y=i64 (dC g.by'.toNat s:Nat)∧aD M N []:=by
 obtain⟨hb,hb1,hb2⟩:=kK hg
 refine aQK ?_
 unfold F54
 refine⟨_,_,_,_,_,rfl,?_⟩
 simp only[i64,aJ]
 refine bE fun M7 hM7=>?_
 have hM7:M7=M.new (.cells (cW g) true):=hM7
 subst hM7
 obtain⟨k7,ld⟩:=aEU hw g
 refine bE fun K hK=>?_
 refine aG (aS (ld _ (aD.refl k7.wf)).2) ?_
 refine⟨_,_,_,_,_,rfl,?_⟩
 refine (yW _ k7.wf g).mono ?_
 rintro _ N ⟨rfl,k⟩
 simp only[cO,hg,Bool.not_true,fG]
 refine (aG4 N s hs).mono ?_
 rintro _ _ ⟨rfl,rfl⟩
 simp only[cO,Bool.not_true]
 rw[hK]
 dsimp only
 simp only[fG]
 refine aG (aS (ld _ k).1) ?_
 simp only[i64,aJ]
 rw[hb]
 refine (aHi _ g.by'.toNat s (by omega) (by omega) (by omega)).mono ?_
 rintro _ _ ⟨rfl,rfl⟩
 simp only[i64,aJ]
 exact⟨rfl,k7.trans0 k⟩
def jN(M:aC)(x:AV)(ss:List Nat):Prop:=dJ M x (ss.map fun s:Nat=>(s:Int))
def yU(ss:List Nat):Prop:=ss.length≤1000∧∀ s∈ss,s≤1048576
section
variable {M N:aC} {x:AV} {ss:List Nat}
theorem jN.keep(h:jN M x ss)(hw:M.WF)(hk:aD M N []):jN N x ss:=dJ.keep h hw hk
theorem jN.len(h:jN M x ss):bD tb false 48 x N=some ss.length:=by
 have:=dJ.len (M':=N) h
 rwa [List.length_map] at this
theorem jN.at(h:jN M x ss){i:Nat}(hi:i<ss.length):∃ b o,bJ tb 48 x (.val (.int .i64 (i:Int)))=some (.ptr b o)∧aY tb 3 (.ptr b o) M=some (i64 (ss[i]:Nat)):=by
 obtain⟨b,o,h1,h2⟩:=dJ.at h (i:=i) (by rw[List.length_map];exact hi)
 refine⟨b,o,h1,?_⟩
 rw[h2,List.getElem_map]
end
theorem oT{b s:Nat}(hb:1≤b):dC b s≤s+1:=by
 refine aG0 (by omega) (by omega) ?_
 have:s*1≤s*b:=Nat.mul_le_mul_left _ hb
 rw[Nat.add_mul]
 omega
theorem uC{f:Nat→Nat}{ss:List Nat}{i:Nat}(hi:i<ss.length):dI ((ss.take (i+1)).map f)=dI ((ss.take i).map f)+f ss[i]:=by
 rw[List.take_succ_eq_append_getElem hi,List.map_append,aEC,List.map_cons,List.map_nil,fC]
 rfl
theorem aGN{f:Nat→Nat}{k:Nat}{ss:List Nat}(h:∀ s∈ss,f s≤k):dI (ss.map f)≤ss.length*k:=by
 induction ss with
 | nil=>simp[dI]
 | cons s ss ih=>
   rw[List.map_cons,fC,List.length_cons,Nat.add_mul]
   have:=h s (by simp)
   have:=ih fun s hs=>h s (by simp[hs])
   omega
theorem mJ{b:Nat}(hb:1≤b){ss:List Nat}(h:yU ss)(i:Nat):dI ((ss.take i).map fun s=>4+2*dC b s)≤2100000000∧dI ((ss.take i).map (dC b))≤2100000000:=by
 have hl:(ss.take i).length≤1000:=by rw[List.length_take];have:=h.1;omega
 have hs:∀ s∈ss.take i,dC b s≤1048577:=fun s hs=>by
  have:=h.2 s (List.mem_of_mem_take hs)
  have:=oT (s:=s) hb
  omega
 have h1:=aGN (f:=fun s=>4+2*dC b s) (k:=2097158) (ss:=ss.take i) fun s h=>by have:=hs s h;omega
 have h2:=aGN (f:=dC b) (k:=1048577) (ss:=ss.take i) hs
 have h3:(ss.take i).length*2097158≤1000*2097158:=Nat.mul_le_mul_right _ hl
 have h4:(ss.take i).length*1048577≤1000*1048577:=Nat.mul_le_mul_right _ hl
 omega
theorem aF2(M:aC)(a:AV)(ss:List Nat)(ha:jN M a ss)(hs:yU ss):aB tb.P 101 [a,.fn 102 [] []] M fun y N=>y= .val (.bool false)∧N=M:=by
 refine aOc ?_
 unfold F101
 have hix:aB tb.P 128 [a,.fn 102 [] []] M fun y N=>y=i64 (-1)∧N=M:=by
  refine aNg ?_
  unfold F128
  refine aG (iO (ha.len (N:=M))) ?_
  simp only[aJ]
  refine⟨fun z q P=>∃ i:Nat,z=i∧q=ss.length-i∧i≤ss.length∧P=M,⟨ss.length,0,rfl,rfl,Nat.zero_le _,rfl⟩,?_⟩
  rintro _ z q P ⟨i,rfl,rfl,hi,rfl⟩
  refine aT (fun hlt=>?_) (fun _=>⟨rfl,rfl⟩)
  have hlt:i<ss.length:=Int.ofNat_lt.1 (of_decide_eq_true hlt)
  obtain⟨b,o,h1,h2⟩:=ha.at hlt
  refine aG (bH h1) ?_
  simp only[bV]
  refine aG (aS h2) ?_
  simp only[i64,aJ]
  refine zN aSi ?_
  have hsi:=hs.2 _ (List.getElem_mem hlt)
  have hc:aB tb.P 102 [i64 (ss[i]:Nat)] P fun y N=>y= .val (.bool false)∧N=P:=by
   refine aMK ?_
   unfold F102
   simp only[i64,aJ]
   refine bE fun K hK=>?_
   refine aT (fun h=>absurd (of_decide_eq_true h) (by omega)) fun _=>?_
   rw[decide_eq_false (by omega),hK]
   exact⟨rfl,(by first|trivial|rfl)⟩
  refine hc.mono ?_
  rintro _ _ ⟨rfl,rfl⟩
  simp only[cO,fG]
  exact⟨ss.length-(i+1),by omega,i+1,dE (by have:=hs.1;omega),rfl,hlt,(by first|trivial|rfl)⟩
 refine hix.mono ?_
 rintro _ _ ⟨rfl,rfl⟩
 simp only[i64,aJ]
 exact⟨rfl,(by first|trivial|rfl)⟩
theorem aMt(M:aC)(hw:M.WF)(g:eF)(hg:dV g=true)(a:AV)(ss:List Nat)(ha:jN M a ss)(hs:yU ss):aB tb.P 70 [fX g,a] M fun y N=>y=i64 (rY g.by'.toNat ss:Nat)∧aD M N []:=by
 obtain⟨hb,hb1,hb2⟩:=kK hg
 refine aQp ?_
 unfold F70
 refine⟨_,_,_,_,_,rfl,?_⟩
 refine bE fun M7 hM7=>?_
 have hM7:M7=M.new (.cells (cW g) true):=hM7
 subst hM7
 obtain⟨k7,ld⟩:=aEU hw g
 refine bE fun K hK=>?_
 refine aG (aS (ld _ (aD.refl k7.wf)).2) ?_
 refine⟨_,_,_,_,_,rfl,?_⟩
 refine (jP _ k7.wf g).mono ?_
 rintro _ N ⟨rfl,k⟩
 simp only[cO,hg,Bool.not_true,fG]
 have haN:=ha.keep hw (k7.trans0 k)
 refine (aF2 N a ss haN hs).mono ?_
 rintro _ N ⟨rfl,rfl⟩
 simp only[cO]
 rw[hK]
 dsimp only
 simp only[fG]
 refine aG (iO (haN.len (N:=N))) ?_
 simp only[aJ]
 refine⟨fun z i q P=>∃ j:Nat,z=((2+dI ((ss.take j).map fun s=>4+2*dC g.by'.toNat s):Nat):Int)∧i=j∧q=ss.length-j∧j≤ss.length∧aD (M.new (.cells (cW g) true)) P [],⟨ss.length,0,by simp[dI],rfl,rfl,Nat.zero_le _,k⟩,?_⟩
 rintro _ _ _ _ P ⟨j,rfl,rfl,rfl,hj,kP⟩
 refine aT (fun hlt=>?_) (fun hge=>?_)
 ·have hlt:j<ss.length:=Int.ofNat_lt.1 (of_decide_eq_true hlt)
  have haP:=ha.keep hw (k7.trans0 kP)
  obtain⟨b,o,h1,h2⟩:=haP.at hlt
  refine aG (bH h1) ?_
  simp only[bV]
  refine aG (aS h2) ?_
  simp only[i64,aJ]
  refine aG (aS (ld _ kP).2) ?_
  refine⟨_,_,_,_,_,rfl,?_⟩
  have hsi:=hs.2 _ (List.getElem_mem hlt)
  refine (aCv P kP.wf g hg ss[j] hsi).mono ?_
  rintro _ P2 ⟨rfl,k2⟩
  simp only[i64,aJ]
  have hp:=oT (b:=g.by'.toNat) (s:=ss[j]) (by omega)
  have hq:=mJ (b:=g.by'.toNat) (by omega) hs j
  refine⟨ss.length-(j+1),by omega,j+1,?_,dE (by have:=hs.1;omega),rfl,hlt,kP.trans0 k2⟩
  rw[uC hlt]
  generalize dI ((ss.take j).map fun s=>4+2*dC g.by'.toNat s)=X at hq
  generalize dC g.by'.toNat ss[j]=p at hp
  rw[bT,aL (by omega) (by omega),aM,aM,aL (n:=4+2*(p:Int)) (by omega) (by omega),aL (by omega) (by omega)]
  omega
 ·have hj:j=ss.length:=by
   have:¬ (j:Int)<(ss.length:Int):=of_decide_eq_false hge
   omega
  subst hj
  rw[List.take_length]
  refine aG (aS (ld _ kP).1) ?_
  simp only[i64,aJ]
  have e:aW .i64 g.by' 2=((g.by'.toNat-2:Nat):Int):=by rw[aW,aL (by omega) (by omega)];omega
  rw[e]
  have hq:=(mJ (b:=g.by'.toNat) (by omega) hs ss.length).1
  rw[List.take_length] at hq
  refine (aGW P (g.by'.toNat-2) _ (by omega) (by omega) (by omega)).mono ?_
  rintro _ _ ⟨rfl,rfl⟩
  simp only[i64,aJ]
  exact⟨rfl,k7.trans0 kP⟩
theorem aLS(b:Nat)(ss:List Nat):1≤rY b ss:=aBc _ _
theorem aHg{b:Nat}(hb:3≤b){ss:List Nat}(h:yU ss):rY b ss≤2200000000:=by
 have h1:=(mJ (b:=b) (by omega) h ss.length).1
 rw[List.take_length] at h1
 have h2:=oT (b:=b-2) (s:=2+dI (ss.map fun s=>4+2*dC b s)) (by omega)
 unfold rY
 omega
theorem aI3(M:aC)(hw:M.WF)(g:eF)(hg:dV g=true)(a:AV)(ss:List Nat)(ha:jN M a ss)(hs:yU ss):aB tb.P 37 [fX g,a] M fun y N=>y=i64 (jC g.by'.toNat ss:Nat)∧aD M N []:=by
 obtain⟨hb,hb1,hb2⟩:=kK hg
 refine aQU ?_
 unfold F37
 refine⟨_,_,_,_,_,rfl,?_⟩
 refine bE fun M7 hM7=>?_
 have hM7:M7=M.new (.cells (cW g) true):=hM7
 subst hM7
 obtain⟨k7,ld⟩:=aEU hw g
 refine aG (aS (ld _ (aD.refl k7.wf)).2) ?_
 refine⟨_,_,_,_,_,rfl,?_⟩
 refine (aMt _ k7.wf g hg a ss (ha.keep hw k7) hs).mono ?_
 rintro _ N ⟨rfl,k⟩
 simp only[i64,aJ]
 have hi1:=aLS g.by'.toNat ss
 have hi2:=aHg (b:=g.by'.toNat) (by omega) hs
 refine aT (fun h=>absurd h (by simp;omega)) fun _=>?_
 have haN:=ha.keep hw (k7.trans0 k)
 refine aG (iO (haN.len (N:=N))) ?_
 simp only[aJ]
 refine⟨fun z i q P=>∃ j:Nat,z=((rY g.by'.toNat ss+dI ((ss.take j).map (dC g.by'.toNat)):Nat):Int)∧i=j∧q=ss.length-j∧j≤ss.length∧aD (M.new (.cells (cW g) true)) P [],⟨ss.length,0,by simp[dI],rfl,rfl,Nat.zero_le _,k⟩,?_⟩
 rintro _ _ _ _ P ⟨j,rfl,rfl,rfl,hj,kP⟩
 refine aT (fun hlt=>?_) (fun hge=>?_)
 ·have hlt:j<ss.length:=Int.ofNat_lt.1 (of_decide_eq_true hlt)
  have haP:=ha.keep hw (k7.trans0 kP)
  obtain⟨b,o,h1,h2⟩:=haP.at hlt
  refine aG (bH h1) ?_
  simp only[bV]
  refine aG (aS h2) ?_
  simp only[i64,aJ]
  refine aG (aS (ld _ kP).2) ?_
  refine⟨_,_,_,_,_,rfl,?_⟩
  have hsi:=hs.2 _ (List.getElem_mem hlt)
  refine (aCv P kP.wf g hg ss[j] hsi).mono ?_
  rintro _ P2 ⟨rfl,k2⟩
  simp only[i64,aJ]
  have hp:=oT (b:=g.by'.toNat) (s:=ss[j]) (by omega)
  have hq:=mJ (b:=g.by'.toNat) (by omega) hs j
  refine⟨ss.length-(j+1),by omega,j+1,?_,dE (by have:=hs.1;omega),rfl,hlt,kP.trans0 k2⟩
  rw[uC hlt,aM,aL (by omega) (by omega)]
  omega
 ·have hj:j=ss.length:=by
   have:¬ (j:Int)<(ss.length:Int):=of_decide_eq_false hge
   omega
  subst hj
  rw[List.take_length]
  exact⟨rfl,k7.trans0 kP⟩
theorem aOL(M:aC)(hw:M.WF)(g:eF)(hg:dV g=true)(a:AV)(ss:List Nat)(ha:jN M a ss)(hs:yU ss):aB tb.P 52 [fX g,a] M fun y N=>y= .val (.bool true)∧aD M N []:=by
 refine aO2 ?_
 unfold F52
 refine⟨_,_,_,_,_,rfl,?_⟩
 refine bE fun M7 hM7=>?_
 have hM7:M7=M.new (.cells (cW g) true):=hM7
 subst hM7
 obtain⟨k7,ld⟩:=aEU hw g
 have ha7:=ha.keep hw k7
 refine⟨fun z q P=>∃ i:Nat,z=i∧q=ss.length-i∧i≤ss.length∧P=M.new (.cells (cW g) true),⟨ss.length,0,rfl,rfl,Nat.zero_le _,rfl⟩,?_⟩
 rintro _ z q P ⟨i,rfl,rfl,hi,rfl⟩
 refine aG (iO (ha7.len (N:=_))) ?_
 simp only[aJ]
 refine aT (fun hlt=>?_) (fun _=>?_)
 ·have hlt:i<ss.length:=Int.ofNat_lt.1 (of_decide_eq_true hlt)
  obtain⟨b,o,h1,h2⟩:=ha7.at hlt
  refine aG (bH h1) ?_
  simp only[bV]
  refine aG (aS h2) ?_
  simp only[i64,aJ]
  refine (aG4 _ ss[i] (hs.2 _ (List.getElem_mem hlt))).mono ?_
  rintro _ _ ⟨rfl,rfl⟩
  simp only[cO,Bool.not_true,fG]
  exact⟨ss.length-(i+1),by omega,i+1,dE (by have:=hs.1;omega),rfl,hlt,(by first|trivial|rfl)⟩
 ·refine aG (aS (ld _ (aD.refl k7.wf)).2) ?_
  refine⟨_,_,_,_,_,rfl,?_⟩
  refine (yW _ k7.wf g).mono ?_
  rintro _ N ⟨rfl,k⟩
  simp only[cO,hg]
  exact⟨(by first|trivial|rfl),k7.trans0 k⟩
theorem aM5(M:aC)(hw:M.WF)(g:eF)(hg:dV g=true)(a:AV)(ss:List Nat)(ha:jN M a ss)(hs:yU ss):aB tb.P 53 [fX g,a] M fun y N=>y=i64 (rY g.by'.toNat ss:Nat)∧aD M N []:=by
 obtain⟨hb,hb1,hb2⟩:=kK hg
 refine aPT ?_
 unfold F53
 refine⟨_,_,_,_,_,rfl,?_⟩
 refine bE fun M7 hM7=>?_
 have hM7:M7=M.new (.cells (cW g) true):=hM7
 subst hM7
 obtain⟨k7,ld⟩:=aEU hw g
 refine aG (aS (ld _ (aD.refl k7.wf)).2) ?_
 refine⟨_,_,_,_,_,rfl,?_⟩
 refine (aOL _ k7.wf g hg a ss (ha.keep hw k7) hs).mono ?_
 rintro _ N ⟨rfl,k⟩
 simp only[cO,Bool.not_true,fG]
 refine⟨fun z i q P=>∃ j:Nat,z=((2+dI ((ss.take j).map fun s=>4+2*dC g.by'.toNat s):Nat):Int)∧i=j∧q=ss.length-j∧j≤ss.length∧aD (M.new (.cells (cW g) true)) P [],⟨ss.length,0,by simp[dI],rfl,rfl,Nat.zero_le _,k⟩,?_⟩
 rintro _ _ _ _ P ⟨j,rfl,rfl,rfl,hj,kP⟩
 have haP:=ha.keep hw (k7.trans0 kP)
 refine aG (iO (haP.len (N:=P))) ?_
 simp only[aJ]
 refine aT (fun hlt=>?_) (fun hge=>?_)
 ·have hlt:j<ss.length:=Int.ofNat_lt.1 (of_decide_eq_true hlt)
  obtain⟨b,o,h1,h2⟩:=haP.at hlt
  refine aG (bH h1) ?_
  simp only[bV]
  refine aG (aS (ld _ kP).2) ?_
  refine⟨_,_,_,_,_,rfl,?_⟩
  refine aG (aS h2) ?_
  simp only[i64,aJ]
  have hsi:=hs.2 _ (List.getElem_mem hlt)
  refine (aGU P kP.wf g hg ss[j] hsi).mono ?_
  rintro _ P2 ⟨rfl,k2⟩
  simp only[i64,aJ]
  have hp:=oT (b:=g.by'.toNat) (s:=ss[j]) (by omega)
  have hq:=mJ (b:=g.by'.toNat) (by omega) hs j
  refine⟨ss.length-(j+1),by omega,j+1,?_,dE (by have:=hs.1;omega),rfl,hlt,kP.trans0 k2⟩
  rw[uC hlt]
  generalize dI ((ss.take j).map fun s=>4+2*dC g.by'.toNat s)=X at hq
  generalize dC g.by'.toNat ss[j]=p at hp
  rw[bT,aL (by omega) (by omega),aM,aM,aL (n:=((2+X:Nat):Int)+4) (by omega) (by omega),aL (by omega) (by omega)]
  omega
 ·have hj:j=ss.length:=by
   have:¬ (j:Int)<(ss.length:Int):=of_decide_eq_false hge
   omega
  subst hj
  rw[List.take_length]
  refine aG (aS (ld _ kP).1) ?_
  simp only[i64,aJ]
  have e:aW .i64 g.by' 2=((g.by'.toNat-2:Nat):Int):=by rw[aW,aL (by omega) (by omega)];omega
  rw[e]
  have hq:=(mJ (b:=g.by'.toNat) (by omega) hs ss.length).1
  rw[List.take_length] at hq
  refine (aHi P (g.by'.toNat-2) _ (by omega) (by omega) (by omega)).mono ?_
  rintro _ _ ⟨rfl,rfl⟩
  simp only[i64,aJ]
  exact⟨rfl,k7.trans0 kP⟩
theorem aQL(M:aC)(hw:M.WF)(g:eF)(hg:dV g=true)(a:AV)(ss:List Nat)(ha:jN M a ss)(hs:yU ss):aB tb.P 19 [fX g,a] M fun y N=>y=i64 (jC g.by'.toNat ss:Nat)∧aD M N []:=by
 obtain⟨hb,hb1,hb2⟩:=kK hg
 refine aPF ?_
 unfold F19
 refine⟨_,_,_,_,_,rfl,?_⟩
 refine bE fun M7 hM7=>?_
 have hM7:M7=M.new (.cells (cW g) true):=hM7
 subst hM7
 obtain⟨k7,ld⟩:=aEU hw g
 refine aG (aS (ld _ (aD.refl k7.wf)).2) ?_
 refine⟨_,_,_,_,_,rfl,?_⟩
 refine (aOL _ k7.wf g hg a ss (ha.keep hw k7) hs).mono ?_
 rintro _ N1 ⟨rfl,k1⟩
 simp only[cO,Bool.not_true,fG]
 refine aG (aS (ld _ k1).2) ?_
 refine⟨_,_,_,_,_,rfl,?_⟩
 refine (aM5 _ k1.wf g hg a ss (ha.keep hw (k7.trans0 k1)) hs).mono ?_
 rintro _ N ⟨rfl,k2⟩
 have k:=k1.trans0 k2
 simp only[i64,aJ]
 have hi2:=aHg (b:=g.by'.toNat) (by omega) hs
 refine⟨fun z i q P=>∃ j:Nat,z=((rY g.by'.toNat ss+dI ((ss.take j).map (dC g.by'.toNat)):Nat):Int)∧i=j∧q=ss.length-j∧j≤ss.length∧aD (M.new (.cells (cW g) true)) P [],⟨ss.length,0,by simp[dI],rfl,rfl,Nat.zero_le _,k⟩,?_⟩
 rintro _ _ _ _ P ⟨j,rfl,rfl,rfl,hj,kP⟩
 have haP:=ha.keep hw (k7.trans0 kP)
 refine aG (iO (haP.len (N:=P))) ?_
 simp only[aJ]
 refine aT (fun hlt=>?_) (fun hge=>?_)
 ·have hlt:j<ss.length:=Int.ofNat_lt.1 (of_decide_eq_true hlt)
  obtain⟨b,o,h1,h2⟩:=haP.at hlt
  refine aG (bH h1) ?_
  simp only[bV]
  refine aG (aS (ld _ kP).2) ?_
  refine⟨_,_,_,_,_,rfl,?_⟩
  refine aG (aS h2) ?_
  simp only[i64,aJ]
  have hsi:=hs.2 _ (List.getElem_mem hlt)
  refine (aGU P kP.wf g hg ss[j] hsi).mono ?_
  rintro _ P2 ⟨rfl,k2⟩
  simp only[i64,aJ]
  have hp:=oT (b:=g.by'.toNat) (s:=ss[j]) (by omega)
  have hq:=mJ (b:=g.by'.toNat) (by omega) hs j
  refine⟨ss.length-(j+1),by omega,j+1,?_,dE (by have:=hs.1;omega),rfl,hlt,kP.trans0 k2⟩
  rw[uC hlt,aM,aL (by omega) (by omega)]
  omega
 ·have hj:j=ss.length:=by
   have:¬ (j:Int)<(ss.length:Int):=of_decide_eq_false hge
   omega
  subst hj
  rw[List.take_length]
  exact⟨rfl,k7.trans0 kP⟩
theorem nJ{p:Nat}{M:aC}{xo yo:Operand}:cZ tb .eql 30 xo yo (.ptr p 0) (.val (.pointer none)) M=some (.val (.bool false),M):=cB (by kernel_rfl)
theorem nH{p:Nat}{M:aC}:cG tb 77 (.ptr p 0) 0 M=some (.ptr p 0,M)∧cG tb 77 (.ptr p 0) 1 M=some (.ptr p 1,M)∧cG tb 77 (.ptr p 0) 2 M=some (.ptr p 6,M):=⟨bW (by kernel_rfl),bW (by kernel_rfl),bW (by kernel_rfl)⟩
def aHU(f:Nat)(g:eF)(mb:Nat):List AV:= .ptr f 0::(cW g++[.map mb])
structure OkO (g:eF) (l:Obj):Prop where
 srt:nC l
 bnd:∀ o∈l,o.1≤4095∧0<o.2.length
 room:(jC g.by'.toNat (iL l):Int)≤eL g
structure OM (M:aC) (A:bL) (sb mb:Nat) (g:eF) (l:Obj):Prop where
 box:M.get sb=some (.cells (aHU A.f g mb) true)
 map:∃ pm,jY M A mb pm (fun n=>(pD l n).map some)
 ok:OkO g l
 out:sb∉A.all∧mb∉A.all
 ne:sb≠mb
 ext:mb∈A.ext
theorem vG{g:eF}(hg:dV g=true):4≤eL g∧eL g≤160:=by
 have hm:=bP.1 hg
 obtain⟨hlg,hlg2⟩:=vD hg
 have hlg3:(g.bl-g.sp-3)*g.pg≤20*8:=Int.mul_le_mul (by omega) (by omega) (by omega) (by omega)
 omega
theorem aLQ{l:List Nat}{s:Nat}(h:s∈l):s≤dI l:=by
 induction l with
 | nil=>simp at h
 | cons x l ih=>
   rw[fC]
   rcases List.mem_cons.1 h with rfl|h
   ·omega
   ·have:=ih h;omega
theorem OkO.sum{g:eF}{l:Obj}(h:OkO g l)(hg:dV g=true):dI (iL l)≤10240:=by
 obtain⟨hb,hb1,hb2⟩:=kK hg
 have h1:=vG hg
 have h2:=h.room
 obtain⟨h3,h4⟩:=aCM (b:=g.by'.toNat) (by omega) (iL l)
 have h5:dI ((iL l).map (dC g.by'.toNat))≤160:=by unfold jC at h2;omega
 have h6:dI ((iL l).map (dC g.by'.toNat))*g.by'.toNat≤160*64:=Nat.mul_le_mul h5 hb2
 omega
theorem OkO.small{g:eF}{l:Obj}(h:OkO g l)(hg:dV g=true):l.length≤160∧∀ o∈l,o.2.length≤10240:=by
 obtain⟨hb,hb1,hb2⟩:=kK hg
 have h1:=vG hg
 have h2:=h.room
 obtain⟨h3,h4⟩:=aCM (b:=g.by'.toNat) (by omega) (iL l)
 have h5:dI ((iL l).map (dC g.by'.toNat))≤160:=by unfold jC at h2;omega
 have h6:dI ((iL l).map (dC g.by'.toNat))*g.by'.toNat≤160*64:=Nat.mul_le_mul h5 hb2
 refine⟨by have:(iL l).length=l.length:=by simp[iL]
           omega,fun o ho=>?_⟩
 have:=aLQ (l:=iL l) (s:=o.2.length) (List.mem_map.2 ⟨o,ho,rfl⟩)
 omega
theorem OkO.sz{g:eF}{l:Obj}(h:OkO g l)(hg:dV g=true):yU (iL l):=by
 obtain⟨h1,h2⟩:=h.small hg
 refine⟨by simp[iL];omega,fun s hs=>?_⟩
 obtain⟨o,ho,rfl⟩:=List.mem_map.1 hs
 have:=h2 o ho
 omega
section
variable {M N:aC} {A:bL} {sb mb:Nat} {g:eF} {l:Obj}
theorem OM.ldf(h:OM M A sb mb g l):aH tb 58 (.ptr sb 0) M=some (.ptr A.f 0,M):=by
 exact aS (eB aFe rfl h.box (o:=0) rfl)
theorem OM.ldg(h:OM M A sb mb g l):aH tb 23 (.ptr sb 1) M=some (fX g,M):=aS (eC (n:=5) aIx rfl rfl h.box (by simp[aHU,cW]))
theorem OM.ldm(h:OM M A sb mb g l):aH tb 75 (.ptr sb 6) M=some (.map mb,M):=aS (eB sJ rfl h.box (o:=6) rfl)
theorem OM.keep(h:OM M A sb mb g l)(hw:M.WF)(hk:aD M N A.all):OM N A sb mb g l:=by
 obtain⟨pm,hp⟩:=h.map
 exact⟨hk.get hw h.box h.out.1,⟨pm,hp.keep hw hk h.out.2 fun c hc=>by simp only[bL.av,List.mem_append];exact .inl hc⟩,h.ok,h.out,h.ne,h.ext⟩
theorem OM.keep0(h:OM M A sb mb g l)(hw:M.WF)(hk:aD M N []):OM N A sb mb g l:=h.keep hw (hk.mono (by simp))
theorem OM.get(h:OM M A sb mb g l)(i:Nat):(pD l i=none∧pV tb 75 (.map mb) (i64 (i:Int)) true M=some (.tup [jW,.val (.bool false)],M))∨∃ x d,pD l i=some d∧(i,d)∈l∧pV tb 75 (.map mb) (i64 (i:Int)) true M=some (.tup [x,.val (.bool true)],M)∧pV tb 75 (.map mb) (i64 (i:Int)) false M=some (x,M)∧PgS M A x d:=by
 obtain⟨pm,hp⟩:=h.map
 cases hl:pD l i with
 | none=>exact .inl ⟨rfl,hp.none (by rw[hl];rfl)⟩
 | some d=>
   right
   obtain⟨j,e,hj⟩:=(fI h.ok.srt).1 hl
   have e:i=j:=by omega
   subst e
   obtain⟨⟨n',x⟩,hq,e1⟩:=hp.cov (i:Int) (some d) (by rw[hl];rfl)
   have e1:n'=(i:Int):=e1
   subst e1
   rcases hp.ent _ hq with⟨_,h1⟩|⟨d',h1,h2⟩
   ·simp only at h1;rw[hl] at h1;cases h1
   ·simp only at h1
    rw[hl] at h1
    injection h1 with h1
    injection h1 with h1
    subst h1
    exact⟨x,d,rfl,hj,gI iB hp.get hp.nd hq true,gI iB hp.get hp.nd hq false,h2⟩
theorem OM.getN(h:OM M A sb mb g l){i:Nat}{d:bZ}(hm:(i,d)∈l):∃ v,PgS M A v d∧∀ N,N.get mb=M.get mb→pV tb 75 (.map mb) (i64 (i:Int)) false N=some (v,N):=by
 obtain⟨pm,hp⟩:=h.map
 have hl:=(fI h.ok.srt).2 ⟨i,rfl,hm⟩
 obtain⟨⟨n',x⟩,hq,e1⟩:=hp.cov (i:Int) (some d) (by rw[hl];rfl)
 have e1:n'=(i:Int):=e1
 subst e1
 rcases hp.ent _ hq with⟨_,h1⟩|⟨d',h1,h2⟩
 ·simp only at h1;rw[hl] at h1;cases h1
 ·simp only at h1
  rw[hl] at h1
  injection h1 with h1
  injection h1 with h1
  subst h1
  exact⟨x,h2,fun N hN=>gI iB (hN.trans hp.get) hp.nd hq false⟩
end
theorem aCN(M:aC)(sb i:Nat)(hi:i≤4095):aB tb.P 35 [.ptr sb 0,i64 (i:Int)] M fun y N=>y=i64 0∧N=M:=by
 refine aP5 ?_
 unfold F35
 simp only[i64,aJ]
 refine aG nJ ?_
 simp only[cO,fG]
 refine bE fun K hK=>?_
 refine aT (fun h=>absurd (of_decide_eq_true h) (by omega)) fun _=>?_
 rw[decide_eq_false (by omega),hK]
 dsimp only
 simp only[fG]
 exact⟨by trivial,by trivial⟩
theorem aH1{ks:List Int}{l:List Nat}(hl:l.Pairwise (·< ·))(hn:ks.Nodup)(hp:∀ z,z∈ks↔∃ i∈l,z=((i:Nat):Int)){ps:List Int}(hps:ps.Perm ks)(hsort:ps.Pairwise (fun a b=>decide (a≤b)=true)):ps=l.map fun i:Nat=>(i:Int):=by
 have hn2:(l.map fun i:Nat=>(i:Int)).Nodup:=by
  rw[List.Nodup,List.pairwise_map]
  exact hl.imp fun h=>by omega
 have h1:ps.Perm (l.map fun i:Nat=>(i:Int)):=by
  refine hps.trans ((List.perm_ext_iff_of_nodup hn hn2).2 fun z=>?_)
  rw[hp,List.mem_map]
  exact⟨fun⟨i,h1,h2⟩=>⟨i,h1,h2.symm⟩,fun⟨i,h1,h2⟩=>⟨i,h1,h2.symm⟩⟩
 refine h1.eq_of_pairwise (le:=fun a b:Int=>a≤b) (fun a b _ _ h1 h2=>by omega) (hsort.imp fun h=>of_decide_eq_true h) ?_
 rw[List.pairwise_map]
 exact hl.imp fun h=>by omega
theorem aJ0{kf c:FuncId}(hkc:xJ c)(hkf:∀ (M:aC) (b:Nat),aB tb.P kf [.map b] M fun y N=>y= .fn c [] [.ptr M.next 0]∧N=M.new (.cells [.map b] true))(M:aC)(hw:M.WF)(b:Nat){ν:Type}{ve:ν→AV}{pm:List (Int×ν)}(hb:M.get b=some (.map (mG i64 ve pm)))(hn:(pm.map (·.1)).Nodup)
 {l:List Nat} (hl:l.Pairwise (·< ·)) (hp:∀ z,z∈pm.map (·.1)↔∃ i∈l,z=((i:Nat):Int)) (hr:∀ i∈l,i≤4095) (hlen:l.length≤1000):
 aB tb.P kf [.map b] M fun y N=>aB tb.P 55 [y] N fun y N=>dJ N y (l.map fun i:Nat=>(i:Int))∧aD M N []∧∀ c,aN y c→M.next≤c:=by
 refine (hkf M b).mono ?_
 rintro _ _ ⟨rfl,rfl⟩
 have hk1:aD M (M.new (.cells [.map b] true)) []:=aD.new hw _
 have hn2:(l.map fun i:Nat=>(i:Int)).Nodup:=by
  rw[List.Nodup,List.pairwise_map]
  exact hl.imp fun h=>by omega
 have hpl:(pm.map (·.1)).length=l.length:=by
  have:=((List.perm_ext_iff_of_nodup hn hn2).2 fun z=>by
   rw[hp,List.mem_map]
   exact⟨fun⟨i,h1,h2⟩=>⟨i,h1,h2.symm⟩,fun⟨i,h1,h2⟩=>⟨i,h1,h2.symm⟩⟩).length_eq
  rw[List.length_map] at this ⊢
  rwa [List.length_map] at this
 refine (xT hkc _ hk1.wf M.next b true (mG i64 ve pm) (pm.map (·.1)) (get_new _ _) (hk1.get hw hb (by simp)) (by simp[mG]) hn (fun k hk=>?_) (by omega)).mono ?_
 ·obtain⟨i,hi,rfl⟩:=(hp k).1 hk
  have:=hr i hi
  omega
 rintro y N ⟨ss,hss,hy,hk,hfy⟩
 have hsort:(ss.mergeSort (fun x y=>decide (x≤y))).Pairwise (fun a b=>decide (a≤b)=true):=List.pairwise_mergeSort (fun a b c h1 h2=>by simp at *;omega) (fun a b=>by simp;omega) ss
 have hperm:(ss.mergeSort (fun x y=>decide (x≤y))).Perm (pm.map (·.1)):=(List.mergeSort_perm _ _).trans hss
 rw[aH1 hl hn hp hperm hsort] at hy
 exact⟨hy.ints,hk1.trans0 hk,fun c hc=>by have:=hfy c hc;have:=hk1.nxt;omega⟩
theorem aP2(M:aC)(b:Nat):aB tb.P 56 [.map b] M fun y N=>y= .fn 84 [] [.ptr M.next 0]∧N=M.new (.cells [.map b] true):=by
 refine aQ0 ?_
 unfold F56
 exact bE fun M1 hM1=>⟨rfl,hM1⟩
theorem aO1(M:aC)(b:Nat):aB tb.P 72 [.map b] M fun y N=>y= .fn 104 [] [.ptr M.next 0]∧N=M.new (.cells [.map b] true):=by
 refine aPg ?_
 unfold F72
 exact bE fun M1 hM1=>⟨rfl,hM1⟩
section
variable {M N:aC} {A:bL} {sb mb:Nat} {g:eF} {l:Obj}
theorem nC.ids{l:Obj}(h:nC l):(l.map (·.1)).Pairwise (·< ·):=by rw[List.pairwise_map];exact h
theorem aNr{pm:List (Int×AV)}(hp:jY M A mb pm (fun n=>(pD l n).map some))(hs:nC l)(z:Int):z∈pm.map (·.1)↔∃ i∈l.map (·.1),z=((i:Nat):Int):=by
 constructor
 ·intro h
  obtain⟨q,hq,rfl⟩:=List.mem_map.1 h
  have:∃ d,pD l q.1=some d:=by
   rcases hp.ent q hq with⟨_,h1⟩|⟨d,h1,_⟩
   ·cases hl:pD l q.1 with
    | none=>rw[hl] at h1;cases h1
    | some d=>exact⟨d,rfl⟩
   ·cases hl:pD l q.1 with
    | none=>rw[hl] at h1;cases h1
    | some d=>exact⟨d,rfl⟩
  obtain⟨d,hd⟩:=this
  obtain⟨i,e,hi⟩:=(fI hs).1 hd
  exact⟨i,List.mem_map.2 ⟨_,hi,rfl⟩,e⟩
 ·rintro⟨i,hi,rfl⟩
  obtain⟨o,ho,rfl⟩:=List.mem_map.1 hi
  obtain⟨q,hq,e⟩:=hp.cov (o.1:Int) (some o.2) (by rw[(fI hs).2 ⟨o.1,rfl,ho⟩];rfl)
  exact List.mem_map.2 ⟨q,hq,e⟩
theorem aOy(h:OM M A sb mb g l)(hw:M.WF)(hg:dV g=true):aB tb.P 26 [.ptr sb 0] M fun y N=>dJ N y (l.map fun o=>(o.1:Int))∧aD M N []∧∀ c,aN y c→M.next≤c:=by
 obtain⟨pm,hp⟩:=h.map
 refine aQt ?_
 unfold F26
 refine aG nJ ?_
 simp only[cO,fG]
 refine aG dB ?_
 refine aG nH.2.2 ?_
 simp only[bV]
 refine aG h.ldm ?_
 have hl:=(h.ok.small hg).1
 refine (aJ0 aPv aP2 M hw mb hp.get hp.nd h.ok.srt.ids (aNr hp h.ok.srt) (fun i hi=>?_) (by rw[List.length_map];omega)).mono fun y N h=>h.mono ?_
 ·obtain⟨o,ho,rfl⟩:=List.mem_map.1 hi
  exact (h.ok.bnd o ho).1
 rintro y N ⟨h1,h2,h3⟩
 rw[List.map_map] at h1
 exact⟨h1,h2,h3⟩
theorem aKS(h:OM M A sb mb g l)(hw:M.WF)(hg:dV g=true){i:Nat}(hi:i≤4095):aB tb.P 21 [.ptr sb 0,i64 (i:Int)] M fun y N=>aD M N []∧((pD l i=none∧y= .tup [jW,i64 4])∨∃ x d,pD l i=some d∧y= .tup [x,i64 0]∧Gr N x d∧∀ c,aN x c→M.next≤c):=by
 refine aQE ?_
 unfold F21
 simp only[i64,aJ]
 refine (aCN M sb i hi).mono ?_
 rintro _ M ⟨rfl,rfl⟩
 simp only[i64,aJ]
 refine aT (fun h=>absurd h (by decide)) fun _=>?_
 refine aG dB ?_
 refine aG nH.2.2 ?_
 simp only[bV]
 refine aG h.ldm ?_
 rcases h.get i with⟨h1,h2⟩|⟨x,d,h1,hm,h2,_,h3⟩
 ·refine aG h2 ?_
  refine⟨_,_,rfl,?_⟩
  simp only[Bool.not_false,jF]
  exact⟨aD.refl hw,.inl ⟨h1,rfl⟩⟩
 ·refine aG h2 ?_
  refine⟨_,_,rfl,?_⟩
  simp only[Bool.not_true,fG]
  have hb:=(h.ok.small hg).2 _ hm
  refine (nN M hw x d h3.1 (h.ok.bnd _ hm).2 (by simp only at hb;omega)).mono ?_
  rintro y N ⟨g1,g2,g3⟩
  exact⟨g2,.inr ⟨y,d,h1,rfl,g1,g3⟩⟩
end
theorem aSA:tb.ty.get 117=some ⟨.mp 3 3,1,8,[.map none],none⟩:=by kernel_rfl
theorem aE3:MT 117 3 3 i64 i64 (i64 0):=
 ⟨⟨_,_,_,aSA,rfl,dX,dX,rfl⟩,iB.eq,iB.ok,fun a=>⟨_,rfl,by simp[pY,eR]⟩⟩
structure aSa (l:Obj) (tm:List (Int×Int)):Prop where
 nd:(tm.map (·.1)).Nodup
 mem:∀ q,q∈tm↔∃ d,pD l q.1=some d∧q.2=((d.length:Nat):Int)
section
variable {M N:aC} {A:bL} {sb mb:Nat} {g:eF} {l:Obj}
theorem aG6(h:OM M A sb mb g l)(hw:M.WF){z1 z2:Int}{l2:Obj}(hl2:(z1= -1∧l2=l)∨∃ (i:Nat) (d:bZ),z1=i∧z2=(d.length:Nat)∧l2=dO l i d)(hs2:nC l2)(hb2:∀ o∈l2,o.1≤4095)(hlen:l2.length≤1000):
 aB tb.P 38 [.ptr sb 0,i64 z1,i64 z2] M fun y N=>jN N y (iL l2)∧aD M N []:=by
 obtain⟨pm,hp⟩:=h.map
 refine aP9 ?_
 unfold F38
 simp only[i64,aJ]
 refine bE fun M3 hM3=>?_
 have hM3:M3=M.new (.map []):=hM3
 have k3:aD M M3 []:=by rw[hM3];exact aD.new hw _
 have g3:M3.get M.next=some (.map []):=by rw[hM3];exact get_new _ _
 have n3:M3.next=M.next+1:=by rw[hM3];rfl
 clear hM3
 have hmb:mb<M.next:=hw _ _ hp.get
 refine aG dB ?_
 refine aG nH.2.2 ?_
 simp only[bV]
 refine aG (h.keep0 hw k3).ldm ?_
 have hp3:=k3.get hw hp.get (by simp)
 have he:jH M3 (.map mb)=some (some mb,mG i64 (fun x:AV=>x) pm):=by unfold jH;simp only;rw[hp3]
 rw[he,eM]
 refine⟨fun rem n Q=>∃ (rem':List (Int×AV)) (tm:List (Int×Int)),rem=mG i64 (fun x:AV=>x) rem'∧(∀ q∈rem',q∈pm)∧(rem'.map (·.1)).Nodup∧aD (M3.kill mb) Q [M.next]∧Q.get M.next=some (.map (mG i64 i64 tm))∧(tm.map (·.1)).Nodup∧(∀ q,q∈tm↔∃ d,pD l q.1=some d∧q.2=((d.length:Nat):Int)∧q.1∉rem'.map (·.1)),
  ⟨pm,[],rfl,fun _ h=>h,hp.nd,⟨k3.wf.kill _,Nat.le_refl _,fun _ _ _=>rfl⟩,by show (M3.kill mb).get M.next=_;rw[aC.get_kill,if_neg (by omega)];exact g3,List.nodup_nil,fun q=>⟨fun h=>by simp at h,fun⟨d,h1,_,h3⟩=>?_⟩⟩,?_⟩
 ·obtain⟨q',hq',e⟩:=hp.cov q.1 (some d) (by rw[h1];rfl)
  exact absurd (List.mem_map.2 ⟨q',hq',e⟩) h3
 rintro _ rem Q ⟨rem',tm,rfl,hsub,hnd,hkQ,hgQ,hn,hmem⟩
 refine⟨fun hnil=>?_,fun i kx vx hi=>?_⟩
 ·have hr:rem'=[]:=by
   cases rem' with
   | nil=>rfl
   | cons a l=>simp[mG] at hnil
  subst hr
  refine bE fun K22 hK22=>?_
  have hQn:M.next<Q.next:=hkQ.wf _ _ hgQ
  rw[show lT Q (some mb,mG i64 (fun x:AV=>x) pm)=Q.put mb (.map (mG i64 (fun x:AV=>x) pm)) from rfl]
  have kS:aD M (Q.put mb (.map (mG i64 (fun x:AV=>x) pm))) []:=⟨hkQ.wf.put (by omega) _,by show M.next≤Q.next;omega,fun c hc _=>by
   rw[aC.get_put]
   by_cases e:c=mb
   ·rw[if_pos e,e,hp.get]
   ·rw[if_neg e,hkQ.old c (by show c<M3.next;omega) (by simp;omega),aC.get_kill,if_neg e,k3.old c hc (by simp)]⟩
  have gS:(Q.put mb (.map (mG i64 (fun x:AV=>x) pm))).get M.next=some (.map (mG i64 i64 tm)):=by rw[aC.get_put,if_neg (by omega)];exact hgQ
  have hT:aSa l tm:=⟨hn,fun q=>(hmem q).trans ⟨fun⟨d,h1,h2,_⟩=>⟨d,h1,h2⟩,fun⟨d,h1,h2⟩=>⟨d,h1,h2,by simp⟩⟩⟩
  generalize Q.put mb (.map (mG i64 (fun x:AV=>x) pm))=Q1 at kS gS ⊢
  clear hmem hn hgQ hkQ hnd hsub hnil he
  have key:∀ (Q2:aC) (tm2:List (Int×Int)),aD M Q2 []→Q2.get M.next=some (.map (mG i64 i64 tm2))→aSa l2 tm2→K22 Q2:=by
   intro Q2 tm2 k2 g2 hT2
   rw[hK22]
   dsimp only
   have hkm:∀ z,z∈tm2.map (·.1)↔∃ i∈l2.map (·.1),z=((i:Nat):Int):=fun z=>by
    constructor
    ·intro hz
     obtain⟨q,hq,rfl⟩:=List.mem_map.1 hz
     obtain⟨d,h1,_⟩:=(hT2.mem q).1 hq
     obtain⟨i,e,hi⟩:=(fI hs2).1 h1
     exact⟨i,List.mem_map.2 ⟨_,hi,rfl⟩,e⟩
    ·rintro⟨i,hi,rfl⟩
     obtain⟨o,ho,rfl⟩:=List.mem_map.1 hi
     exact List.mem_map.2 ⟨((o.1:Int),((o.2.length:Nat):Int)),(hT2.mem _).2 ⟨o.2,(fI hs2).2 ⟨o.1,rfl,ho⟩,rfl⟩,rfl⟩
   refine (aJ0 aL2 aO1 Q2 k2.wf M.next g2 hT2.nd hs2.ids hkm (fun i hi=>?_) (by rw[List.length_map];exact hlen)).mono fun y N h=>h.mono ?_
   ·obtain⟨o,ho,rfl⟩:=List.mem_map.1 hi
    exact hb2 o ho
   rintro y26 M26 ⟨hy,hk26,_⟩
   have kM:=k2.trans0 hk26
   have g26:=hk26.get k2.wf g2 (by simp)
   have hlt26:M.next<M26.next:=kM.wf _ _ g26
   refine aG (iO (hy.len (M':=M26))) ?_
   simp only[aJ]
   rw[List.length_map,List.length_map]
   refine⟨fun x z n P=>∃ j:Nat,z=j∧n=l2.length-j∧j≤l2.length∧aD M26 P []∧nK P x (((iL l2).take j).map fun s:Nat=>i64 (s:Int))∧∀ c,aN x c→M26.next≤c,⟨l2.length,0,rfl,rfl,Nat.zero_le _,aD.refl kM.wf,.inl ⟨rfl,rfl⟩,fun c hc=>hc.elim⟩,?_⟩
   rintro _ x z n P ⟨j,rfl,rfl,hj,kP,hx,hf⟩
   refine aT (fun hlt=>?_) (fun hge=>?_)
   ·have hlt:j<l2.length:=Int.ofNat_lt.1 (of_decide_eq_true hlt)
    obtain⟨b,o,h1,h2⟩:=(hy.keep kM.wf kP).at (i:=j) (by rw[List.length_map,List.length_map];exact hlt)
    refine aG (bH h1) ?_
    simp only[bV]
    refine aG (aS h2) ?_
    rw[List.getElem_map,List.getElem_map]
    simp only[i64,aJ]
    have hent:(((l2[j]).1:Int),(((l2[j]).2.length:Nat):Int))∈tm2:=(hT2.mem _).2 ⟨(l2[j]).2,(fI hs2).2 ⟨_,rfl,List.getElem_mem hlt⟩,rfl⟩
    refine aG (gI aE3 (kP.get kM.wf g26 (by simp)) hT2.nd hent false) ?_
    simp only[cond_false,i64,aJ]
    refine bE fun M42 hM42=>?_
    subst hM42
    have hsl:(iL l2).length=l2.length:=by simp[iL]
    obtain⟨x2,N',q1,q2,q3,q4⟩:=nK.grow uY dX rfl (by decide) kP.wf hx (i64 (((l2[j]).2.length:Nat):Int)) rfl (by rw[List.length_map,List.length_take];omega)
    refine aG q1 ?_
    have e:((iL l2).take (j+1)).map (fun s:Nat=>i64 (s:Int))=((iL l2).take j).map (fun s:Nat=>i64 (s:Int))++[i64 (((l2[j]).2.length:Nat):Int)]:=by
     rw[List.take_succ_eq_append_getElem (by omega),List.map_append]
     simp[iL]
    rw[← e] at q2
    refine⟨_,by omega,j+1,dE (by omega),rfl,hlt,iE kP q3 hf,q2,fun c hc=>?_⟩
    have:=q4 c hc
    have:=kP.nxt
    omega
   ·have hj:j=l2.length:=by
     have:¬ (j:Int)<(l2.length:Int):=of_decide_eq_false hge
     omega
    subst hj
    rw[List.take_of_length_le (by simp[iL])] at hx
    refine⟨?_,kM.trans0 kP⟩
    have:(iL l2).map (fun s:Nat=>i64 (s:Int))=((iL l2).map fun s:Nat=>(s:Int)).map i64:=by rw[List.map_map];rfl
    rw[this] at hx
    exact hx.ints
  refine aT (fun hpos=>?_) (fun hneg=>?_)
  ·have hpos:z1≥0:=of_decide_eq_true hpos
   rcases hl2 with⟨e,_⟩|⟨i,d,rfl,rfl,rfl⟩
   ·omega
   obtain⟨tm2,q1,q2,q3,_⟩:=aEb aE3 gS hT.nd (i:Int) ((d.length:Nat):Int)
   refine aG q1 ?_
   have hlt1:M.next<Q1.next:=kS.wf _ _ gS
   refine key _ tm2 (xD kS (Nat.le_refl _) hlt1 _) (by rw[aC.get_put,if_pos rfl]) ⟨q2,fun q=>?_⟩
   rw[q3,zR h.ok.srt]
   simp only
   constructor
   ·rintro (rfl|⟨h1,h2⟩)
    ·exact⟨d,if_pos rfl,rfl⟩
    ·obtain⟨d',h3,h4⟩:=(hT.mem q).1 h1
     exact⟨d',by rw[if_neg h2];exact h3,h4⟩
   ·rintro⟨d',h1,h2⟩
    by_cases e:q.1=(i:Int)
    ·rw[if_pos e] at h1
     injection h1 with h1
     subst h1
     left
     rw[← e,← h2]
    ·rw[if_neg e] at h1
     exact .inr ⟨(hT.mem q).2 ⟨d',h1,h2⟩,e⟩
  ·have hneg:¬ z1≥0:=of_decide_eq_false hneg
   rcases hl2 with⟨_,rfl⟩|⟨i,d,rfl,_⟩
   ·exact key Q1 tm kS gS hT
   ·omega
 ·obtain⟨q,hq,e1⟩:∃ q,rem'[i]? =some q∧(kx,vx)=(i64 q.1,q.2):=by
   unfold mG at hi
   rw[List.getElem?_map] at hi
   obtain⟨q,h1,h2⟩:=Option.map_eq_some_iff.1 hi
   exact⟨q,h1,h2.symm⟩
  injection e1 with e1 e2
  subst e1 e2
  have hme:(mG i64 (fun x:AV=>x) rem').eraseIdx i=mG i64 (fun x:AV=>x) (rem'.eraseIdx i):=mC _ _ _
  rw[hme]
  have hpr:=kJ hq
  have hqm:q∈rem':=List.mem_of_getElem? hq
  have hpk:(rem'.map (·.1)).Perm (q.1::(rem'.eraseIdx i).map (·.1)):=hpr.map (·.1)
  have hnd2:=hpk.nodup_iff.1 hnd
  rw[List.nodup_cons] at hnd2
  obtain⟨d,hd,hlk⟩:∃ d,aI M q.2 d∧pD l q.1=some d:=by
   rcases hp.ent q (hsub q hqm) with⟨_,h1⟩|⟨d,h1,h2⟩
   ·cases hl:pD l q.1 with
    | none=>rw[hl] at h1;cases h1
    | some d=>rw[hl] at h1;injection h1 with h1;cases h1
   ·refine⟨d,h2.1,?_⟩
    cases hl:pD l q.1 with
    | none=>rw[hl] at h1;cases h1
    | some d=>rw[hl] at h1;injection h1 with h1
  simp only[i64,aJ]
  refine aG (iO (aO.len hd gG rfl (M':=Q))) ?_
  simp only[aJ]
  obtain⟨tm2,q1,q2,q3,_⟩:=aEb aE3 hgQ hn q.1 ((d.length:Nat):Int)
  refine aG q1 ?_
  have hlt1:M.next<Q.next:=hkQ.wf _ _ hgQ
  refine⟨rem'.eraseIdx i,tm2,rfl,fun r hr=>hsub r (hpr.mem_iff.2 (List.mem_cons_of_mem _ hr)),hnd2.2,hkQ.trans (aD.put hkQ.wf hlt1 _) (fun c hc _=>hc) (fun c hc _=>hc),by rw[aC.get_put,if_pos rfl],q2,fun r=>?_⟩
  rw[q3]
  constructor
  ·rintro (rfl|⟨h1,h2⟩)
   ·exact⟨d,hlk,rfl,hnd2.1⟩
   ·obtain⟨d',h3,h4,h5⟩:=(hmem r).1 h1
    exact⟨d',h3,h4,fun hm=>h5 (hpk.mem_iff.2 (List.mem_cons_of_mem _ hm))⟩
  ·rintro⟨d',h3,h4,h5⟩
   by_cases e:r.1=q.1
   ·left
    rw[e] at h3
    rw[hlk] at h3
    injection h3 with h3
    subst h3
    rw[← e,← h4]
   ·right
    refine⟨(hmem r).2 ⟨d',h3,h4,fun hm=>?_⟩,e⟩
    rcases List.mem_cons.1 (hpk.mem_iff.1 hm) with h6|h6
    ·exact e h6
    ·exact h5 h6
theorem aIZ(h:OM M A sb mb g l)(hw:M.WF)(hg:dV g=true):aB tb.P 17 [.ptr sb 0] M fun y N=>y=i64 (jC g.by'.toNat (iL l):Nat)∧aD M N []:=by
 refine aO6 ?_
 unfold F17
 refine aG nJ ?_
 simp only[cO,fG]
 refine aG dB ?_
 refine aG nH.2.1 ?_
 simp only[bV]
 refine aG h.ldg ?_
 refine⟨_,_,_,_,_,rfl,?_⟩
 have hl:=(h.ok.small hg).1
 refine (aG6 h hw (z1:= -1) (z2:=0) (l2:=l) (.inl ⟨rfl,rfl⟩) h.ok.srt (fun o ho=>(h.ok.bnd o ho).1) (by omega)).mono ?_
 rintro y N ⟨h1,k1⟩
 refine⟨aG (h.keep0 hw k1).ldg rfl,?_⟩
 refine (aI3 N k1.wf g hg y _ h1 (h.ok.sz hg)).mono ?_
 rintro _ N2 ⟨rfl,k2⟩
 simp only[i64,aJ]
 exact⟨by trivial,k1.trans0 k2⟩
end
theorem aJt{M:aC}{b n:Nat}{y:AV}{l m:List (BitVec 8)}(hw:M.WF)(hn:n=l.length)(h:aI M (.sl b 0 n n none) l)(hy:aI M y m)(hm:0<m.length)(hb:l.length+m.length≤1000000):
 ∃ x' N,aR tb 25 25 (.sl b 0 n n none) y M=some (x',N)∧Gr N x' (l++m)∧aD M N []∧∀ c,aN x' c→M.next≤c:=by
 subst hn
 have hap:aR tb 25 25 (.sl b 0 l.length l.length none) y M=some (.sl M.next 0 (l.length+m.length) (l.length+m.length) (some 1),M.new (.cells (dH l++dH m) true)):=by
  unfold aR oQ
  rw[gG]
  simp only[vK,aO.evLen hy,aO.evFirst hy,aO.evLen h,aO.evFirst h,fM,Nat.mul_one,AM.beq_self,cond_true,tU (show ¬ l.length+m.length≤l.length by omega),cond_false]
  unfold iX sL
  simp only[aO.evFirst h,fM,Nat.mul_one,AM.beq_self,ble_of (show 3*(l.length+m.length)+4096≤281474976710656 by omega),ble_of (show l.length+m.length≤1152921504606846976 by omega),cond_true]
 refine⟨_,_,hap,.inr ⟨M.next,by simp,by simp;omega,by simp,?_⟩,aD.new hw _,fun c hc=>by rw[← hc.2];exact Nat.le_refl _⟩
 rw[aC.get_new,if_pos rfl]
 rw[iW]
theorem aGr(n:Nat):AV.val (.int .u8 (IntKind.wrap .u8 (n:Int)))=rZ (bN n):=by
 unfold rZ bN
 rw[vL,BitVec.toNat_ofNat]
 congr 2
theorem aGO(n k:Nat)(hk:k=8∨k=16):AV.val (.int .u8 (IntKind.wrap .u8 (gF .i64 (n:Int) (k:Int))))=rZ (bN (n/2^k)):=by
 have e:gF .i64 (n:Int) (k:Int)=((n/2^k:Nat):Int):=by
  unfold gF
  have:min (k:Int).toNat (IntKind.bits .i64)=k:=by
   show min (k:Int).toNat 64=k
   omega
  rw[this]
  rcases hk with rfl|rfl
  ·show ((n:Int).fdiv 256)=((n/256:Nat):Int)
   rw[Int.fdiv_eq_ediv_of_nonneg _ (by decide)]
   omega
  ·show ((n:Int).fdiv 65536)=((n/65536:Nat):Int)
   rw[Int.fdiv_eq_ediv_of_nonneg _ (by decide)]
   omega
 rw[e,aGr]
section
variable {M0:aC} {k n:Int} {M N:aC} {A:bL} {S:Ps} {P:Int→Option (Option bZ)} {B:Int→Option bZ} {sb mb:Nat} {g:eF} {l:Obj}
theorem aF9(h:LF M0 g k n A M S P B):aB tb.P 36 [.ptr A.f 0] M fun y N=>y= .val (.bool false)∧N=M:=by
 obtain⟨C,m,hr⟩:=h.fm.fr
 refine (aFy M A.f (dZ A S) A.p C hr.flat).mono fun y N ⟨h1,h2⟩=>⟨?_,h2⟩
 rw[h1]
 show AV.val (.bool S.deg)=_
 rw[h.deg]
theorem aMc(hs:yU (iL l))(hl:l.length≤160)(i:Nat)(d:bZ)(hd:d.length≤65536):yU (iL (dO l i d))∧(dO l i d).length≤161:=by
 have hlen:(dO l i d).length≤161:=by
  unfold dO
  rw[List.length_append,List.length_cons]
  have h1:(l.filter fun o=>decide (o.1<i)).length+(l.filter fun o=>decide (i<o.1)).length≤l.length:=by
   clear hl hs
   induction l with
   | nil=>simp
   | cons o l ih=>
     rw[List.filter_cons,List.filter_cons,List.length_cons]
     by_cases h1:o.1<i
     ·rw[if_pos (decide_eq_true h1),if_neg (by simp;omega),List.length_cons];omega
     ·rw[if_neg (by simpa using h1)]
      split
      ·rw[List.length_cons];omega
      ·omega
  omega
 refine⟨⟨by simp only[iL,List.length_map];omega,fun s hs'=>?_⟩,hlen⟩
 obtain⟨o,ho,rfl⟩:=List.mem_map.1 hs'
 rcases (oE o).1 ho with rfl|⟨h1,_⟩
 ·simp only;omega
 ·exact hs.2 _ (List.mem_map.2 ⟨o,h1,rfl⟩)
theorem aK9(hF:LF M0 g k n A M S P B)(h:OM M A sb mb g l)(hm0:M0.next≤mb){i:Nat}(hi:i≤4095){x:AV}{d:bZ}(hx:aI M x d)(h0:0<d.length)(hd:d.length≤65536):
 aB tb.P 13 [.ptr sb 0,i64 (i:Int),x] M fun y N=>((jC g.by'.toNat (iL (dO l i d)):Int)≤eL g→y=i64 0∧LF M0 g k n A N S P B∧OM N A sb mb g (dO l i d)∧aD M N [mb])∧
  (¬ (jC g.by'.toNat (iL (dO l i d)):Int)≤eL g→y=i64 8∧LF M0 g k n A N S P B∧OM N A sb mb g l∧aD M N []):=by
 have hg:=hF.may
 have hw:=hF.wf
 have hsm:=h.ok.small hg
 obtain⟨hsz,hpl⟩:=aMc (h.ok.sz hg) hsm.1 i d hd
 refine aQC ?_
 unfold F13
 simp only[i64,aJ]
 refine (aCN M sb i hi).mono ?_
 rintro _ M ⟨rfl,rfl⟩
 simp only[i64,aJ]
 refine aT (fun h=>absurd h (by decide)) fun _=>?_
 have hxl:∀ N,bD tb false 25 x N=some d.length:=fun N=>aO.len hx gG rfl
 refine aG (iO (hxl _)) ?_
 simp only[aJ]
 refine aT (fun h=>absurd (of_decide_eq_true h) (by omega)) fun _=>?_
 refine aG dB ?_
 refine aG nH.1 ?_
 simp only[bV]
 refine aG h.ldf ?_
 refine (aF9 hF).mono ?_
 rintro _ M ⟨rfl,rfl⟩
 simp only[cO,fG]
 refine aG dB ?_
 refine aG nH.2.1 ?_
 simp only[bV]
 refine aG dB ?_
 refine aG nH.2.1 ?_
 simp only[bV]
 refine aG h.ldg ?_
 refine⟨_,_,_,_,_,rfl,?_⟩
 refine aG (iO (hxl _)) ?_
 simp only[aJ]
 refine aG h.ldg ?_
 refine⟨_,_,_,_,_,rfl,?_⟩
 refine (aG6 h hw (z1:=(i:Int)) (z2:=((d.length:Nat):Int)) (l2:=dO l i d) (.inr ⟨i,d,rfl,rfl,rfl⟩) (aAR h.ok.srt i d) (fun o ho=>?_) (by omega)).mono ?_
 ·rcases (oE o).1 ho with rfl|⟨h1,_⟩
  ·exact hi
  ·exact (h.ok.bnd o h1).1
 rintro y37 N1 ⟨hy,k1⟩
 refine⟨aG (h.keep0 hw k1).ldg rfl,aG (h.keep0 hw k1).ldg rfl,?_⟩
 refine (aI3 N1 k1.wf g hg y37 _ hy hsz).mono ?_
 rintro _ N2 ⟨rfl,k2'⟩
 have k2:=k1.trans0 k2'
 simp only[i64,aJ]
 refine⟨aG (h.keep0 hw k2).ldg rfl,?_⟩
 refine (xF N2 k2.wf g hg).mono ?_
 rintro _ N3 ⟨rfl,k3'⟩
 have k3:=k2.trans0 k3'
 simp only[i64,aJ]
 have h3:=h.keep0 hw k3
 have hF3:=hF.keep k3
 refine aT (fun hgt=>?_) (fun hle=>?_)
 ·have hgt:=of_decide_eq_true hgt
  exact⟨fun h=>absurd h (by omega),fun _=>⟨by first|trivial|rfl,hF3,h3,k3⟩⟩
 ·have hle:=of_decide_eq_false hle
  refine aG dB ?_
  refine aG nH.2.2 ?_
  simp only[bV]
  refine aG h3.ldm ?_
  have hx3:aI N3 x d:=aO.keep0 hx hw k3
  refine (nN N3 k3.wf x d hx3 h0 (by omega)).mono ?_
  rintro y53 N4 ⟨g1,k4',g3⟩
  have k4:=k3.trans0 k4'
  have h4:=h.keep0 hw k4
  have hF4:=hF.keep k4
  refine⟨aG h4.ldm rfl,?_⟩
  obtain⟨pm,hp⟩:=h4.map
  have hav:=hF3.fm.av_lt hF3.hext
  have hmA:mb∈A.av:=by simp only[bL.av,List.mem_append];exact .inr h.ext
  obtain⟨pm',p1,p2,_⟩:=hp.put hF4.wf hmA (i:Int) y53 (some d) (.inr ⟨d,rfl,Gr.pg g1 h0 fun c hc hm=>by have h1:=g3 c hc;have h2:=hav c hm;omega⟩)
  refine aG p1 ?_
  have hlt4:mb<N4.next:=hF4.wf _ _ hp.get
  have kp:aD N4 (N4.put mb (.map (mG i64 (fun x:AV=>x) pm'))) [mb]:=aD.put hF4.wf hlt4 _
  refine⟨fun _=>⟨by first|trivial|rfl,hF4.beside kp h.out.2 h.ext hm0,⟨?_,⟨pm',?_⟩,⟨aAR h.ok.srt i d,fun o ho=>?_,by omega⟩,h.out,h.ne,h.ext⟩,(k4.mono (by simp)).trans kp (fun c hc _=>hc) (fun c hc _=>hc)⟩,fun h=>absurd (by omega) h⟩
  ·exact kp.get hF4.wf h4.box (by simpa using h.ne)
  ·have e:lW (fun n=>(pD l n).map some) (i:Int) (some d)=fun n=>(pD (dO l i d) n).map some:=by
    funext z
    rw[zR h.ok.srt]
    unfold lW
    by_cases e:z=(i:Int)
    ·simp only[if_pos e];rfl
    ·simp only[if_neg e]
   rw[← e]
   exact p2
  ·rcases (oE o).1 ho with rfl|⟨h1,_⟩
   ·exact⟨hi,h0⟩
   ·exact h.ok.bnd o h1
theorem aKq(b:Nat)(hb:1≤b)(l:Obj)(i:Nat):jC b (iL (tK l i))≤jC b (iL l):=by
 have key:∀ f:Nat→Nat,dI ((iL (tK l i)).map f)≤dI ((iL l).map f):=fun f=>by
  induction l with
  | nil=>simp[tK,iL]
  | cons o l ih=>
    unfold tK at ih ⊢
    rw[List.filter_cons]
    show _≤dI (f o.2.length::(iL l).map f)
    rw[fC]
    split
    ·show dI (f o.2.length::_)≤_
     rw[fC]
     have:=ih
     show f o.2.length+dI ((iL (l.filter _)).map f)≤_
     omega
    ·omega
 have h1:=key (dC b)
 have h2:=key fun s=>4+2*dC b s
 have h3:rY b (iL (tK l i))≤rY b (iL l):=by
  unfold rY dC
  have:(2+dI ((iL (tK l i)).map fun s=>4+2*dC b s)+(b-2)-1)/(b-2)≤(2+dI ((iL l).map fun s=>4+2*dC b s)+(b-2)-1)/(b-2):=Nat.div_le_div_right (by omega)
  unfold dC at this
  omega
 unfold jC
 omega
theorem aO5(hF:LF M0 g k n A M S P B)(h:OM M A sb mb g l)(hm0:M0.next≤mb){i:Nat}(hi:i≤4095){d:bZ}(hl:pD l i=some d):
 aB tb.P 20 [.ptr sb 0,i64 (i:Int)] M fun y N=>y=i64 0∧LF M0 g k n A N S P B∧OM N A sb mb g (tK l i)∧aD M N [mb]:=by
 have hg:=hF.may
 have hw:=hF.wf
 obtain⟨hb,hb1,hb2⟩:=kK hg
 refine aPR ?_
 unfold F20
 simp only[i64,aJ]
 refine (aCN M sb i hi).mono ?_
 rintro _ M ⟨rfl,rfl⟩
 simp only[i64,aJ]
 refine aT (fun h=>absurd h (by decide)) fun _=>?_
 refine aG dB ?_
 refine aG nH.1 ?_
 simp only[bV]
 refine aG h.ldf ?_
 refine (aF9 hF).mono ?_
 rintro _ M ⟨rfl,rfl⟩
 simp only[cO,fG]
 refine aG dB ?_
 refine aG nH.2.2 ?_
 simp only[bV]
 refine aG h.ldm ?_
 rcases h.get i with⟨h1,_⟩|⟨x,d',h1,hm,h2,_⟩
 ·rw[hl] at h1;cases h1
 refine aG h2 ?_
 refine⟨_,_,rfl,?_⟩
 simp only[Bool.not_true,fG]
 refine aG dB ?_
 refine aG nH.2.2 ?_
 simp only[bV]
 refine aG h.ldm ?_
 obtain⟨pm,hp⟩:=h.map
 have hmA:mb∈A.av:=by simp only[bL.av,List.mem_append];exact .inr h.ext
 obtain⟨pm',p1,p2⟩:=aEH hp hw hmA (n:=(i:Int)) (x:=some d) (by rw[hl];rfl)
 refine aG p1 ?_
 have kp:aD M (M.put mb (.map (mG i64 (fun x:AV=>x) pm'))) [mb]:=aD.put hw (hw _ _ hp.get) _
 have hnd:=aKq g.by'.toNat (by omega) l i
 have hro:=h.ok.room
 refine⟨by first|trivial|rfl,hF.beside kp h.out.2 h.ext hm0,⟨kp.get hw h.box (by simpa using h.ne),⟨pm',?_⟩,⟨aAq h.ok.srt i,fun o ho=>h.ok.bnd o (List.mem_filter.1 ho).1,by omega⟩,h.out,h.ne,h.ext⟩,kp⟩
 have e:(fun k=>if k=(i:Int) then none else (pD l k).map some)=fun n=>(pD (tK l i) n).map some:=by
  funext z
  rw[aMp h.ok.srt]
  by_cases e:z=(i:Int)
  ·simp only[if_pos e];rfl
  ·simp only[if_neg e]
 rw[← e]
 exact p2
theorem aNR(h:OM M A sb mb g l)(hw:M.WF)(hg:dV g=true):aB tb.P 44 [.ptr sb 0] M fun y N=>aI N y (xZ l)∧aD M N []∧∀ c,aN y c→M.next≤c:=by
 obtain⟨hsl,hsm⟩:=h.ok.small hg
 refine aQb ?_
 unfold F44
 refine (aOy h hw hg).mono ?_
 rintro y1 M2 ⟨hy,k2,_⟩
 have hyl:∀ N,bD tb false 48 y1 N=some l.length:=fun N=>by
  have:=hy.len (M':=N)
  rwa [List.length_map] at this
 refine aG (iO (hyl _)) ?_
 simp only[aJ]
 refine aG (iO (hyl _)) ?_
 simp only[aJ]
 refine bE fun M7 hM7=>?_
 have e8:=aGO l.length 8 (.inl rfl)
 have e8:AV.val (.int .u8 (IntKind.wrap .u8 (gF .i64 (l.length:Int) 8)))=rZ (bN (l.length/256)):=e8
 rw[e8,aGr] at hM7
 have hM7:M7=M2.new (.cells (dH [bN (l.length/256),bN l.length]) true):=hM7
 have k7:aD M2 M7 []:=by rw[hM7];exact aD.new k2.wf _
 have g7:M7.get M2.next=some (.cells (dH [bN (l.length/256),bN l.length]) true):=by rw[hM7];exact get_new _ _
 clear hM7 e8
 have k7M:=k2.trans0 k7
 have b7:aI M7 (.sl M2.next 0 2 2 none) [bN (l.length/256),bN l.length]:=⟨rfl,.inr ⟨_,_,_,_,rfl,⟨Nat.le_refl _,.inl rfl⟩,.inr ⟨_,_,g7,by simp,by simp[dH]⟩⟩⟩
 refine aG (iO (hyl _)) ?_
 simp only[aJ]
 refine⟨fun x z n Q=>∃ j:Nat,z=j∧n=l.length-j∧j≤l.length∧aD M7 Q []∧((j=0∧x= .sl M2.next 0 2 2 none)∨(Gr Q x ([bN (l.length/256),bN l.length]++nF (l.take j))∧∀ c,aN x c→M7.next≤c)),⟨l.length,0,rfl,rfl,Nat.zero_le _,aD.refl k7.wf,.inl ⟨rfl,rfl⟩⟩,?_⟩
 rintro _ x z n Q ⟨j,rfl,rfl,hj,kQ,hx⟩
 have kQM:=k7M.trans0 kQ
 refine aT (fun hlt=>?_) (fun hge=>?_)
 ·have hlt:j<l.length:=Int.ofNat_lt.1 (of_decide_eq_true hlt)
  have hyQ:=hy.keep k2.wf (k7.trans0 kQ)
  obtain⟨b,o,h1,h2⟩:=hyQ.at (i:=j) (by rw[List.length_map];exact hlt)
  refine aG (bH h1) ?_
  simp only[bV]
  refine aG (aS h2) ?_
  rw[List.getElem_map]
  simp only[i64,aJ]
  refine aG dB ?_
  refine aG nH.2.2 ?_
  simp only[bV]
  have hQ:=h.keep0 hw kQM
  refine aG hQ.ldm ?_
  have hmem:=List.getElem_mem hlt
  have hbn:=h.ok.bnd _ hmem
  have hdl:=hsm _ hmem
  obtain⟨v,q3,q2⟩:=h.getN (i:=(l[j]).1) (d:=(l[j]).2) hmem
  have hmbM:mb<M.next:=by obtain⟨pm,hp⟩:=h.map;exact hw _ _ hp.get
  refine aG (q2 Q (kQM.old mb hmbM (by simp))) ?_
  have hvl:∀ N,bD tb false 25 v N=some (l[j]).2.length:=fun N=>aO.len q3.1 gG rfl
  refine aG (iO (hvl _)) ?_
  simp only[aJ]
  refine aG (iO (hvl _)) ?_
  simp only[aJ]
  refine aG (iO (hvl _)) ?_
  simp only[aJ]
  refine bE fun M33 hM33=>?_
  have f1:AV.val (.int .u8 (IntKind.wrap .u8 (gF .i64 ((l[j]).1:Int) 8)))=rZ (bN ((l[j]).1/256)):=aGO _ 8 (.inl rfl)
  have f2:AV.val (.int .u8 (IntKind.wrap .u8 (gF .i64 (((l[j]).2.length:Nat):Int) 16)))=rZ (bN ((l[j]).2.length/65536)):=aGO _ 16 (.inr rfl)
  have f3:AV.val (.int .u8 (IntKind.wrap .u8 (gF .i64 (((l[j]).2.length:Nat):Int) 8)))=rZ (bN ((l[j]).2.length/256)):=aGO _ 8 (.inl rfl)
  rw[f1,f2,f3,aGr,aGr] at hM33
  obtain⟨hd,hhd⟩:∃ hd:bZ,hd=[bN ((l[j]).1/256),bN (l[j]).1,bN ((l[j]).2.length/65536),bN ((l[j]).2.length/256),bN (l[j]).2.length]:=⟨_,rfl⟩
  have hM33:M33=Q.new (.cells (dH hd) true):=by rw[hM33,hhd];rfl
  have hhl:hd.length=5:=by rw[hhd];rfl
  have k33:aD Q M33 []:=by rw[hM33];exact aD.new kQ.wf _
  have g33:M33.get Q.next=some (.cells (dH hd) true):=by rw[hM33];exact get_new _ _
  clear hM33 f1 f2 f3
  have b33:aI M33 (.sl Q.next 0 5 5 none) hd:=⟨by simp[hhl],.inr ⟨_,_,_,_,by rw[hhl],⟨Nat.le_refl _,.inl rfl⟩,.inr ⟨_,_,g33,by simp[hhl],by rw[List.drop_zero,List.take_of_length_le (by simp[hhl])]⟩⟩⟩
  have hso:nF (l.take (j+1))=nF (l.take j)++(hd++(l[j]).2):=by
   unfold nF
   rw[List.take_succ_eq_append_getElem hlt,List.flatMap_append]
   show _++(zS l[j]++[])=_
   rw[List.append_nil,hhd]
   rfl
  have hslen:(nF (l.take j)).length≤11040:=by
   rw[aAx]
   have h1:(l.take j).length≤160:=by rw[List.length_take];omega
   have h2:=h.ok.sum hg
   have h3:dI (iL l)=dI (iL (l.take j))+dI (iL (l.drop j)):=by
    rw[← aEC]
    unfold iL
    rw[← List.map_append,List.take_append_drop]
   omega
  obtain⟨x1,N1,a1,a2,a3,a4⟩:∃ x1 N1,aR tb 25 25 x (.sl Q.next 0 5 5 none) M33=some (x1,N1)∧Gr N1 x1 ([bN (l.length/256),bN l.length]++nF (l.take j)++hd)∧aD M7 N1 []∧∀ c,aN x1 c→M7.next≤c:=by
   rcases hx with⟨e,rfl⟩|⟨hx,hf⟩
   ·subst e
    obtain⟨x1,N1,c1,c2,c3,c4⟩:=aJt (M:=M33) (b:=M2.next) (n:=2) (l:=[bN (l.length/256),bN l.length]) k33.wf rfl (aO.keep0 b7 k7.wf (kQ.trans0 k33)) b33 (by omega) (by simp[hhl])
    exact⟨x1,N1,c1,by simpa[nF] using c2,(kQ.trans0 k33).trans0 c3,fun c hc=>by have:=c4 c hc;have:=kQ.nxt;have:=k33.nxt;omega⟩
   ·obtain⟨x1,N1,c1,c2,c3,c4⟩:=Gr.grow k33.wf (hx.mono fun c r _ hr=>k33.get kQ.wf hr (by simp)) b33 (by omega) (by simp[hhl];omega)
    refine⟨x1,N1,c1,c2,iE (kQ.trans0 k33) c3 hf,fun c hc=>?_⟩
    rcases c3.blk c hc with h1|h1
    ·have:=kQ.nxt
     have:=k33.nxt
     omega
    ·exact hf c h1
  refine aG a1 ?_
  have kM1:=k7M.trans0 a3
  have hv1:aI N1 v (l[j]).2:=aO.keep0 q3.1 hw kM1
  obtain⟨x2,N2,d1,d2,d3,_⟩:=Gr.grow kM1.wf a2 hv1 hbn.2 (by simp[hhl];omega)
  refine aG d1 ?_
  refine⟨l.length-(j+1),by omega,j+1,dE (by omega),rfl,hlt,iE a3 d3 a4,.inr ⟨?_,fun c hc=>?_⟩⟩
  ·rw[hso]
   simpa[List.append_assoc] using d2
  ·rcases d3.blk c hc with h1|h1
   ·have:=a3.nxt;omega
   ·exact a4 c h1
 ·have hj:j=l.length:=by
   have:¬ (j:Int)<(l.length:Int):=of_decide_eq_false hge
   omega
  subst hj
  rw[List.take_length] at hx
  rcases hx with⟨e,rfl⟩|⟨hx,hf⟩
  ·have e:l=[]:=List.eq_nil_of_length_eq_zero e
   subst e
   exact⟨aO.keep0 b7 k7.wf kQ,kQM,fun c hc=>by have:=hc.2;have:=k2.nxt;omega⟩
  ·exact⟨hx.at,kQM,fun c hc=>by have:=hf c hc;have:=k7M.nxt;omega⟩
end
theorem aN9{M:aC}{x:AV}{m:bZ}{k:Nat}(h:aI M x m)(hk:k≤m.length):evFirst 1 k x M=some (dH (m.take k)):=by
 rcases h.2 with⟨rfl,e⟩|⟨b,o,c,ex,rfl,h1,h2⟩
 ·have e1:m=[]:=List.eq_nil_of_length_eq_zero e
  subst e1
  have:k=0:=by simpa using hk
  subst this;rfl
 ·unfold evFirst
  simp only[ble_of hk,cond_true]
  by_cases h0:k=0
  ·subst h0;rfl
  ·rw[beq_ne h0,cond_false]
   rcases h2 with h2|⟨cs,rw',g1,g2,g3⟩
   ·omega
   ·unfold aC.cellsAt
    rw[g1]
    simp only[Nat.mul_one]
    rw[ble_of (by omega),cond_true]
    have:(cs.drop o).take k=((cs.drop o).take (m.length*1)).take k:=by
     rw[List.take_take]
     congr 1
     omega
    rw[this,g3]
    unfold dH
    rw[List.map_take]
theorem aKp{M:aC}{b n:Nat}{x:AV}{m:bZ}(hn:0<n)(hx:aI M x m)(hg:M.get b=some (.cells (dH (List.replicate n 0#8)) true)):
 ∃ (z:Int) (N:aC),hG tb 25 (.sl b 0 n n none) x M=some (i64 z,N)∧N.get b=some (.cells (dH (m.take n++List.replicate (n-m.length) 0#8)) true)∧(N=M∨∃ r,N=M.put b r):=by
 have hmin:Nat.min m.length n=min m.length n:=rfl
 have hev:hG tb 25 (.sl b 0 n n none) x M=cond (Nat.beq (min m.length n) 0) (some (.val (.int .i64 0),M)) ((M.storeAt b 0 (dH (m.take (min m.length n)))).map fun M'=>(.val (.int .i64 ((min m.length n:Nat):Int)),M')):=by
  unfold hG
  rw[gG]
  simp only[vK]
  have e1:evLen (.sl b 0 n n none)=some n:=rfl
  rw[e1,aO.evLen hx]
  simp only[hmin]
  rw[aN9 hx (Nat.min_le_left _ _)]
 rw[hev]
 by_cases h0:min m.length n=0
 ·have hm:m=[]:=List.eq_nil_of_length_eq_zero (by omega)
  subst hm
  refine⟨0,M,by rw[h0];rfl,?_,.inl rfl⟩
  rw[hg]
  simp
 ·rw[beq_ne h0,cond_false]
  have htk:m.take (min m.length n)=m.take n:=by
   by_cases h:m.length≤n
   ·rw[Nat.min_eq_left h,List.take_length,List.take_of_length_le h]
   ·rw[Nat.min_eq_right (by omega)]
  rw[htk]
  have hl:(m.take n).length=min n m.length:=List.length_take
  have hst:M.storeAt b 0 (dH (m.take n))=some (M.put b (.cells (dH (m.take n++List.replicate (n-m.length) 0#8)) true)):=by
   unfold aC.storeAt
   rw[hg]
   have hov:over (List.replicate n 0#8) 0 (m.take n)=m.take n++List.replicate (n-m.length) 0#8:=by
    unfold over
    rw[List.take_zero,List.nil_append,List.drop_replicate,hl]
    congr 2
    omega
   simp only[fM,List.length_replicate,Nat.zero_add,ble_of (show (m.take n).length≤n by omega),cond_true,rJ (tT _),rU (show 0+(m.take n).length≤(List.replicate n 0#8).length by simp;omega),hov]
  rw[hst]
  exact⟨_,_,rfl,by rw[aC.get_put,if_pos rfl],.inr ⟨_,rfl⟩⟩
theorem nK.growB{t e:TypeId}{te:TI}(ht:tb.ty.get t=some ⟨.sli e,1,24,[.slice none 0 0],none⟩)(he:tb.ty.get e=some te)(hs:te.size=1)(hbt:te.bytes≤100){M:aC}{x:AV}{l:List AV}(hw:M.WF)(h:nK M x l)(v:AV)(hv:v.one=true)(hb:l.length≤10000):
 ∃ x' N,aR tb t t x (.sl M.next 0 1 1 none) (M.new (.cells [v] true))=some (x',N)∧nK N x' (l++[v])∧eZ M N x x'∧∀ c,aN x' c→M.next≤c:=by
 have hw1:=hw.new (.cells [v] true)
 have hsl:aO 1 (M.new (.cells [v] true)) (.sl M.next 0 1 1 none) 1 [v]:=⟨rfl,.inr ⟨_,_,_,_,rfl,⟨Nat.le_refl _,.inl rfl⟩,.inr ⟨_,_,get_new _ _,by simp,by simp⟩⟩⟩
 have hroom:∀ n,n≤20000→(3*n+4096)*te.bytes≤281474976710656:=fun n hn=>by
  have:(3*n+4096)*te.bytes≤(3*20000+4096)*100:=Nat.mul_le_mul (by omega) hbt
  omega
 rcases h with⟨rfl,rfl⟩|⟨b,hg⟩
 ·obtain⟨N,h1,rfl⟩:=append_nil (T:=tb) (k:=1) ht rfl he hs hsl (by omega) ⟨hroom 1 (by omega),by omega⟩
  refine⟨_,_,h1,.inr ⟨M.next+1,rfl,by simp,by simp,?_⟩,⟨hw1.new _,by show M.next≤M.next+1+1;omega,fun c hc _=>?_,fun c hc=> .inl (by rw[← hc.2];exact Nat.le_succ _)⟩,fun c hc=>by rw[← hc.2];exact Nat.le_succ _⟩
  ·rw[List.nil_append,aC.get_new,if_pos (by rfl)]
  ·rw[aC.get_new,if_neg (by show c≠M.next+1;omega),aC.get_new,if_neg (by omega)]
 ·have hbM:=hw _ _ hg.2.2.2
  have hg1:oL 1 (M.new (.cells [v] true)) x l.length l b:=⟨hg.1,hg.2.1,hg.2.2.1,by rw[aC.get_new,if_neg (by omega)];exact hg.2.2.2⟩
  obtain⟨N,h1,rfl⟩:=iC (T:=tb) (k:=1) ht rfl he hs hg1 hsl (by omega) (fun u hu=>by rw[List.mem_singleton.1 hu];exact hv) ⟨hroom _ (by omega),by omega⟩
  refine⟨_,_,h1,.inr ⟨M.next+1,by simp,by simp,by simp,?_⟩,⟨(hw1.kill _).new _,by show M.next≤M.next+1+1;omega,fun c hc hn=>?_,fun c hc=> .inl (by rw[← hc.2];exact Nat.le_succ _)⟩,fun c hc=>by rw[← hc.2];exact Nat.le_succ _⟩
  ·rw[aC.get_new,if_pos (by rfl)]
  ·have hcb:c≠b:=fun he=>hn (by rw[he,hg.1];exact⟨by have:=hg.2.1;omega,rfl⟩)
   rw[aC.get_new,if_neg (by show c≠M.next+1;omega),aC.get_kill,if_neg hcb,aC.get_new,if_neg (by omega)]
theorem aMl:tb.ty.get 81=some ⟨.sli 25,1,24,[.slice none 0 0],none⟩:=by kernel_rfl
def ptA(b c:Nat):AV:= .sl c 0 b b none
theorem aRV(M:aC)(hw:M.WF)(g:eF)(hg:dV g=true)(a:AV)(d:bZ)(ha:aI M a d)(hd:d.length≤1048576)(hp:dC g.by'.toNat d.length≤200):
 aB tb.P 43 [fX g,a] M fun y N=>∃ bs:List Nat,bs.length=dC g.by'.toNat d.length∧nK N y (bs.map (ptA g.by'.toNat))∧(∀ (i:Nat) (h:i<bs.length),N.get bs[i]=some (.cells (dH (ctC g.by'.toNat d i)) true))∧aD M N []∧(∀ c∈bs,M.next≤c)∧∀ c,aN y c→M.next≤c:=by
 obtain⟨hb,hb1,hb2⟩:=kK hg
 refine aQd ?_
 unfold F43
 refine⟨_,_,_,_,_,rfl,?_⟩
 refine bE fun M7 hM7=>?_
 have hM7:M7=M.new (.cells (cW g) true):=hM7
 subst hM7
 obtain⟨k7,ld⟩:=aEU hw g
 refine aG (aS (ld _ (aD.refl k7.wf)).2) ?_
 refine⟨_,_,_,_,_,rfl,?_⟩
 have hal:∀ N,bD tb false 25 a N=some d.length:=fun N=>aO.len ha gG rfl
 refine aG (iO (hal _)) ?_
 simp only[aJ]
 refine (aCv _ k7.wf g hg d.length hd).mono ?_
 rintro _ M16 ⟨rfl,k16⟩
 simp only[i64,aJ]
 have kM:=k7.trans0 k16
 refine⟨fun x z n Q=>∃ (j:Nat) (bs:List Nat),z=j∧n=dC g.by'.toNat d.length-j∧j≤dC g.by'.toNat d.length∧bs.length=j∧nK Q x (bs.map (ptA g.by'.toNat))∧(∀ (i:Nat) (h:i<bs.length),Q.get bs[i]=some (.cells (dH (ctC g.by'.toNat d i)) true))∧aD M16 Q []∧(∀ c∈bs,M16.next≤c∧¬ aN x c)∧∀ c,aN x c→M16.next≤c,
  ⟨_,0,[],rfl,rfl,Nat.zero_le _,rfl,.inl ⟨rfl,rfl⟩,fun i h=>by simp at h,aD.refl kM.wf,fun c hc=>by simp at hc,fun c hc=>hc.elim⟩,?_⟩
 rintro _ x z n Q ⟨j,bs,rfl,rfl,hj,hbl,hx,hbs,kQ,hfb,hfx⟩
 refine aT (fun hlt=>?_) (fun hge=>?_)
 ·have hlt:j<dC g.by'.toNat d.length:=Int.ofNat_lt.1 (of_decide_eq_true hlt)
  have kQM:=kM.trans0 kQ
  refine aG (aS (ld _ (k16.trans0 kQ)).1) ?_
  simp only[i64,aJ]
  have hmk:=aCu (T:=tb) (M:=Q) gG rfl vK (l:=g.by'.toNat) (c:=g.by'.toNat) (by omega) (by simp only;omega) (by omega) (k1:= .i64) (k2:= .i64)
  have hz:repA g.by'.toNat (ofVs ([Value.int .u8 0]:List Value))=dH (List.replicate g.by'.toNat 0#8):=by
   simp only[ofVs,ofV,oD,dH,List.map_replicate]
   rfl
  rw[hz,show AV.val (.int .i64 ((g.by'.toNat:Nat):Int))=AV.val (.int .i64 g.by') from congrArg i64 hb.symm] at hmk
  refine aG hmk ?_
  have kn:aD Q (Q.new (.cells (dH (List.replicate g.by'.toNat 0#8)) true)) []:=aD.new kQ.wf _
  have gn:(Q.new (.cells (dH (List.replicate g.by'.toNat 0#8)) true)).get Q.next=some (.cells (dH (List.replicate g.by'.toNat 0#8)) true):=get_new _ _
  generalize Q.new (.cells (dH (List.replicate g.by'.toNat 0#8)) true)=Q1 at kn gn ⊢
  refine aG (aS (ld _ ((k16.trans0 kQ).trans0 kn)).1) ?_
  simp only[i64,aJ]
  refine aG (iO (hal _)) ?_
  simp only[aJ]
  obtain⟨lo,hlo⟩:∃ lo,lo=min (j*g.by'.toNat) d.length:=⟨_,rfl⟩
  have hjb:j*g.by'.toNat≤200*64:=Nat.mul_le_mul (by omega) hb2
  have hmn:yM tb #[3,3] 3 [.int .i64 (bT .i64 (j:Int) g.by'),.int .i64 (d.length:Int)] Q1=some (.val (.int .i64 (lo:Int)),Q1):=by
   have:yM tb #[3,3] 3 [.int .i64 (bT .i64 (j:Int) g.by'),.int .i64 (d.length:Int)] Q1=some (.val (.int .i64 (if (d.length:Int)<bT .i64 (j:Int) g.by' then (d.length:Int) else bT .i64 (j:Int) g.by')),Q1):=rfl
   have em:bT .i64 (j:Int) g.by'=((j*g.by'.toNat:Nat):Int):=by
    rw[hb,bT,Int.toNat_natCast,← Int.natCast_mul,aL (by omega) (by omega)]
   rw[this,em,hlo]
   congr 4
   split <;> omega
  refine aG hmn ?_
  simp only[aJ]
  have kQ1M:=kQM.trans0 kn
  have ha1:aI Q1 a d:=aO.keep0 ha hw kQ1M
  obtain⟨y33,s1,s2,_⟩:=aO.slice ha1 gG rfl vK rfl (lo:=some (.val (.int .i64 (lo:Int)))) (hi:=none) (l:=lo) (r:=d.length) (k1:= .i64) (k2:= .i64) (.inr rfl) (.inl ⟨rfl,rfl⟩) (by omega) (Nat.le_refl _)
  have hs2:aI Q1 y33 (d.drop lo):=by
   unfold aI
   have e1:(d.drop lo).length=d.length-lo:=List.length_drop
   rw[e1]
   have e2:dH (d.drop lo)=((dH d).drop (lo*1)).take ((d.length-lo)*1):=by
    unfold dH
    rw[List.map_drop,Nat.mul_one,Nat.mul_one,List.take_of_length_le (by simp)]
   rw[e2]
   exact s2
  refine aG (fH s1) ?_
  obtain⟨zc,Q2,c1,c2,c3⟩:=aKp (n:=g.by'.toNat) (by omega) hs2 gn
  refine aG c1 ?_
  simp only[i64,aJ]
  have hpg:(d.drop lo).take g.by'.toNat++List.replicate (g.by'.toNat-(d.drop lo).length) 0#8=ctC g.by'.toNat d j:=by
   unfold ctC
   rw[List.length_drop]
   by_cases h:j*g.by'.toNat≤d.length
   ·have:lo=j*g.by'.toNat:=by omega
    rw[this];rfl
   ·have:lo=d.length:=by omega
    rw[this,List.drop_length,List.drop_eq_nil_of_le (by omega)]
    have e1:g.by'.toNat-(d.length-d.length)=g.by'.toNat-(d.length-j*g.by'.toNat):=by omega
    rw[e1];rfl
  rw[hpg] at c2
  have hlt1:Q.next<Q1.next:=kn.wf _ _ gn
  have k2:aD Q Q2 []:=by
   rcases c3 with rfl|⟨r,rfl⟩
   ·exact kn
   ·exact xD kn (Nat.le_refl _) hlt1 _
  have hbu:iG tb 81 1 [(0,.sl Q.next 0 g.by'.toNat g.by'.toNat none)] Q2=some (.sl Q2.next 0 1 1 none,Q2.new (.cells [ptA g.by'.toNat Q.next] true)):=by
   unfold iG
   rw[aMl]
   simp only[gG]
   rfl
  refine aG hbu ?_
  have hx2:=hx.keep0 kQ.wf k2
  obtain⟨x',N,q1,q2,q3,q4⟩:=nK.growB aMl gG rfl (by decide) k2.wf hx2 (ptA g.by'.toNat Q.next) rfl (by rw[List.length_map];omega)
  refine aG q1 ?_
  have hQn:¬ aN x Q.next:=fun h=>by
   rcases hx with⟨rfl,_⟩|⟨b0,h1,_,_,h4⟩
   ·exact h.elim
   ·rw[h1] at h
    have:=kQ.wf _ _ h4
    have:=h.2
    omega
  refine⟨dC g.by'.toNat d.length-(j+1),by omega,j+1,bs++[Q.next],dE (by omega),rfl,hlt,by simp[hbl],by rw[List.map_append];exact q2,fun i hi=>?_,iE (kQ.trans0 k2) q3 hfx,fun c hc=>?_,fun c hc=>?_⟩
  ·have hi:i<bs.length+1:=by simpa using hi
   by_cases e:i=bs.length
   ·subst e
    rw[List.getElem_append_right (Nat.le_refl _)]
    simp only[Nat.sub_self,List.getElem_cons_zero]
    rw[q3.old _ (k2.nxt |> fun h=>by have:=k2.wf _ _ c2;exact this) hQn,c2,hbl]
   ·rw[List.getElem_append_left (by omega)]
    have hm:=List.getElem_mem (l:=bs) (n:=i) (by omega)
    have hg1:=hbs i (by omega)
    have hlt2:=kQ.wf _ _ hg1
    rw[q3.old _ (by have:=k2.nxt;omega) (hfb _ hm).2,k2.get kQ.wf hg1 (by simp)]
  ·rcases List.mem_append.1 hc with hc|hc
   ·refine⟨(hfb c hc).1,fun h=>?_⟩
    have h1:=q4 c h
    obtain⟨i,hi,rfl⟩:=List.getElem_of_mem hc
    have:=kQ.wf _ _ (hbs i hi)
    have:=k2.nxt
    omega
   ·rw[List.mem_singleton] at hc
    subst hc
    have h3:=k2.wf _ _ c2
    exact⟨kQ.nxt,fun h=>by have:=q4 _ h;omega⟩
  ·have:=q4 c hc
   have:=kQ.nxt
   have:=k2.nxt
   omega
 ·have hj:j=dC g.by'.toNat d.length:=by
   have:¬ (j:Int)<(dC g.by'.toNat d.length:Int):=of_decide_eq_false hge
   omega
  exact⟨bs,by omega,hx,hbs,kM.trans0 kQ,fun c hc=>Nat.le_trans kM.nxt (hfb c hc).1,fun c hc=>Nat.le_trans kM.nxt (hfx c hc)⟩
theorem aMw(M:aC)(x y:AV)(l m:bZ)(hx:aI M x l)(hy:aI M y m)(hl:l.length≤1000000)(hm:m.length≤1000000):aB tb.P 46 [x,y] M fun v N=>v= .val (.bool (decide (l=m)))∧N=M:=by
 refine aPs ?_
 unfold F46
 refine aG (iO hx.len) ?_
 simp only[aJ]
 refine aG (iO hy.len) ?_
 simp only[aJ]
 refine aT (fun hne=>?_) (fun heq=>?_)
 ·have hne:l.length≠m.length:=fun e=>by rw[e] at hne;simp at hne
  rw[decide_eq_false fun e=>hne (by rw[e])]
  exact⟨by trivial,by trivial⟩
 ·have heq:l.length=m.length:=by
   have h:((l.length:Nat):Int)=(m.length:Nat):=by simpa using heq
   omega
  refine aG (iO hx.len) ?_
  simp only[aJ]
  refine⟨fun z q P=>∃ i:Nat,z=i∧q=l.length-i∧i≤l.length∧P=M∧l.take i=m.take i,⟨l.length,0,rfl,rfl,Nat.zero_le _,rfl,rfl⟩,?_⟩
  rintro _ _ _ P ⟨i,rfl,rfl,hi,rfl,he⟩
  refine aT (fun hlt=>?_) (fun hge=>?_)
  ·have hlt:i<l.length:=Int.ofNat_lt.1 (of_decide_eq_true hlt)
   obtain⟨b1,o1,i1,l1⟩:=hx.at hlt
   obtain⟨b2,o2,i2,l2⟩:=hy.at (i:=i) (by omega)
   refine aG (bH i1) ?_
   simp only[bV]
   refine aG (bH i2) ?_
   simp only[bV]
   refine aG (aS l1) ?_
   simp only[rZ,aJ]
   refine aG (aS l2) ?_
   simp only[rZ,aJ]
   refine aT (fun hne=>?_) (fun h=>?_)
   ·have hne:(l[i]).toNat≠(m[i]'(by omega)).toNat:=fun e=>by rw[e] at hne;simp at hne
    rw[decide_eq_false fun e=>hne (by subst e;rfl)]
    exact⟨by trivial,by trivial⟩
   ·have h:(l[i]).toNat=(m[i]'(by omega)).toNat:=by
     have h:(((l[i]).toNat:Nat):Int)=((m[i]'(by omega)).toNat:Nat):=by simpa using h
     omega
    refine⟨l.length-(i+1),by omega,i+1,dE (by omega),rfl,hlt,by trivial,?_⟩
    rw[List.take_succ_eq_append_getElem hlt,List.take_succ_eq_append_getElem (by omega),he,BitVec.eq_of_toNat_eq h]
  ·have hi':i=l.length:=by
    have:¬ (i:Int)<(l.length:Int):=of_decide_eq_false hge
    omega
   subst hi'
   rw[List.take_length,heq,List.take_length] at he
   rw[decide_eq_true he]
   exact⟨by trivial,by trivial⟩
end Go.Proofs.YteaogiidncpofaaGreat
