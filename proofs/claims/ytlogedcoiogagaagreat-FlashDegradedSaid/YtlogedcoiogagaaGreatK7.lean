import Derived.Test.YtlogedcoiogagaaGreatA45
import Derived.Test.YtlogedcoiogagaaGreatB3
import Derived.Test.YtlogedcoiogagaaGreatK6
import Derived.Test.YtlogedcoiogagaaGreatQA
set_option linter.unusedSimpArgs false
set_option linter.unusedVariables false
set_option linter.unusedSectionVars false
set_option maxRecDepth 100000
namespace Go.Proofs.YtlogedcoiogagaaGreat
open Go.AM
structure LG (M0:aC) (g:eV) (n:Int) (A:bI) (M:aC) (S:Ps) (P:Int→Option (Option dE)) (B B':Int→Option dE):Prop where
 fn:FN A M S P B
 inv:eG S
 chip:dQ S B'
 deg:S.deg=true
 lost:S.g.sp<(cG S:Int)
 g:S.g=g
 neg:∀ p:Int,p<0→B' p=none
 ops:S.ops≤n
 ge:∀ c∈A.all,M0.next≤c
 nx:M0.next≤M.next
 low:∀ c,c<M0.next→M.get c=M0.get c
section
variable {M0:aC} {g:eV} {n:Int} {A:bI} {M:aC} {S:Ps} {P:Int→Option (Option dE)} {B B':Int→Option dE}
theorem LG.keep{N:aC}(h:LG M0 g n A M S P B B')(hk:aE M N []):LG M0 g n A N S P B B':=
 { h with fn:=h.fn.post hk,nx:=Nat.le_trans h.nx hk.nxt,low:=eY h.low h.nx (by simp) hk }
theorem aKg(h:LG M0 g n A M S P B B')(hn:n≤1000000000):aB tb.P 12 [.ptr A.p 0] M fun y N=>∃ A2 S2,y= .tup [.ptr A2.f 0,i64 0]∧LG M0 g (n+160) A2 N S2 xY B' B'∧A2.p=A.p∧A2.ft=A.ft∧S2.fs=S.fs∧aE M N A.ft∧∀ c∈A2.all,c∈A.ft∨M.next≤c:=by
 obtain⟨C,m,hr⟩:=h.fn.fr
 have hge:=h.inv.geo
 refine (aCE M hr.wf A.p C S hr.chip hr.rel h.inv (by have:=h.ops;omega) h.chip h.neg (T:=[]) (fun c hc=>by simp at hc)).mono ?_
 rintro y N ⟨A2,S2,rfl,hm⟩
 have hnp:nB S*nG S≤160:=by
  have:nB S*nG S≤20*8:=Nat.mul_le_mul (by omega) (by omega)
  omega
 obtain⟨x1,x2,x3,x4⟩:=hm.x
 have hlost:cG S2=cG S:=by
  unfold cG aF3 nB bC
  rw[x1,x2,x3]
 have hfo:foot A.p C=A.ft:=hr.foot
 have hin:∀ c∈A2.all,c∈A.ft∨M.next≤c:=fun c hc=>by
  have:=hm.new
  have:=hm.adr
  simp only[bI.all,List.mem_cons] at hc
  rcases hc with rfl|rfl|rfl|rfl|rfl|hc
  ·right;omega
  ·right;omega
  ·right;omega
  ·right;omega
  ·right;omega
  ·left;rw[← hfo,← hm.ft];exact hc
 have hge':∀ c∈A.ft,M0.next≤c:=fun c hc=>h.ge c (by simp[bI.all,hc])
 have hk:aE M N A.ft:=by rw[← hfo];exact hm.keep
 obtain⟨C',m',hr'⟩:=hm.fr
 refine⟨A2,S2,rfl,⟨⟨⟨C',m',hr'⟩,⟨_,hm.pend⟩,hm.base⟩,hr'.inv,?_,?_,by rw[hlost,x2];exact h.lost,by rw[x2];exact h.g,h.neg,?_,fun c hc=>?_,Nat.le_trans h.nx hk.nxt,eY h.low h.nx hge' hk⟩,hm.ap,by rw[hm.ft,hfo],x3,hk,hin⟩
 ·have h0:dQ { S with now:=0 } B':=h.chip.now 0
  refine h0.same ⟨?_,x4,fun c k p e d=>?_⟩
  ·unfold bJ fds;rw[x1]
  ·have hS:S2={ { S with now:=0 } with seq:=S2.seq,ep:=S2.ep,deg:=S2.deg,ops:=S2.ops }:=by
    clear hm hr'
    cases S2
    cases S
    simp only at x1 x2 x3 x4
    subst x1 x2 x3 x4
    rfl
   rw[hS]
   exact Iff.rfl
 ·rw[hm.deg]
  have:=h.lost
  have h1:¬ (cG S:Int)≤S.g.sp:=by omega
  simp[h1]
 ·have h1:=hm.ops.2
  have h2:=h.ops
  have h3:(nB S:Int)*nG S≤160:=by exact_mod_cast hnp
  omega
 ·rcases hin c hc with hc|hc
  ·exact hge' c hc
  ·have:=h.nx;omega
theorem aH2{k:Int}(h:LF M0 g k n A M S P B)(hn:n≤900000000)(hk:k≤16777214):
 aB tb.P 17 [.ptr A.f 0] M fun y N=>aE M N A.all∧((y=i64 0∧∃ S',LF M0 g (k+1) (n+31000) A N S' xY (fD P B)∧S'.fs=S.fs)∨
  (y=i64 12∧∃ S' P' B0 B',(P'=P∧B0=B∨P'=xY∧B0=fD P B)∧(B'=B∨B'=fD P B)∧LG M0 g (n+31000) A N S' P' B0 B'∧S'.fs=S.fs)):=by
 have hge:=h.q.inv.geo
 have hK0:dL S=9*(nB S+1)+1:=rfl
 have hops:=h.ops
 have hep:=h.ep
 refine (aFZ h.fm h.hext h.q h.pend h.deg (by omega) (by omega)).mono ?_
 rintro y N ⟨h1,h2⟩
 by_cases hP:∀ n,P n=none
 ·obtain⟨rfl,hf,hk'⟩:=h1 hP
  have e:P=xY:=funext hP
  subst e
  exact⟨hk'.mono fun c hc _=>bI.mw_all c hc,.inl ⟨rfl,S,{ h with fm:=hf,ops:=by omega,ep:=by omega,ext:=fun c hc=>Nat.lt_of_lt_of_le (h.ext c hc) hk'.nxt,nx:=Nat.le_trans h.nx hk'.nxt,low:=eY h.low h.nx (fun c hc=>h.ge c (bI.mw_all c hc)) hk' },rfl⟩⟩
 ·obtain⟨rfl,hk',h3,h4⟩:=h2 hP
  have hfl:=aD2 (P:=P) (B:=B) h.q h.base h.pend (by omega) (by omega)
  obtain⟨e1,e2⟩:=hfl.env
  have hneg:∀ p:Int,p<0→fD P B p=none:=fun p hp=>by
   unfold fD
   cases hPp:P p with
   | none=>exact h.neg p hp
   | some x=>have:=(h.pend.rng p x hPp).1;omega
  have hob:(fQ S (gV P B (eZ S.g))).1.ops≤n+31000:=by
   have ho:=hfl.ops.2
   have hnp:nB S*nG S+1≤161:=by
    have:nB S*nG S≤20*8:=Nat.mul_le_mul (by omega) (by omega)
    omega
   have:dL S*((nB S*nG S+1:Nat):Int)≤190*161:=by
    refine Int.mul_le_mul (by omega) (by omega) (by omega) (by omega)
   generalize dL S*((nB S*nG S+1:Nat):Int)=X at ho this
   omega
  refine⟨hk'.mono fun c hc _=>bI.mw_all c hc,?_⟩
  rcases hfl.code with⟨c0,hq,hd,he,hb⟩|⟨c12,hd,hlo,hb⟩
  ·left
   exact⟨by rw[c0],_,⟨h3 c0,hq,hb,⟨fun n x hx=>(by cases hx),fun n d hx=>(by cases hx)⟩,hneg,by rw[hd];exact h.deg,by rw[e1];exact h.g,hob,by omega,(fun c hc=>Nat.lt_of_lt_of_le (h.ext c hc) hk'.nxt),h.ge,Nat.le_trans h.nx hk'.nxt,eY h.low h.nx (fun c hc=>h.ge c (bI.mw_all c hc)) hk'⟩,e2⟩
  ·right
   have hlow:=eY h.low h.nx (fun c hc=>h.ge c (bI.mw_all c hc)) hk'
   have hlo':(fQ S (gV P B (eZ S.g))).1.g.sp<(cG (fQ S (gV P B (eZ S.g))).1:Int):=by rw[e1];exact hlo
   have mk:∀ P' B0 B',FM A N (fQ S (gV P B (eZ S.g))).1 P' B0→dQ (fQ S (gV P B (eZ S.g))).1 B'→(∀ p:Int,p<0→B' p=none)→LG M0 g (n+31000) A N (fQ S (gV P B (eZ S.g))).1 P' B0 B':=fun P' B0 B' hf hB hN=>
    ⟨hf.tell,hfl.inv,hB,hd,hlo',by rw[e1];exact h.g,hN,hob,h.ge,Nat.le_trans h.nx hk'.nxt,hlow⟩
   refine⟨by rw[c12],(fQ S (gV P B (eZ S.g))).1,?_⟩
   rcases h4 (by rw[c12];decide) with hf|hf <;> rcases hb with hb|hb
   ·exact⟨P,B,B,.inl ⟨rfl,rfl⟩,.inl rfl,mk _ _ _ hf hb h.neg,e2⟩
   ·exact⟨P,B,fD P B,.inl ⟨rfl,rfl⟩,.inr rfl,mk _ _ _ hf hb hneg,e2⟩
   ·exact⟨xY,fD P B,B,.inr ⟨rfl,rfl⟩,.inl rfl,mk _ _ _ hf hb h.neg,e2⟩
   ·exact⟨xY,fD P B,fD P B,.inr ⟨rfl,rfl⟩,.inr rfl,mk _ _ _ hf hb hneg,e2⟩
theorem LG.may(h:LG M0 g n A M S P B B'):fU g=true:=by rw[← h.g];exact h.inv.may
theorem aJS(h:LG M0 g n A M S P B B'){z:Int}(hz:0≤z∧z<dK g){w:AV}{d:dE}(hw:aL M w d)(hd:(d.length:Int)=g.by'):aB tb.P 15 [.ptr A.f 0,i64 z,w] M fun y N=>y=i64 13∧LG M0 g n A N S P B B'∧aE M N []:=
 (aIP h.fn h.deg (z:=z) (by rw[h.g];exact hz) hw (by rw[h.g];exact hd)).mono fun y N ⟨h1,h2⟩=>⟨h1,h.keep h2,h2⟩
theorem aJi(h:LG M0 g n A M S P B B'):aB tb.P 17 [.ptr A.f 0] M fun y N=>y=i64 13∧N=M:=aKc h.fn h.deg
theorem aF0(h:LG M0 g n A M S P B B'){z:Int}(hz:0≤z∧z<dK g)(hlen:∀ d,fD P B z=some d→0<d.length∧d.length≤1000):
 aB tb.P 30 [.ptr A.f 0,i64 z] M fun y N=>LG M0 g n A N S P B B'∧aE M N []∧((fD P B z=none∧y= .tup [eR,i64 4])∨∃ x d,fD P B z=some d∧y= .tup [x,i64 0]∧Gr N x d∧∀ c,aO x c→M.next≤c):=
 (aMK h.fn (z:=z) (by rw[h.g];exact hz) hlen).mono fun y N ⟨hk,h2⟩=>⟨h.keep hk,hk,h2⟩
theorem aD0(h:LG M0 g n A M S P B B'):aB tb.P 29 [.ptr A.f 0] M fun y N=>LG M0 g n A N S P B B'∧dB N y (xA (fD P B) (dK g).toNat)∧aE M N []∧∀ c,aO y c→M.next≤c:=by
 refine (aJN h.fn).mono fun y N ⟨h1,h2,h3⟩=>⟨h.keep h2,?_,h2,h3⟩
 rw[h.g] at h1
 exact h1.ints
theorem qN(h:LG M0 g n A M S P B B'):aB tb.P 21 [.ptr A.f 0] M fun y N=>y= .val (.bool true)∧N=M:=by
 refine aFI ?_
 unfold F21
 refine bG fun K hK=>?_
 refine aG aAT ?_
 simp only[cK,gU]
 refine aG cZ ?_
 refine aG xM ?_
 rw[bR]
 refine aG h.fn.ldg ?_
 simp only[cK]
 rw[hK,h.deg]
 exact⟨rfl,rfl⟩
theorem aPc{fs:List jK}{M1:aC}{p:Nat}{fsA:AV}{bb:Nat}{bs:List uZ}(hg:fU g=true)(hl:g.sp<(cG (dY g fs):Int))(hk:aE M0 M1 [])(hc:bE M1 p (gO g fsA fs bb bs))(hb:aEi g bs)(hf:∀ c∈foot p (gO g fsA fs bb bs),M0.next≤c):
 aB tb.P 12 [.ptr p 0] M1 fun y N=>∃ A2 S2,y= .tup [.ptr A2.f 0,i64 0]∧LG M0 g 160 A2 N S2 xY (fun _=>none) (fun _=>none)∧A2.p=p∧S2.fs=fs∧∀ c∈A2.all,c<N.next:=by
 have hi:=aGD hg fs
 have hge:=hi.geo
 refine (aCE M1 hk.wf p _ (dY g fs) hc (aGL hb hc.len) hi (by show (0:Int)≤_;omega) (aAJ g fs) (fun _ _=>rfl) (T:=[]) (fun c hc=>by simp at hc)).mono ?_
 rintro y N ⟨A2,S2,rfl,hm⟩
 have hnp:nB (dY g fs)*nG (dY g fs)≤160:=by
  have:nB (dY g fs)*nG (dY g fs)≤20*8:=Nat.mul_le_mul (by omega) (by omega)
  omega
 obtain⟨x1,x2,x3,x4⟩:=hm.x
 have hlost:cG S2=cG (dY g fs):=by
  unfold cG aF3 nB bC
  rw[x1,x2,x3]
 obtain⟨C',m',hr'⟩:=hm.fr
 have hlt:∀ c∈A2.all,c<N.next:=fun c hc=>by
  obtain⟨bm,hbm⟩:=hm.base
  obtain⟨es,hes,_⟩:=hm.stale
  simp only[bI.all,List.mem_cons] at hc
  rcases hc with rfl|rfl|rfl|rfl|rfl|hc
  ·exact hr'.wf _ _ hr'.fl
  ·exact hr'.wf _ _ hr'.mf
  ·exact hr'.wf _ _ hbm.get
  ·exact hr'.wf _ _ hm.pend.get
  ·exact hr'.wf _ _ hes
  ·exact hr'.lt c (by simp[bI.wr,hc])
 refine⟨A2,S2,rfl,⟨⟨⟨C',m',hr'⟩,⟨_,hm.pend⟩,hm.base⟩,hr'.inv,?_,?_,by rw[hlost,x2];exact hl,x2,fun _ _=>rfl,?_,fun c hc'=>?_,Nat.le_trans hk.nxt hm.keep.nxt,eY (fun c hc=>hk.old c hc (by simp)) hk.nxt hf hm.keep⟩,hm.ap,x3,hlt⟩
 ·refine (aAJ g fs).same ⟨?_,x4,fun c k p e d=>?_⟩
  ·unfold bJ fds;rw[x1]
  ·have hS:S2={ dY g fs with seq:=S2.seq,ep:=S2.ep,deg:=S2.deg,ops:=S2.ops }:=by
    clear hm hr'
    cases S2
    simp only[dY] at x1 x2 x3 x4 ⊢
    subst x1 x2 x3 x4
    rfl
   rw[hS]
   exact Iff.rfl
 ·rw[hm.deg]
  have h1:¬ (cG (dY g fs):Int)≤(dY g fs).g.sp:=by show ¬ (_:Int)≤g.sp;omega
  simp[h1]
 ·have h1:=hm.ops.2
  have h2:(dY g fs).ops=0:=rfl
  have h3:(nB (dY g fs):Int)*nG (dY g fs)≤160:=by exact_mod_cast hnp
  omega
 ·have:=hm.new
  have:=hm.adr
  have:=hk.nxt
  simp only[bI.all,List.mem_cons] at hc'
  rcases hc' with rfl|rfl|rfl|rfl|rfl|hc'
  ·omega
  ·omega
  ·omega
  ·omega
  ·omega
  ·rw[hm.ft] at hc';exact hf c hc'
theorem yS(h:LG M0 g n A M S P B B'){a:AV}{l:List Int}(ha:dB M a l)(hT:pD g l (fD P B)):
 aB tb.P 18 [.ptr A.f 0,a,i64 g.by'] M fun y N=>y= .val (.bool true)∧LG M0 g n A N S P B B'∧aE M N []:=by
 have hm:=bL.1 h.may
 obtain⟨hlg,hlg2⟩:=lD h.may
 have hlg3:(g.bl-g.sp-3)*g.pg≤20*8:=Int.mul_le_mul (by omega) (by omega) (by omega) (by omega)
 obtain⟨hT1,hT2⟩:=hT
 refine aFl ?_
 unfold F18
 simp only[i64,aJ]
 refine (aD0 h).mono ?_
 rintro y2 M3 ⟨hF3,hy2,hk3,_⟩
 have ha3:=ha.keep h.fn.wf hk3
 refine (wM M3 hF3.fn.wf a l ha3 (by omega)).mono ?_
 rintro y4 M5 ⟨hy4,hk5,_⟩
 have hF5:=hF3.keep hk5
 refine (oS M5 _ _ _ _ (hy2.keep hF3.fn.wf hk5) hy4 (by have:=rF (fD P B) (dK g).toNat;omega)).mono ?_
 rintro _ _ ⟨rfl,rfl⟩
 have e:xA (fD P B) (dK g).toNat=xA (fL l) l.length:=by
  rw[hT1]
  refine aEj fun i hi=>?_
  have hi':i<l.length:=by omega
  rw[hT2 i hi']
  unfold fL
  rw[Int.toNat_natCast,List.getD_eq_getElem?_getD,List.getElem?_eq_getElem hi',Option.getD_some]
  by_cases hn:l[i]<0
  ·rw[if_pos hn,if_neg (by omega)]
  ·rw[if_neg hn,if_pos (by omega)];rfl
 simp only[cK,e,decide_true,Bool.not_true,gE]
 have hkM:=hk3.trans0 hk5
 have ha5:=ha.keep h.fn.wf hkM
 refine⟨fun z q Q=>∃ i:Nat,z=i∧q=l.length-i∧i≤l.length∧LG M0 g n A Q S P B B'∧aE M Q [],⟨l.length,0,rfl,rfl,Nat.zero_le _,hF5,hkM⟩,?_⟩
 clear hF5 hkM ha5 hy4 hk5 hk3 hF3 ha3 hy2
 rintro _ _ _ Q ⟨i,rfl,rfl,hi,hF,hk⟩
 have haQ:=ha.keep h.fn.wf hk
 refine aG (lF haQ.len) ?_
 simp only[aJ]
 refine aS (fun hlt=>?_) (fun hge=>?_)
 ·have hlt:i<l.length:=Int.ofNat_lt.1 (of_decide_eq_true hlt)
  refine (aF0 hF (z:=(i:Int)) (by omega) (fun d hd=>by
   have hTi:=hT2 i hlt
   rw[hd] at hTi
   by_cases hq:l[i]<0
   ·rw[if_pos hq] at hTi;cases hTi
   ·rw[if_neg hq] at hTi
    injection hTi with hTi
    rw[hTi];unfold aC3;rw[iH];omega)).mono ?_
  rintro y16 M17 ⟨hF17,hk17,hr⟩
  have hk':=hk.trans0 hk17
  have ha17:=ha.keep h.fn.wf hk'
  obtain⟨b,o,h1,h2⟩:=ha17.at hlt
  have hTi:=hT2 i hlt
  rcases hr with⟨hn,rfl⟩|⟨x,d,hd,rfl,hgr,hfr⟩
  ·rw[hn] at hTi
   have hneg:l[i]<0:=Decidable.byContradiction fun hh=>by rw[if_neg hh] at hTi;cases hTi
   refine⟨_,_,rfl,?_⟩
   refine bG fun K hK=>?_
   refine aG (aX h1) ?_
   simp only[bR]
   refine aG (aR h2) ?_
   simp only[i64,aJ]
   refine aS (fun _=>?_) fun hh=>absurd hneg (of_decide_eq_false hh)
   refine aS (fun hh=>absurd hh (by decide)) fun _=>?_
   have hln:bP tb false 37 eR M17=some 0:=(aP.nil (k:=1) (M:=M17)).len kR rfl
   refine aG (lF hln) ?_
   simp only[aJ]
   refine aS (fun hh=>absurd hh (by decide)) fun _=>?_
   refine aG (aX h1) ?_
   simp only[bR]
   refine aG (aR h2) ?_
   simp only[i64,aJ]
   refine aS (fun hh=>absurd (of_decide_eq_true hh) (by omega)) fun _=>?_
   rw[hK]
   exact⟨l.length-(i+1),by omega,i+1,dM (by omega),rfl,hlt,hF17,hk'⟩
  ·rw[hd] at hTi
   have hneg:¬ l[i]<0:=fun hh=>by rw[if_pos hh] at hTi;cases hTi
   rw[if_neg hneg] at hTi
   injection hTi with hTi
   subst hTi
   refine⟨_,_,rfl,?_⟩
   refine bG fun K hK=>?_
   refine aG (aX h1) ?_
   simp only[bR]
   refine aG (aR h2) ?_
   simp only[i64,aJ]
   refine aS (fun hh=>absurd (of_decide_eq_true hh) hneg) fun _=>?_
   refine aG (aX h1) ?_
   simp only[bR]
   refine aG (aR h2) ?_
   simp only[i64,aJ]
   refine aS (fun _=>?_) fun hh=>absurd (of_decide_eq_false hh) (by omega)
   refine aS (fun hh=>absurd hh (by decide)) fun _=>?_
   refine aG (aX h1) ?_
   simp only[bR]
   refine aG (aR h2) ?_
   simp only[i64,aJ]
   rw[show AV.val (.int .i64 g.by')=i64 ((g.by'.toNat:Nat):Int) from congrArg i64 (by omega)]
   refine (vY M17 hF17.fn.wf (IntKind.wrap .u8 l[i]) g.by'.toNat (by omega) (by omega)).mono ?_
   rintro y37 M38 ⟨hk38,hy,_⟩
   have hF5:=hF17.keep hk38
   refine (oV M38 _ _ _ _ (hgr.at.keep0 hF17.fn.wf hk38) hy (by unfold aC3;rw[iH];omega)).mono ?_
   rintro _ _ ⟨rfl,rfl⟩
   have e2:decide (aC3 l[i] g.by'.toNat=nW (IntKind.wrap .u8 l[i]) g.by'.toNat)=true:=decide_eq_true rfl
   simp only[cK,e2,Bool.not_true]
   rw[hK]
   exact⟨l.length-(i+1),by omega,i+1,dM (by omega),rfl,hlt,hF5,hk'.trans0 hk38⟩
 ·exact⟨by trivial,hF,hk⟩
theorem FN.aside(h:FN A M S P B){T:List Nat}(hT:∀ c∈T,M.next≤c):FN { A with ext:=T++A.ext } M S P B:=by
 obtain⟨C,m,hr⟩:=h.fr
 obtain⟨pm,hp⟩:=h.pend
 obtain⟨bm,hb⟩:=h.base
 exact⟨⟨C,m,hr.aside hT⟩,⟨pm,hp.aside h.wf hT⟩,⟨bm,hb.aside h.wf hT⟩⟩
theorem FN.keepX{N:aC}{T:List Nat}(h:FN A M S P B)(hk:aE M N T)(hT:∀ c∈T,c∈A.ext∧c∉A.all):FN A N S P B:=by
 obtain⟨C,m,hr⟩:=h.fr
 obtain⟨pm,hp⟩:=h.pend
 obtain⟨bm,hb⟩:=h.base
 have hw:∀ c∈T,c∉A.wr:=fun c hc hm=>(hT c hc).2 (by
  simp only[bI.wr,bI.all,List.mem_cons] at hm ⊢
  rcases hm with hm|hm|hm
  ·exact .inl hm
  ·exact .inr (.inl hm)
  ·exact .inr (.inr (.inr (.inr (.inr hm)))))
 have hv:∀ c∈T,c∈A.av:=fun c hc=>by simp only[bI.av,List.mem_append];exact .inr (hT c hc).1
 have ha:A.mp∉T∧A.mb∉T∧A.ms∉T:=⟨fun e=>(hT _ e).2 (by simp[bI.all]),fun e=>(hT _ e).2 (by simp[bI.all]),fun e=>(hT _ e).2 (by simp[bI.all])⟩
 exact⟨⟨C,m,hr.keepX hk fun c hc=>⟨(hT c hc).1,hw c hc⟩⟩,⟨pm,hp.keep h.wf hk ha.1 hv⟩,⟨bm,hb.keep h.wf hk ha.2.1 hv⟩⟩
theorem LG.aside{N:aC}(h:LG M0 g n A M S P B B')(hk:aE M N []){T:List Nat}(hT:∀ c∈T,M.next≤c):LG M0 g n { A with ext:=T++A.ext } N S P B B':=
 { (h.keep hk) with fn:=(h.fn.aside hT).post hk,ge:=h.ge }
theorem LG.beside{N:aC}{b:Nat}(h:LG M0 g n A M S P B B')(hk:aE M N [b])(hb:b∉A.all)(he:b∈A.ext)(hg:M0.next≤b):LG M0 g n A N S P B B':=
 { h with fn:=h.fn.keepX hk (fun c hc=>by rw[List.mem_singleton] at hc;subst hc;exact⟨he,hb⟩),nx:=Nat.le_trans h.nx hk.nxt,low:=eY h.low h.nx (fun c hc=>by rw[List.mem_singleton] at hc;omega) hk }
theorem LG.keepM(h:LG M0 g n A M S P B B'):aE M0 M []:=⟨h.fn.wf,h.nx,fun b hb _=>h.low b hb⟩
theorem aQq{f:Nat}{N:aC}{b:Bool}(hd:aH tb 4 (.ptr f 13) N=some (.val (.bool b),N)):aB tb.P 21 [.ptr f 0] N fun y N'=>y= .val (.bool b)∧N'=N:=by
 refine aFI ?_
 unfold F21
 refine bG fun K hK=>?_
 refine aG aAT ?_
 simp only[cK,gU]
 refine aG cZ ?_
 refine aG xM ?_
 rw[bR]
 refine aG hd ?_
 simp only[cK]
 rw[hK]
 exact⟨rfl,rfl⟩
theorem aKu(h:LG M0 g n A M S P B B'){a:AV}{l:List Int}(ha:dB M a l){l0:List Int}(hT0:pD g l0 (fD P B))(hl0:l.length=(dK g).toNat):
 aB tb.P 18 [.ptr A.f 0,a,i64 g.by'] M fun y N=>∃ b,y= .val (.bool b)∧LG M0 g n A N S P B B'∧aE M N []:=by
 have hm:=bL.1 h.may
 obtain⟨hlg,hlg2⟩:=lD h.may
 have hlg3:(g.bl-g.sp-3)*g.pg≤20*8:=Int.mul_le_mul (by omega) (by omega) (by omega) (by omega)
 obtain⟨hT1,hT2⟩:=hT0
 have hlen:∀ i:Nat,i<l.length→∀ d,fD P B (i:Int)=some d→0<d.length∧d.length≤1000:=fun i hi d hd=>by
  have hTi:=hT2 i (by omega)
  rw[hd] at hTi
  by_cases hq:l0[i]<0
  ·rw[if_pos hq] at hTi;cases hTi
  ·rw[if_neg hq] at hTi
   injection hTi with hTi
   rw[hTi];unfold aC3;rw[iH];omega
 refine aFl ?_
 unfold F18
 simp only[i64,aJ]
 refine (aD0 h).mono ?_
 rintro y2 M3 ⟨hF3,hy2,hk3,_⟩
 have ha3:=ha.keep h.fn.wf hk3
 refine (wM M3 hF3.fn.wf a l ha3 (by omega)).mono ?_
 rintro y4 M5 ⟨hy4,hk5,_⟩
 have hF5:=hF3.keep hk5
 refine (oS M5 _ _ _ _ (hy2.keep hF3.fn.wf hk5) hy4 (by have:=rF (fD P B) (dK g).toNat;omega)).mono ?_
 rintro _ _ ⟨rfl,rfl⟩
 have hkM:=hk3.trans0 hk5
 simp only[cK]
 refine aS (fun _=>⟨false,rfl,hF5,hkM⟩) fun _=>?_
 refine⟨fun z q Q=>∃ i:Nat,z=i∧q=l.length-i∧i≤l.length∧LG M0 g n A Q S P B B'∧aE M Q [],⟨l.length,0,rfl,rfl,Nat.zero_le _,hF5,hkM⟩,?_⟩
 clear hF5 hkM hy4 hk5 hk3 hF3 ha3 hy2
 rintro _ _ _ Q ⟨i,rfl,rfl,hi,hF,hk⟩
 have haQ:=ha.keep h.fn.wf hk
 refine aG (lF haQ.len) ?_
 simp only[aJ]
 refine aS (fun hlt=>?_) (fun hge=>⟨true,rfl,hF,hk⟩)
 have hlt:i<l.length:=Int.ofNat_lt.1 (of_decide_eq_true hlt)
 refine (aF0 hF (z:=(i:Int)) (by omega) (hlen i hlt)).mono ?_
 rintro y16 M17 ⟨hF17,hk17,hr⟩
 have hk':=hk.trans0 hk17
 have ha17:=ha.keep h.fn.wf hk'
 obtain⟨b,o,h1,h2⟩:=ha17.at hlt
 rcases hr with⟨hn,rfl⟩|⟨x,d,hd,rfl,hgr,hfr⟩
 ·refine⟨_,_,rfl,?_⟩
  refine bG fun K hK=>?_
  have no:K true M17:=by rw[hK];exact⟨false,rfl,hF17,hk'⟩
  have yes:K false M17:=by rw[hK];exact⟨l.length-(i+1),by omega,i+1,dM (by omega),rfl,hlt,hF17,hk'⟩
  refine aG (aX h1) ?_
  simp only[bR]
  refine aG (aR h2) ?_
  simp only[i64,aJ]
  refine aS (fun hneg=>?_) fun hneg=>?_
  ·refine aS (fun _=>no) fun _=>?_
   have hln:bP tb false 37 eR M17=some 0:=(aP.nil (k:=1) (M:=M17)).len kR rfl
   refine aG (lF hln) ?_
   simp only[aJ]
   refine aS (fun _=>no) fun _=>?_
   refine aG (aX h1) ?_
   simp only[bR]
   refine aG (aR h2) ?_
   simp only[i64,aJ]
   exact aS (fun hh=>absurd (of_decide_eq_true hh) (by have:=of_decide_eq_true hneg;omega)) fun _=>yes
  ·refine aG (aX h1) ?_
   simp only[bR]
   refine aG (aR h2) ?_
   simp only[i64,aJ]
   refine aS (fun _=>?_) fun _=>yes
   exact aS (fun _=>no) fun hh=>absurd hh (by decide)
 ·refine⟨_,_,rfl,?_⟩
  refine bG fun K hK=>?_
  have no:∀ N,LG M0 g n A N S P B B'→aE M N []→K true N:=fun N q1 q2=>by rw[hK];exact⟨false,rfl,q1,q2⟩
  have yes:∀ N,LG M0 g n A N S P B B'→aE M N []→K false N:=fun N q1 q2=>by rw[hK];exact⟨l.length-(i+1),by omega,i+1,dM (by omega),rfl,hlt,q1,q2⟩
  refine aG (aX h1) ?_
  simp only[bR]
  refine aG (aR h2) ?_
  simp only[i64,aJ]
  refine aS (fun _=>?_) fun hneg=>?_
  ·exact aS (fun _=>no _ hF17 hk') fun hh=>absurd hh (by decide)
  ·refine aG (aX h1) ?_
   simp only[bR]
   refine aG (aR h2) ?_
   simp only[i64,aJ]
   refine aS (fun _=>?_) fun _=>yes _ hF17 hk'
   refine aS (fun _=>no _ hF17 hk') fun _=>?_
   refine aG (aX h1) ?_
   simp only[bR]
   refine aG (aR h2) ?_
   simp only[i64,aJ]
   rw[show AV.val (.int .i64 g.by')=i64 ((g.by'.toNat:Nat):Int) from congrArg i64 (by omega)]
   refine (vY M17 hF17.fn.wf (IntKind.wrap .u8 l[i]) g.by'.toNat (by omega) (by omega)).mono ?_
   rintro y37 M38 ⟨hk38,hy,_⟩
   have hF5:=hF17.keep hk38
   have hd1:=hlen i hlt d hd
   refine (oV M38 _ _ _ _ (hgr.at.keep0 hF17.fn.wf hk38) hy (by omega)).mono ?_
   rintro _ _ ⟨rfl,rfl⟩
   simp only[cK]
   cases e:(!decide (d=nW (IntKind.wrap .u8 l[i]) g.by'.toNat)) with
   | true=>exact no _ hF5 (hk'.trans0 hk38)
   | false=>exact yes _ hF5 (hk'.trans0 hk38)
end
theorem aHh(M:aC)(a:AV)(l:List Int)(ha:dB M a l)(h0:0<l.length)(hl:l.length≤1000):aB tb.P 34 [a] M fun y N=>y= .sl M.next 0 l.length l.length (some 1)∧N=M.new (.cells (l.map i64) true):=by
 refine aNF ?_
 unfold F34
 obtain⟨N,h1,rfl⟩:=append_nil (T:=tb) (k:=1) lY rfl dR rfl ha h0 ⟨by simp only;omega,by omega⟩
 exact aG h1 ⟨rfl,rfl⟩
set_option maxRecDepth 100000
def F8(a0 a1 a2 a3:AV)(M:aC)(Q:AV→aC→Prop):Prop:=∃ J K L N O:Int,a0=(.agg [J,K,L,N,O])∧∃ R S T U V:Int,a1=(.agg [R,S,T,U,V])∧aI (M.new (.cells [J,K,L,N,O] true)) fun f=>aI (f.new (.cells [R,S,T,U,V] true)) fun m=>aI (fun (X0:Bool) (r:aC)=>aD (X0) (aB tb.P 10 [] r fun Y0 Z0=>zB Y0 fun c1=>Q c1 Z0) (aA (aH tb 23 (.ptr M.next 0) r) fun d1=>∃ W X Y Z c0:Int,d1.1=(.agg [W,X,Y,Z,c0])∧(aB tb.P 11 [(.agg [W,X,Y,Z,c0]),a2] r fun e1 f1=>aB tb.P 12 [e1] f1 fun g1 d0=>∃ (g:AV) (e0:Int),g1=(.tup [g,e0])∧(aA (aH tb 23 (.ptr f.next 0) d0) fun h1=>∃ f0 g0 h0 j0 l0:Int,h1.1=(.agg [f0,g0,h0,j0,l0])∧(aB tb.P 11 [(.agg [f0,g0,h0,j0,l0]),(.val (.slice none 0 0))] d0 fun j1 l1=>aB tb.P 12 [j1] l1 fun m1 i=>∃ (h:AV) (m0:Int),m1=(.tup [h,m0])∧(aI (fun (n1:Bool)=>aD (n1) (Q false i) (aA (aH tb 23 (.ptr M.next 0) i) fun o1=>∃ n0 o0 r0 t0 u0:Int,o1.1=(.agg [n0,o0,r0,t0,u0])∧(aA (aH tb 23 (.ptr f.next 0) i) fun r1=>∃ s t u v w:Int,r1.1=(.agg [s,t,u,v,w])∧(aB tb.P 13 [(.agg [n0,o0,r0,t0,u0])] i fun t1 v0=>zI .i64 t1 fun u1=>(aA (aH tb 23 (.ptr f.next 0) v0) fun v1=>(some (.agg [s,t,u,v,w]):Option AV)=some v1.1)∧(aB tb.P 13 [(.agg [s,t,u,v,w])] v0 fun w1 w0=>zI .i64 w1 fun x1=>aA (aEO tb #[3,3] 3 [.int .i64 u1,.int .i64 x1] w0) fun y1=>zI .i64 y1.1 fun A1=>∃ x:Int→Nat→aC→Prop,(∃ B1:Nat,x (0:Int) B1 w0)∧∀ (_:Nat→Option AV) (n:Int) (x0:Nat) (c:aC),x n x0 c→(aA (cC tb false 59 a3 c) fun C1=>zI .i64 C1.1 fun D1=>aD (decide (n<D1)) (aA (bS tb 59 a3 n c) fun E1=>zP E1.1 fun F1 G1=>aA (aH tb 64 (.ptr F1 G1) c) fun H1=>∃ y0 z0 A0 B0 C0 D0:Int,H1.1=(.agg [y0,z0,(.val (.int .u8 A0)),B0,C0,(.val (.int .u8 D0))])∧(aI (c.new (.cells [(0:Int),(0:Int),(.val (.int .u8 0)),(0:Int),(0:Int),(.val (.int .u8 0))] true)) fun I1=>aA (bZ tb 64 (.ptr c.next 0) (.agg [y0,z0,(.val (.int .u8 A0)),B0,C0,(.val (.int .u8 D0))]) I1) fun E0=>aA (aH tb 3 (.ptr c.next 1) E0.2) fun J1=>zI .i64 J1.1 fun K1=>aB tb.P 14 [K1,A1] E0.2 fun L1 d=>zI .i64 L1 fun j=>aA (aH tb 3 (.ptr c.next 0) d) fun N1=>zI .i64 N1.1 fun o=>aI (fun (O1:Int) (P1:Int) (F0:aC)=>aI (fun (R1:Bool) (G0:aC)=>aD (R1) (Q false G0) (∃ H0:Nat,H0<x0∧(x (aK .i64 n 1) H0 G0))) fun I0=>aD (O1 != P1) (I0 true F0) (aB tb.P 29 [g] F0 fun S1 T1=>aB tb.P 29 [h] T1 fun U1 V1=>aB tb.P 28 [S1,U1] V1 fun W1 X1=>zB W1 fun Y1=>I0 (!Y1) X1)) fun k=>aD (o==(0:Int)) (aA (aH tb 5 (.ptr c.next 2) d) fun Z1=>zI .u8 Z1.1 fun c2=>aA (aH tb 3 (.ptr M.next 2) d) fun d2=>zI .i64 d2.1 fun e2=>aA (aH tb 5 (.ptr c.next 2) d) fun f2=>zI .u8 f2.1 fun y=>aA (aH tb 3 (.ptr f.next 2) d) fun g2=>zI .i64 g2.1 fun z=>aB tb.P 16 [(.val (.int .u8 c2)),e2] d fun h2 A=>(aA (aH tb 5 (.ptr c.next 2) A) fun j2=>(some (.val (.int .u8 y)):Option AV)=some j2.1)∧(aA (aH tb 3 (.ptr f.next 2) A) fun l2=>(some z:Option AV)=some l2.1)∧(aB tb.P 15 [g,j,h2] A fun m2 B=>zI .i64 m2 fun n2=>(aA (aH tb 5 (.ptr c.next 2) B) fun o2=>(some (.val (.int .u8 y)):Option AV)=some o2.1)∧(aA (aH tb 3 (.ptr f.next 2) B) fun r2=>(some z:Option AV)=some r2.1)∧(aB tb.P 16 [(.val (.int .u8 y)),z] B fun t2 u2=>aB tb.P 15 [h,j,t2] u2 fun v2 w2=>zI .i64 v2 fun x2=>k n2 x2 w2))) (aD (o==(1:Int)) (aB tb.P 27 [g,j] d fun y2 A2=>zI .i64 y2 fun B2=>aB tb.P 27 [h,j] A2 fun C2 D2=>zI .i64 C2 fun E2=>k B2 E2 D2) (aD (o==(2:Int)) (aB tb.P 17 [g] d fun F2 G2=>zI .i64 F2 fun H2=>aB tb.P 17 [h] G2 fun I2 J2=>zI .i64 I2 fun K2=>k H2 K2 J2) (aD (o==(5:Int)) (aB tb.P 30 [g,j] d fun L2 N2=>∃ (C:AV) (D:Int),L2=(.tup [C,D])∧(aB tb.P 30 [h,j] N2 fun O2 e=>∃ (E:AV) (F:Int),O2=(.tup [E,F])∧(aI (fun (P2:Bool)=>aD (P2) (Q false e) (k D F e)) fun l=>aD (D==(0:Int)) (aD (F==(0:Int)) (aA (cC tb false 37 C e) fun R2=>zI .i64 R2.1 fun S2=>aA (aH tb 3 (.ptr M.next 2) e) fun T2=>zI .i64 T2.1 fun U2=>aD (S2 != U2) (l true) (aA (cC tb false 37 E e) fun V2=>zI .i64 V2.1 fun W2=>aA (aH tb 3 (.ptr f.next 2) e) fun X2=>zI .i64 X2.1 fun Y2=>aD (W2 != Y2) (l true) (aA (bS tb 37 C (0:Int) e) fun Z2=>zP Z2.1 fun c3 d3=>aA (bS tb 37 E (0:Int) e) fun e3=>zP e3.1 fun f3 g3=>aA (aH tb 5 (.ptr c3 d3) e) fun h3=>zI .u8 h3.1 fun j3=>aA (aH tb 5 (.ptr f3 g3) e) fun l3=>zI .u8 l3.1 fun m3=>l (j3 != m3)))) (l false)) (l false)))) (k (0:Int) (0:Int) d)))))) (aI (fun (n3:Bool) (o3:aC)=>Q n3 o3) fun G=>aB tb.P 21 [g] c fun r3 J0=>zB r3 fun t3=>aD (!t3) (aB tb.P 21 [h] J0 fun u3 K0=>zB u3 fun v3=>aD (!v3) (aB tb.P 10 [] K0 fun w3 x3=>zB w3 fun y3=>G y3 x3) (G false K0)) (G false J0)))))))) fun p=>aD (e0 != (0:Int)) (p true) (aD (m0 != (0:Int)) (p true) (aA (cR tb .eql 30 (.tmp 58) (.const (.pointer none)) g (.val (.pointer none)) i) fun A3=>zB A3.1 fun B3=>aD (B3) (p true) (aA (cR tb .eql 30 (.tmp 62) (.const (.pointer none)) h (.val (.pointer none)) i) fun C3=>zB C3.1 fun D3=>p D3))))))))) fun H=>aA (cC tb false 59 a3 m) fun E3=>zI .i64 E3.1 fun F3=>aD (decide (F3>(40:Int))) (H true m) (aA (aH tb 23 (.ptr M.next 0) m) fun G3=>∃ L0 N0 O0 P0 R0:Int,G3.1=(.agg [L0,N0,O0,P0,R0])∧(aB tb.P 9 [(.agg [L0,N0,O0,P0,R0]),a2] m fun H3 I=>zB H3 fun I3=>aD (!I3) (H true I) (aA (aH tb 23 (.ptr f.next 0) I) fun J3=>∃ S0 T0 U0 V0 W0:Int,J3.1=(.agg [S0,T0,U0,V0,W0])∧(aB tb.P 22 [(.agg [S0,T0,U0,V0,W0])] I fun K3 L3=>zB K3 fun N3=>H (!N3) L3))))
structure xX where
 w:Int
 p:Int
 v:BitVec 8
 x:Int
 y:Int
 z:BitVec 8
def vP(a:xX):List AV:=[i64 a.w,i64 a.p,vR a.v,i64 a.x,i64 a.y,vR a.z]
theorem aIt(a:xX):(vP a).length=6:=rfl
def lV(M:aC)(x:AV)(l:List xX):Prop:=aP 6 M x l.length (l.flatMap vP)
theorem aP5:∃ ti,tb.ty.get 59=some ti∧ti.k= .sli 64:=⟨⟨.sli 64,1,24,[.slice none 0 0],none⟩,by kernel_rfl,rfl⟩
theorem aQB:∃ ti,tb.ty.get 64=some ti∧ti.size=6∧ti.isAgg=true:=by
 have h:(match tb.ty.get 64 with|some ti=>Nat.beq ti.size 6&&ti.isAgg|none=>false)=true:=by kernel_rfl
 cases e:tb.ty.get 64 with
 | none=>rw[e] at h;cases h
 | some ti=>
   rw[e] at h
   rw[Bool.and_eq_true] at h
   exact⟨ti,rfl,Nat.eq_of_beq_eq_true h.1,h.2⟩
theorem lV.len{M M':aC}{x:AV}{l:List xX}(h:lV M x l):bP tb false 59 x M'=some l.length:=by
 obtain⟨ti,h1,h2⟩:=aP5
 exact aP.len h h1 h2
theorem lV.at{M:aC}{x:AV}{l:List xX}(h:lV M x l){i:Nat}(hi:i<l.length):
 ∃ b o,bF tb 59 x (.val (.int .i64 (i:Int)))=some (.ptr b o)∧aW tb 64 (.ptr b o) M=some (.agg (vP l[i])):=by
 obtain⟨ti,h1,h2⟩:=aP5
 obtain⟨tj,k1,k2,k3⟩:=aQB
 obtain⟨b,o,q1,q2⟩:=aP.ldAgg h h1 h2 k1 k2 k3 hi (k':= .i64)
 rw[oT aIt hi] at q2
 exact⟨b,o,q1,q2⟩
theorem lV.keep0{M N:aC}{x:AV}{l:List xX}(h:lV M x l)(hw:M.WF)(hk:aE M N []):lV N x l:=aP.keep0 h hw hk
theorem aOu{M:aC}{b:Nat}{cs:List AV}(a:xX)(hg:M.get b=some (.cells cs true))(hl:cs.length=6):gA tb 64 (.ptr b 0) (.agg (vP a)) M=some (M.put b (.cells (vP a) true)):=by
 obtain⟨tj,k1,k2,k3⟩:=aQB
 exact mZ k1 k2 hg hl (by intro v hv;simp only[vP,List.mem_cons,List.not_mem_nil,or_false] at hv;rcases hv with rfl|rfl|rfl|rfl|rfl|rfl <;> rfl)
section
variable {M0:aC} {g:eV} {k n:Int} {A:bI} {M:aC} {S:Ps} {P:Int→Option (Option dE)} {B:Int→Option dE}
end
section
variable {M0:aC} {g1 g2:eV} {L k n:Int} {A1 A2:bI} {M N:aC} {S1 S2:Ps} {P1 P2:Int→Option (Option dE)} {B1 B2:Int→Option dE}
end
def F7(a0 a1 a2:AV)(M:aC)(Q:AV→aC→Prop):Prop:=∃ Z c0 d0 e0 f0:Int,a0=(.agg [Z,c0,d0,e0,f0])∧aI (M.new (.cells [Z,c0,d0,e0,f0] true)) fun p=>aI (fun (R0:Bool) (F:aC)=>aD (R0) (aB tb.P 10 [] F fun S0 T0=>zB S0 fun U0=>Q U0 T0) (aA (aH tb 23 (.ptr M.next 0) F) fun V0=>∃ g0 h0 j0 l0 m0:Int,V0.1=(.agg [g0,h0,j0,l0,m0])∧(aB tb.P 11 [(.agg [g0,h0,j0,l0,m0]),a1] F fun G W0=>aB tb.P 12 [G] W0 fun X0 w=>∃ (f:AV) (n0:Int),X0=(.tup [f,n0])∧(aI (fun (Y0:Bool)=>aD (Y0) (Q false w) (aA (aH tb 23 (.ptr M.next 0) w) fun Z0=>∃ o0 r0 t0 u0 v0:Int,Z0.1=(.agg [o0,r0,t0,u0,v0])∧(aB tb.P 13 [(.agg [o0,r0,t0,u0,v0])] w fun c1 d1=>zI .i64 c1 fun e1=>aB tb.P 33 [e1] d1 fun d f1=>∃ H:Int→Nat→aC→Prop,(∃ g1:Nat,H (0:Int) g1 f1)∧∀ (_:Nat→Option AV) (B:Int) (w0:Nat) (m:aC),H B w0 m→(aA (cC tb false 59 a2 m) fun h1=>zI .i64 h1.1 fun j1=>aD (decide (B<j1)) (aI (fun (l1:aC)=>∃ x0:Nat,x0<w0∧(H (aK .i64 B 1) x0 l1)) fun I=>aA (bS tb 59 a2 B m) fun m1=>zP m1.1 fun n1 o1=>aA (aH tb 64 (.ptr n1 o1) m) fun r1=>∃ y0 z0 A0 B0 C0 D0:Int,r1.1=(.agg [y0,z0,(.val (.int .u8 A0)),B0,C0,(.val (.int .u8 D0))])∧(aI (m.new (.cells [(0:Int),(0:Int),(.val (.int .u8 0)),(0:Int),(0:Int),(.val (.int .u8 0))] true)) fun t1=>aA (bZ tb 64 (.ptr m.next 0) (.agg [y0,z0,(.val (.int .u8 A0)),B0,C0,(.val (.int .u8 D0))]) t1) fun r=>aA (aT d r.2) fun u1=>aA (bV tb 47 u1.1 0 r.2) fun v1=>zP v1.1 fun w1 x1=>aA (aH tb 3 (.ptr m.next 1) r.2) fun y1=>zI .i64 y1.1 fun A1=>aA (aH tb 25 (.ptr w1 x1) r.2) fun B1=>aA (cC tb false 25 B1.1 r.2) fun C1=>zI .i64 C1.1 fun D1=>aB tb.P 14 [A1,D1] r.2 fun E1 F1=>zI .i64 E1 fun x=>aB tb.P 21 [f] F1 fun G1 g=>zB G1 fun J=>aA (aH tb 3 (.ptr m.next 0) g) fun H1=>zI .i64 H1.1 fun K=>aI (fun (h:Int) (c:aC)=>aI (fun (I1:Bool) (L:aC)=>aD (I1) (Q false L) (aI (fun (J1:Bool)=>aD (J1) (aB tb.P 12 [G] L fun K1 N=>∃ (s:AV) (E0:Int),K1=(.tup [s,E0])∧(aI (fun (L1:Bool)=>aD (L1) (Q false N) (aI (fun (N1:Bool) (t:aC)=>aD (N1) (Q false t) (aI (fun (O1:Bool) (P1:aC)=>Q O1 P1) fun C=>aA (aT d t) fun R1=>aA (bV tb 47 R1.1 1 t) fun S1=>zP S1.1 fun T1 U1=>aA (aH tb 25 (.ptr T1 U1) t) fun V1=>aA (aH tb 3 (.ptr M.next 2) t) fun W1=>zI .i64 W1.1 fun X1=>aB tb.P 18 [s,V1.1,X1] t fun Y1 n=>zB Y1 fun Z1=>aD (Z1) (aB tb.P 10 [] n fun c2 d2=>zB c2 fun e2=>C e2 d2) (aA (aT d n) fun f2=>aA (bV tb 47 f2.1 3 n) fun g2=>zP g2.1 fun h2 j2=>aA (aH tb 4 (.ptr h2 j2) n) fun l2=>zB l2.1 fun m2=>aD (m2) (aA (aT d n) fun n2=>aA (bV tb 47 n2.1 2 n) fun o2=>zP o2.1 fun r2 t2=>aA (aH tb 25 (.ptr r2 t2) n) fun u2=>aA (aH tb 3 (.ptr M.next 2) n) fun v2=>zI .i64 v2.1 fun w2=>aB tb.P 18 [s,u2.1,w2] n fun x2 F0=>zB x2 fun y2=>aD (y2) (aB tb.P 10 [] F0 fun A2 B2=>zB A2 fun C2=>C C2 B2) (C false F0)) (C false n)))) fun G0=>aB tb.P 21 [s] N fun D2 E2=>zB D2 fun F2=>aB tb.P 21 [f] E2 fun G2 O=>zB G2 fun H2=>aA (cR tb .neq 4 (.tmp 231) (.tmp 233) F2 H2 O) fun I2=>zB I2.1 fun J2=>aD (J2) (aB tb.P 21 [s] O fun K2 L2=>zB K2 fun N2=>G0 N2 L2) (G0 false O))) fun H0=>aD (E0 != (0:Int)) (H0 true) (aA (cR tb .eql 30 (.tmp 227) (.const (.pointer none)) s (.val (.pointer none)) N) fun O2=>zB O2.1 fun P2=>H0 P2))) (I L)) fun I0=>aD (h==(12:Int)) (I0 true) (I0 (h==(13:Int))))) fun e=>aD (J) (aD (h != (13:Int)) (e true c) (aD (!J) (aD (h != (0:Int)) (aD (h != (12:Int)) (aD (h != (13:Int)) (e true c) (aB tb.P 21 [f] c fun R2 i=>zB R2 fun S2=>aD (!S2) (e true i) (aD (h != (0:Int)) (aA (cC tb false 24 a1 i) fun T2=>zI .i64 T2.1 fun U2=>aA (aH tb 3 (.ptr M.next 3) i) fun V2=>zI .i64 V2.1 fun W2=>aD (decide (U2≤W2)) (e true i) (aA (aT d i) fun X2=>aA (bV tb 47 X2.1 0 i) fun Y2=>zP Y2.1 fun Z2 c3=>aA (aH tb 25 (.ptr Z2 c3) i) fun d3=>aA (aH tb 3 (.ptr M.next 2) i) fun e3=>zI .i64 e3.1 fun f3=>aB tb.P 18 [f,d3.1,f3] i fun g3 h3=>zB g3 fun j3=>e (!j3) h3)) (aA (aT d i) fun l3=>aA (bV tb 47 l3.1 0 i) fun m3=>zP m3.1 fun n3 o3=>aA (aH tb 25 (.ptr n3 o3) i) fun r3=>aA (aH tb 3 (.ptr M.next 2) i) fun t3=>zI .i64 t3.1 fun u3=>aB tb.P 18 [f,r3.1,u3] i fun v3 w3=>zB v3 fun x3=>e (!x3) w3)))) (aB tb.P 21 [f] c fun y3 j=>zB y3 fun A3=>aD (!A3) (e true j) (aD (h != (0:Int)) (aA (cC tb false 24 a1 j) fun B3=>zI .i64 B3.1 fun C3=>aA (aH tb 3 (.ptr M.next 3) j) fun D3=>zI .i64 D3.1 fun E3=>aD (decide (C3≤E3)) (e true j) (aA (aT d j) fun F3=>aA (bV tb 47 F3.1 0 j) fun G3=>zP G3.1 fun H3 I3=>aA (aH tb 25 (.ptr H3 I3) j) fun J3=>aA (aH tb 3 (.ptr M.next 2) j) fun K3=>zI .i64 K3.1 fun L3=>aB tb.P 18 [f,J3.1,L3] j fun N3 O3=>zB N3 fun P3=>e (!P3) O3)) (aA (aT d j) fun R3=>aA (bV tb 47 R3.1 0 j) fun S3=>zP S3.1 fun T3 U3=>aA (aH tb 25 (.ptr T3 U3) j) fun V3=>aA (aH tb 3 (.ptr M.next 2) j) fun W3=>zI .i64 W3.1 fun X3=>aB tb.P 18 [f,V3.1,X3] j fun Y3 Z3=>zB Y3 fun c4=>e (!c4) Z3)))) (aD (h != (0:Int)) (aA (cC tb false 24 a1 c) fun d4=>zI .i64 d4.1 fun e4=>aA (aH tb 3 (.ptr M.next 3) c) fun f4=>zI .i64 f4.1 fun g4=>aD (decide (e4≤g4)) (e true c) (aA (aT d c) fun h4=>aA (bV tb 47 h4.1 0 c) fun j4=>zP j4.1 fun l4 m4=>aA (aH tb 25 (.ptr l4 m4) c) fun n4=>aA (aH tb 3 (.ptr M.next 2) c) fun o4=>zI .i64 o4.1 fun r4=>aB tb.P 18 [f,n4.1,r4] c fun t4 u4=>zB t4 fun v4=>e (!v4) u4)) (aA (aT d c) fun w4=>aA (bV tb 47 w4.1 0 c) fun x4=>zP x4.1 fun y4 A4=>aA (aH tb 25 (.ptr y4 A4) c) fun B4=>aA (aH tb 3 (.ptr M.next 2) c) fun C4=>zI .i64 C4.1 fun D4=>aB tb.P 18 [f,B4.1,D4] c fun E4 F4=>zB E4 fun G4=>e (!G4) F4))) (aD (h != (0:Int)) (aA (cC tb false 24 a1 c) fun H4=>zI .i64 H4.1 fun I4=>aA (aH tb 3 (.ptr M.next 3) c) fun J4=>zI .i64 J4.1 fun K4=>aD (decide (I4≤K4)) (e true c) (aA (aT d c) fun L4=>aA (bV tb 47 L4.1 0 c) fun N4=>zP N4.1 fun O4 P4=>aA (aH tb 25 (.ptr O4 P4) c) fun R4=>aA (aH tb 3 (.ptr M.next 2) c) fun S4=>zI .i64 S4.1 fun T4=>aB tb.P 18 [f,R4.1,T4] c fun U4 V4=>zB U4 fun W4=>e (!W4) V4)) (aA (aT d c) fun X4=>aA (bV tb 47 X4.1 0 c) fun Y4=>zP Y4.1 fun Z4 c5=>aA (aH tb 25 (.ptr Z4 c5) c) fun d5=>aA (aH tb 3 (.ptr M.next 2) c) fun e5=>zI .i64 e5.1 fun f5=>aB tb.P 18 [f,d5.1,f5] c fun g5 h5=>zB g5 fun j5=>e (!j5) h5)))) (aD (!J) (aD (h != (0:Int)) (aD (h != (12:Int)) (aD (h != (13:Int)) (e true c) (aB tb.P 21 [f] c fun l5 k=>zB l5 fun m5=>aD (!m5) (e true k) (aD (h != (0:Int)) (aA (cC tb false 24 a1 k) fun n5=>zI .i64 n5.1 fun o5=>aA (aH tb 3 (.ptr M.next 3) k) fun r5=>zI .i64 r5.1 fun t5=>aD (decide (o5≤t5)) (e true k) (aA (aT d k) fun u5=>aA (bV tb 47 u5.1 0 k) fun v5=>zP v5.1 fun w5 x5=>aA (aH tb 25 (.ptr w5 x5) k) fun y5=>aA (aH tb 3 (.ptr M.next 2) k) fun A5=>zI .i64 A5.1 fun B5=>aB tb.P 18 [f,y5.1,B5] k fun C5 D5=>zB C5 fun E5=>e (!E5) D5)) (aA (aT d k) fun F5=>aA (bV tb 47 F5.1 0 k) fun G5=>zP G5.1 fun H5 I5=>aA (aH tb 25 (.ptr H5 I5) k) fun J5=>aA (aH tb 3 (.ptr M.next 2) k) fun K5=>zI .i64 K5.1 fun L5=>aB tb.P 18 [f,J5.1,L5] k fun N5 O5=>zB N5 fun P5=>e (!P5) O5)))) (aB tb.P 21 [f] c fun R5 l=>zB R5 fun S5=>aD (!S5) (e true l) (aD (h != (0:Int)) (aA (cC tb false 24 a1 l) fun T5=>zI .i64 T5.1 fun U5=>aA (aH tb 3 (.ptr M.next 3) l) fun V5=>zI .i64 V5.1 fun W5=>aD (decide (U5≤W5)) (e true l) (aA (aT d l) fun X5=>aA (bV tb 47 X5.1 0 l) fun Y5=>zP Y5.1 fun Z5 c6=>aA (aH tb 25 (.ptr Z5 c6) l) fun d6=>aA (aH tb 3 (.ptr M.next 2) l) fun e6=>zI .i64 e6.1 fun f6=>aB tb.P 18 [f,d6.1,f6] l fun g6 h6=>zB g6 fun j6=>e (!j6) h6)) (aA (aT d l) fun l6=>aA (bV tb 47 l6.1 0 l) fun m6=>zP m6.1 fun n6 o6=>aA (aH tb 25 (.ptr n6 o6) l) fun r6=>aA (aH tb 3 (.ptr M.next 2) l) fun t6=>zI .i64 t6.1 fun u6=>aB tb.P 18 [f,r6.1,u6] l fun v6 w6=>zB v6 fun x6=>e (!x6) w6)))) (aD (h != (0:Int)) (aA (cC tb false 24 a1 c) fun y6=>zI .i64 y6.1 fun z6=>aA (aH tb 3 (.ptr M.next 3) c) fun A6=>zI .i64 A6.1 fun B6=>aD (decide (z6≤B6)) (e true c) (aA (aT d c) fun C6=>aA (bV tb 47 C6.1 0 c) fun D6=>zP D6.1 fun E6 F6=>aA (aH tb 25 (.ptr E6 F6) c) fun G6=>aA (aH tb 3 (.ptr M.next 2) c) fun H6=>zI .i64 H6.1 fun I6=>aB tb.P 18 [f,G6.1,I6] c fun J6 K6=>zB J6 fun L6=>e (!L6) K6)) (aA (aT d c) fun N6=>aA (bV tb 47 N6.1 0 c) fun O6=>zP O6.1 fun P6 R6=>aA (aH tb 25 (.ptr P6 R6) c) fun S6=>aA (aH tb 3 (.ptr M.next 2) c) fun T6=>zI .i64 T6.1 fun U6=>aB tb.P 18 [f,S6.1,U6] c fun V6 W6=>zB V6 fun X6=>e (!X6) W6))) (aD (h != (0:Int)) (aA (cC tb false 24 a1 c) fun Y6=>zI .i64 Y6.1 fun Z6=>aA (aH tb 3 (.ptr M.next 3) c) fun c7=>zI .i64 c7.1 fun d7=>aD (decide (Z6≤d7)) (e true c) (aA (aT d c) fun e7=>aA (bV tb 47 e7.1 0 c) fun f7=>zP f7.1 fun g7 h7=>aA (aH tb 25 (.ptr g7 h7) c) fun j7=>aA (aH tb 3 (.ptr M.next 2) c) fun l7=>zI .i64 l7.1 fun m7=>aB tb.P 18 [f,j7.1,m7] c fun n7 o7=>zB n7 fun r7=>e (!r7) o7)) (aA (aT d c) fun t7=>aA (bV tb 47 t7.1 0 c) fun u7=>zP u7.1 fun v7 w7=>aA (aH tb 25 (.ptr v7 w7) c) fun x7=>aA (aH tb 3 (.ptr M.next 2) c) fun z7=>zI .i64 z7.1 fun A7=>aB tb.P 18 [f,x7.1,A7] c fun B7 C7=>zB B7 fun D7=>e (!D7) C7)))) fun u=>aD (K==(0:Int)) (aA (aH tb 5 (.ptr m.next 2) g) fun E7=>zI .u8 E7.1 fun F7=>aA (aH tb 3 (.ptr M.next 2) g) fun G7=>zI .i64 G7.1 fun H7=>aB tb.P 16 [(.val (.int .u8 F7)),H7] g fun I7 J7=>aB tb.P 15 [f,x,I7] J7 fun K7 y=>zI .i64 K7 fun R=>aD (R==(0:Int)) (aA (aT d y) fun L7=>aA (bV tb 47 L7.1 0 y) fun N7=>zP N7.1 fun O7 P7=>aA (aH tb 25 (.ptr O7 P7) y) fun R7=>aB tb.P 34 [R7.1] y fun S7 S=>aA (aT d S) fun T7=>aA (bV tb 47 T7.1 0 S) fun U7=>zP U7.1 fun V7 W7=>aA (bZ tb 25 (.ptr V7 W7) S7 S) fun v=>aA (aT d v.2) fun X7=>aA (bV tb 47 X7.1 0 v.2) fun Y7=>zP Y7.1 fun Z7 c8=>aA (aH tb 25 (.ptr Z7 c8) v.2) fun d8=>aA (aH tb 5 (.ptr m.next 2) v.2) fun e8=>zI .u8 e8.1 fun f8=>aA (bS tb 25 d8.1 x v.2) fun g8=>zP g8.1 fun h8 j8=>aA (bZ tb 3 (.ptr h8 j8) ((IntKind.wrap .i64 f8):Int) v.2) fun l8=>u R l8.2) (u R y)) (aD (K==(1:Int)) (aA (aT d g) fun m8=>aA (bV tb 47 m8.1 0 g) fun n8=>zP n8.1 fun o8 r8=>aA (aH tb 25 (.ptr o8 r8) g) fun t8=>aA (bS tb 25 t8.1 x g) fun v8=>zP v8.1 fun w8 x8=>aA (aH tb 3 (.ptr w8 x8) g) fun y8=>zI .i64 y8.1 fun A8=>aD (decide (A8<(0:Int))) (I g) (aB tb.P 27 [f,x] g fun B8 z=>zI .i64 B8 fun T=>aD (T==(0:Int)) (aA (aT d z) fun C8=>aA (bV tb 47 C8.1 0 z) fun D8=>zP D8.1 fun E8 F8=>aA (aH tb 25 (.ptr E8 F8) z) fun G8=>aB tb.P 34 [G8.1] z fun H8 U=>aA (aT d U) fun I8=>aA (bV tb 47 I8.1 0 U) fun J8=>zP J8.1 fun K8 L8=>aA (bZ tb 25 (.ptr K8 L8) H8 U) fun A=>aA (aT d A.2) fun N8=>aA (bV tb 47 N8.1 0 A.2) fun O8=>zP O8.1 fun P8 R8=>aA (aH tb 25 (.ptr P8 R8) A.2) fun S8=>aA (bS tb 25 S8.1 x A.2) fun T8=>zP T8.1 fun U8 V8=>aA (bZ tb 3 (.ptr U8 V8) (-1:Int) A.2) fun W8=>u T W8.2) (u T z))) (aD (K==(2:Int)) (aA (aT d g) fun X8=>aA (bV tb 47 X8.1 0 g) fun Y8=>zP Y8.1 fun Z8 c9=>aA (aH tb 25 (.ptr Z8 c9) g) fun d9=>aA (aT d g) fun e9=>aA (bV tb 47 e9.1 2 g) fun f9=>zP f9.1 fun g9 h9=>aA (bZ tb 25 (.ptr g9 h9) d9.1 g) fun V=>aA (aT d V.2) fun j9=>aA (bV tb 47 j9.1 3 V.2) fun l9=>zP l9.1 fun m9 n9=>aA (bZ tb 4 (.ptr m9 n9) true V.2) fun o9=>aB tb.P 17 [f] o9.2 fun r9 o=>zI .i64 r9 fun D=>aI (fun (E:aC)=>aD (D==(13:Int)) (aA (aT d E) fun t9=>aA (bV tb 47 t9.1 3 E) fun u9=>zP u9.1 fun v9 w9=>aA (bZ tb 4 (.ptr v9 w9) false E) fun x9=>u D x9.2) (u D E)) fun J0=>aD (D==(0:Int)) (aA (aT d o) fun z9=>aA (bV tb 47 z9.1 0 o) fun A9=>zP A9.1 fun B9 C9=>aA (aH tb 25 (.ptr B9 C9) o) fun D9=>aA (aT d o) fun E9=>aA (bV tb 47 E9.1 1 o) fun F9=>zP F9.1 fun G9 H9=>aA (bZ tb 25 (.ptr G9 H9) D9.1 o) fun W=>aA (aT d W.2) fun I9=>aA (bV tb 47 I9.1 3 W.2) fun J9=>zP J9.1 fun K9 L9=>aA (bZ tb 4 (.ptr K9 L9) false W.2) fun N9=>J0 N9.2) (J0 o)) (I g))))) (aB tb.P 10 [] m fun O9 P9=>zB O9 fun R9=>Q R9 P9))))) fun X=>aA (cR tb .eql 28 (.tmp 41) (.const (.pointer none)) G (.val (.pointer none)) w) fun S9=>zB S9.1 fun T9=>aD (T9) (X true) (aD (n0 != (0:Int)) (X true) (aA (cR tb .eql 30 (.tmp 48) (.const (.pointer none)) f (.val (.pointer none)) w) fun U9=>zB U9.1 fun V9=>X V9)))))) fun Y=>aA (cC tb false 59 a2 p) fun W9=>zI .i64 W9.1 fun X9=>aD (decide (X9>(40:Int))) (Y true p) (aA (cC tb false 24 a1 p) fun Y9=>zI .i64 Y9.1 fun Z9=>aD (decide (Z9>(20:Int))) (Y true p) (aA (aH tb 23 (.ptr M.next 0) p) fun c10=>∃ K0 L0 N0 O0 P0:Int,c10.1=(.agg [K0,L0,N0,O0,P0])∧(aB tb.P 32 [(.agg [K0,L0,N0,O0,P0]),a1] p fun d10 e10=>zB d10 fun f10=>Y (!f10) e10)))
theorem aQX{a0 a1 a2 M Q}(h:F7 a0 a1 a2 M Q):aB tb.P 7 [a0,a1,a2] M Q:=qk3 Tryz.f7 (qC (.seq (qD [sN,sI,sB,sZ,sN,sI,sB,sN,sZ,sE,sN,sB,sB] (.cnd (qE [sB]) .z)) (qD [sE] (qD [sN,.tup [.l .any,.l (.int .i64)],sN,sN,sI] (.seq (qF [sN,sB,sZ,sN,sB,sN,sZ,sN,sB]) (qD [sE,sI] (.seq (qC (.blk (.lop [(11,.int .i64)] ([6]++qn 12 17++qn 54 265) (.seq (qD [sN,sN,sI,sB] qG) (.seq (.blk (qD [sN,sN,sP,.agg [.int .i64,.int .i64,.int .u8,.int .i64,.int .i64,.int .u8]] (.seq (.opn (qo [0,2,3,4,1,5,6,7,8]) [] [] 0 [sP,sN,sN,sP,sI,sN,sI,sI,sN]) (qC (qD [sN,sB] (.seq (qD [sP,sI] (.blk (qD [sB] (.cnd (qD [sN,sN,sP,sU,sP,sI,sN,sI] (qD [sN,sB] (.cnd (qD [sN,sN,sN,sP,sN,sN,sN,sP] (.opn (qo [0,1,2,4,5,3,6,7,8,9]) [] [] 0 [sN,sN,sP,sN,sP,sN,sU,sI,sP,sN])) .z))) (qD [sB] (.cnd (.seq (qD [sN,sN,sP,sN,sN,sP,sI,sB] qG) (qD [sN,sN,sI] (qD [sN,sB] (.cnd (qD [sN,sN,sN,sP,sN,sN,sN,sP] (.reg [sN,sN,sP,sN,sN,sP])) .z)))) (qD [sB] (.cnd (qD [sN,sN,sN,sN,sP,sN,sN,sP,sN,sN,sP] (qD [sN,sI] (.seq (qD [sN,sB] (.cnd (.reg [sN,sN,sN,sN,sP,sN,sN,sP,sN,sN,sP]) .z)) (qD [sN,sB] (.cnd (.reg [sN,sN,sP]) .z))))) .z)))))))) (.seq (.seq (.opn (qo (qn 0 30++[32,31]++qn 33 41++[43,42,44,45,46,47])) [] [] 0 [sN,sZ,sN,sB,sN,sZ,sN,sB,sZ,sN,sB,sN,sZ,sN,sB,sZ,sN,sB,sN,sZ,sN,sB,sB,sN,sN,sN,sZ,sN,sB,sZ,sN,sP,sI,sI,sB,sN,sN,sZ,sN,sN,sN,sP,sP,sN,sI,sB,sB,sN]) (.cnd qB .z)) (qD [sN,sB,sZ,sN,sB] (.cnd (qD [sN,.tup [.l .any,.l (.int .i64)],sN,sN,sI] (.seq (qF [sN,sB,sZ,sN,sB]) (.seq (qF [sN,sB,sN,sB,sB,sZ,sN,sB]) (.seq (.opn (qo ([0,1,2,3,5,4]++qn 6 17++[19,18]++qn 20 27)) [] [] 0 [sN,sN,sN,sP,sP,sN,sI,sB,sZ,sN,sN,sP,sB,sZ,sN,sN,sN,sP,sP,sN,sI,sB,sN,sN,sZ,sB,sN,sN]) .z)))) .z))))))))) (.reg [sN,sI])))))) (qE [sB])))))))) [.a [.int .i64,.int .i64,.int .i64,.int .i64,.int .i64],.l .any,.l .any] h
def fZ(b n:Nat):AV:= .sl b 0 n n (some 1)
structure MX (N:aC) (A:bI) (q bu bw:Nat) (us ws:List Int) (x:AV) (fl:Bool):Prop where
 main:N.get q=some (.cells [fZ bu us.length,fZ bw ws.length,x,.val (.bool fl)] true)
 us:N.get bu=some (.cells (us.map i64) true)
 ws:N.get bw=some (.cells (ws.map i64) true)
 ne:q≠bu∧q≠bw
 out:q∉A.all∧bu∉A.all∧bw∉A.all
section
variable {N:aC} {A:bI} {q bu bw:Nat} {us ws:List Int} {x:AV} {fl:Bool}
theorem MX.keep{N':aC}(h:MX N A q bu bw us ws x fl)(hw:N.WF)(hk:aE N N' A.all):MX N' A q bu bw us ws x fl:=
 ⟨hk.get hw h.main h.out.1,hk.get hw h.us h.out.2.1,hk.get hw h.ws h.out.2.2,h.ne,h.out⟩
theorem MX.keep0{N':aC}(h:MX N A q bu bw us ws x fl)(hw:N.WF)(hk:aE N N' []):MX N' A q bu bw us ws x fl:=h.keep hw (hk.mono (by simp))
theorem MX.uat(h:MX N A q bu bw us ws x fl):dB N (fZ bu us.length) us:=aGG h.us
theorem MX.wat(h:MX N A q bu bw us ws x fl):dB N (fZ bw ws.length) ws:=aGG h.ws
theorem MX.ldu(h:MX N A q bu bw us ws x fl):aH tb 25 (.ptr q 0) N=some (fZ bu us.length,N):=aR (dI lY rfl h.main (o:=0) rfl)
theorem MX.ldw(h:MX N A q bu bw us ws x fl):aH tb 25 (.ptr q 1) N=some (fZ bw ws.length,N):=aR (dI lY rfl h.main (o:=1) rfl)
theorem MX.ldx(h:MX N A q bu bw us ws x fl)(hx:x.one=true):aH tb 25 (.ptr q 2) N=some (x,N):=aR (dI lY rfl h.main (o:=2) rfl)
theorem MX.ldf(h:MX N A q bu bw us ws x fl):aH tb 4 (.ptr q 3) N=some (.val (.bool fl),N):=aR (dI ty4 rfl h.main (o:=3) rfl)
theorem aBD{q:Nat}{M:aC}:bV tb 47 (.ptr q 0) 2 M=some (.ptr q 2,M)∧bV tb 47 (.ptr q 0) 3 M=some (.ptr q 3,M):=⟨bW (by kernel_rfl),bW (by kernel_rfl)⟩
theorem MX.st(h:MX N A q bu bw us ws x fl){i:Nat}(hi:i<3){v:AV}(hv:v.one=true):bZ tb 25 (.ptr q i) v N=some (dS,N.put q (.cells ([fZ bu us.length,fZ bw ws.length,x,.val (.bool fl)].set i v) true)):=
 lM (cO lY rfl hv h.main (by simp;omega))
theorem MX.stf(h:MX N A q bu bw us ws x fl)(b:Bool):bZ tb 4 (.ptr q 3) (.val (.bool b)) N=some (dS,N.put q (.cells [fZ bu us.length,fZ bw ws.length,x,.val (.bool b)] true)):=
 lM (cO ty4 rfl rfl h.main (o:=3) (by simp))
theorem MX.put(h:MX N A q bu bw us ws x fl){bu' bw':Nat}{us' ws':List Int}{x':AV}{fl':Bool}(hu:N.get bu'=some (.cells (us'.map i64) true))(hw:N.get bw'=some (.cells (ws'.map i64) true))(h1:q≠bu'∧q≠bw')(h2:bu'∉A.all∧bw'∉A.all):
 MX (N.put q (.cells [fZ bu' us'.length,fZ bw' ws'.length,x',.val (.bool fl')] true)) A q bu' bw' us' ws' x' fl':=
 ⟨by rw[aC.get_put,if_pos rfl],by rw[aC.get_put,if_neg (fun e=>h1.1 e.symm)];exact hu,by rw[aC.get_put,if_neg (fun e=>h1.2 e.symm)];exact hw,h1,⟨h.out.1,h2.1,h2.2⟩⟩
theorem MX.setu(h:MX N A q bu bw us ws x fl)(hw:N.WF)(hne:bu≠bw){i:Nat}(hi:i<us.length)(z:Int):
 bZ tb 3 (.ptr bu i) (.val (.int .i64 z)) N=some (dS,N.put bu (.cells ((us.set i z).map i64) true))∧MX (N.put bu (.cells ((us.set i z).map i64) true)) A q bu bw (us.set i z) ws x fl∧aE N (N.put bu (.cells ((us.set i z).map i64) true)) [bu]:=by
 obtain⟨h1,h2⟩:=h.ne
 refine⟨?_,⟨?_,by rw[aC.get_put,if_pos rfl],by rw[aC.get_put,if_neg (fun e=>hne e.symm)];exact h.ws,h.ne,h.out⟩,aE.put hw (hw _ _ h.us) _⟩
 ·have:=lM (cO dR rfl rfl h.us (x:= .val (.int .i64 z)) (o:=i) (by rw[List.length_map];exact hi))
  rw[this,List.map_set]
  rfl
 ·rw[aC.get_put,if_neg h1,List.length_set];exact h.main
theorem MX.ldi(h:MX N A q bu bw us ws x fl){i:Nat}(hi:i<us.length):aH tb 3 (.ptr bu i) N=some (i64 us[i],N):=
 aR (dI dR rfl h.us (o:=i) (by rw[List.getElem?_map,List.getElem?_eq_getElem hi];rfl))
end
section
variable {M0:aC} {g:eV} {k n:Int} {A:bI} {M:aC} {S:Ps} {P:Int→Option (Option dE)} {B:Int→Option dE} {q bu bw:Nat} {us ws:List Int} {x:AV} {fl:Bool}
theorem aGg(h:LF M0 g k n A M S P B)(hD:MX M A q bu bw us ws x fl)(hq:q∈A.ext)(hg:M0.next≤q)(h0:0<us.length)(hl:us.length≤1000){R:AV×aC→Prop}
 (hQ:∀ N b,LF M0 g k n { A with ext:=[b]++A.ext } N S P B→MX N { A with ext:=[b]++A.ext } q b bw us ws x fl→aE M N [q]→b≠bw→M0.next≤b→R (dS,N)):
 aA (aT (.ptr q 0) M) fun y100=>aA (bV tb 47 y100.1 0 M) fun y101=>zP y101.1 fun p102 o103=>aA (aH tb 25 (.ptr p102 o103) M) fun y104=>aB tb.P 34 [y104.1] M fun y105 M106=>aA (aT (.ptr q 0) M106) fun y107=>aA (bV tb 47 y107.1 0 M106) fun y108=>zP y108.1 fun p109 o110=>aA (bZ tb 25 (.ptr p109 o110) y105 M106) fun y111=>R y111:=by
 refine aG cZ ?_
 refine aG vO.1 ?_
 simp only[bR]
 refine aG hD.ldu ?_
 refine (aHh M _ us hD.uat h0 hl).mono ?_
 rintro _ _ ⟨rfl,rfl⟩
 refine aG cZ ?_
 refine aG vO.1 ?_
 simp only[bR]
 have hkn:aE M (M.new (.cells (us.map i64) true)) []:=aE.new h.wf _
 have hD1:=hD.keep0 h.wf hkn
 have hgb:(M.new (.cells (us.map i64) true)).get M.next=some (.cells (us.map i64) true):=get_new _ _
 have hlt:=h.lt
 have hqM:q<M.next:=h.wf _ _ hD.main
 have hwM:bw<M.next:=h.wf _ _ hD.ws
 have hF1:=h.aside hkn (T:=[M.next]) (fun c hc=>by rw[List.mem_singleton] at hc;subst hc;exact⟨Nat.le_refl _,hkn.wf _ _ hgb⟩)
 have hD1':MX (M.new (.cells (us.map i64) true)) { A with ext:=[M.next]++A.ext } q bu bw us ws x fl:=⟨hD1.main,hD1.us,hD1.ws,hD1.ne,hD1.out⟩
 have hD2:MX ((M.new (.cells (us.map i64) true)).put q (.cells [fZ M.next us.length,fZ bw ws.length,x,.val (.bool fl)] true)) { A with ext:=[M.next]++A.ext } q M.next bw us ws x fl:=hD1'.put hgb hD1.ws ⟨by omega,hD.ne.2⟩ ⟨fun hm=>by have:=hlt _ hm;omega,hD.out.2.2⟩
 refine aG (hD1.st (i:=0) (v:=fZ M.next us.length) (by omega) rfl) ?_
 have hkp:aE (M.new (.cells (us.map i64) true)) ((M.new (.cells (us.map i64) true)).put q (.cells [fZ M.next us.length,fZ bw ws.length,x,.val (.bool fl)] true)) [q]:=aE.put hkn.wf (hkn.wf _ _ hD1.main) _
 have hF2:=hF1.beside hkp hD.out.1 (by simp[hq]) hg
 exact hQ _ M.next hF2 hD2 ((hkn.mono (by simp)).trans hkp (fun c hc _=>hc) fun c hc _=>hc) (by omega) h.nx
end
structure DS (M0:aC) (g:eV) (fs:List jK) (f p q L:Nat) (i:Int) (M:aC) (A:bI) (S:Ps) (wb:Bool) (bu bw:Nat) (us ws:List Int) (x:AV):Prop where
 af:A.f=f
 ap:A.p=p
 fs:S.fs=fs
 mx:MX M A q bu bw us ws x false
 qx:q∈A.ext
 qg:M0.next≤q
 ul:us.length=L
 wl:ws.length=L
 st:(wb=false∧∃ P B,LF M0 g i (160+31000*i) A M S P B∧pD g us (fD P B)∧pD g ws B)∨(wb=true∧LG M0 g 160 A M S xY (fun _=>none) (fun _=>none)∧us=List.replicate L (-1)∧ws=List.replicate L (-1))
section
variable {M0:aC} {g:eV} {fs:List jK} {f p q L:Nat} {i:Int} {M:aC} {A:bI} {S:Ps} {wb:Bool} {bu bw:Nat} {us ws:List Int} {x:AV}
theorem DS.keepM(h:DS M0 g fs f p q L i M A S wb bu bw us ws x):aE M0 M []:=by
 rcases h.st with⟨_,P,B,h1,_⟩|⟨_,h1,_⟩
 ·exact h1.keepM
 ·exact h1.keepM
theorem DS.keep0{N:aC}(h:DS M0 g fs f p q L i M A S wb bu bw us ws x)(hk:aE M N []):DS M0 g fs f p q L i N A S wb bu bw us ws x:=
 { h with mx:=h.mx.keep0 h.keepM.wf hk,st:=h.st.imp (fun⟨e,P,B,h1,h2⟩=>⟨e,P,B,h1.keep hk,h2⟩) fun⟨e,h1,h2⟩=>⟨e,h1.keep hk,h2⟩ }
theorem DS.up{j:Int}(h:DS M0 g fs f p q L i M A S wb bu bw us ws x)(hj:i≤j):DS M0 g fs f p q L j M A S wb bu bw us ws x:=
 { h with st:=h.st.imp (fun⟨e,P,B,h1,h2⟩=>⟨e,P,B,h1.mono hj (by omega),h2⟩) id }
theorem DS.deg(h:DS M0 g fs f p q L i M A S wb bu bw us ws x):aB tb.P 21 [.ptr A.f 0] M fun y N=>y= .val (.bool wb)∧N=M:=by
 rcases h.st with⟨e,P,B,h1,_⟩|⟨e,h1,_⟩
 ·rw[e];exact aEf h1
 ·rw[e];exact qN h1
end
theorem aOn{M:aC}{xo yo:Operand}:cR tb .neq 4 xo yo (.val (.bool true)) (.val (.bool true)) M=some (.val (.bool false),M):=cI (by kernel_rfl)
theorem nJ{g:eV}{L:Nat}(hL:(dK g).toNat=L):pD g (List.replicate L (-1)) (fun _=>none):=⟨by rw[List.length_replicate,hL],fun i h=>by rw[List.getElem_replicate,if_pos (by decide)]⟩
theorem aAO(M:aC)(hw:M.WF)(g:eV)(x:AV)(fs:List jK)(hx:cD M x fs)(hfl:fs.length≤9223372036854775807)(a:AV)(l:List xX)(ha:lV M a l)(hll:l.length≤9223372036854775807):
 aB tb.P 7 [jV g,x,a] M fun y _=>y= .val (.bool true):=by
 refine aQX ?_
 unfold F7
 refine⟨_,_,_,_,_,rfl,?_⟩
 refine bG fun M6 hM6=>?_
 have hM6:M6=M.new (.cells (eH g) true):=hM6
 have hk6:aE M M6 []:=by rw[hM6];exact aE.new hw _
 have hb6:M6.get M.next=some (.cells (eH g) true):=by rw[hM6];exact get_new _ _
 have hx6:=hx.keep0 hw hk6
 have ha6:=ha.keep0 hw hk6
 clear hM6
 refine bG fun K22 hK22=>?_
 have aw:∀ N:aC,N.WF→K22 true N:=fun N hN=>by
  rw[hK22]
  dsimp only
  simp only[gU]
  refine (aCt N hN).mono ?_
  rintro y N rfl
  simp only[cK]
 refine aG (lF (ha6.len (M':=M6))) ?_
 simp only[aJ]
 refine aS (fun _=>aw M6 hk6.wf) fun hl40=>?_
 have hl40:l.length≤40:=by
  have:=of_decide_eq_false hl40
  omega
 refine aG (lF hx6.len) ?_
 simp only[aJ]
 refine aS (fun _=>aw M6 hk6.wf) fun _=>?_
 obtain⟨_,_,_,_,_,l5⟩:=bX hb6
 refine aG (aR l5) ?_
 refine⟨_,_,_,_,_,rfl,?_⟩
 refine (aOy M6 hk6.wf g x fs hx6 hfl).mono ?_
 rintro _ M18 ⟨rfl,hk18⟩
 simp only[cK]
 cases hP:pJ g fs with
 | false=>exact aw M18 hk18.wf
 | true=>
 rw[hK22]
 dsimp only
 simp only[Bool.not_true,gE]
 clear aw hK22
 clear K22
 have hg:fU g=true:=by
  have:=hP
  unfold pJ at this
  simp only[Bool.and_eq_true] at this
  exact this.1.1
 obtain⟨hlg,hlg2⟩:=lD hg
 have hm:=bL.1 hg
 have hlg3:(g.bl-g.sp-3)*g.pg≤20*8:=Int.mul_le_mul (by omega) (by omega) (by omega) (by omega)
 have hb18:=hk18.get hk6.wf hb6 (by simp)
 have hlt18:M.next<M18.next:=hk18.wf _ _ hb18
 have hx18:=hx6.keep0 hk6.wf hk18
 have ha18:=ha6.keep0 hk6.wf hk18
 have hw18:=hk18.wf
 clear hk18 hk6 hb6 hx6 ha6 ha hx
 obtain⟨_,_,_,_,_,l5⟩:=bX hb18
 refine aG (aR l5) ?_
 refine⟨_,_,_,_,_,rfl,?_⟩
 refine (aNd M18 hw18 g x fs hx18 hfl).mono ?_
 rintro y31 M33 ⟨hk33,h33⟩
 rcases h33 with⟨hno,_⟩|⟨_,p,fsA,bb,bs,rfl,hc,hb,hf,_⟩
 ·rw[hP] at hno;cases hno
 have hmount:aB tb.P 12 [.ptr p 0] M33 fun y N=>∃ A S,y= .tup [.ptr A.f 0,i64 0]∧A.p=p∧S.fs=fs∧(∀ c∈A.all,c<N.next)∧(LF M18 g 0 160 A N S xY (fun _=>none)∨LG M18 g 160 A N S xY (fun _=>none) (fun _=>none)):=by
  by_cases hl:(cG (dY g fs):Int)≤g.sp
  ·refine (aAk (aC2 hg hl hk33 hc hb hf) (by decide)).mono ?_
   rintro y N ⟨A,S,h1,h2,h3,_,h4,_⟩
   exact⟨A,S,h1,h3,h4,h2.lt,.inl (h2.mono (by omega) (by omega))⟩
  ·refine (aPc hg (by omega) hk33 hc hb hf).mono ?_
   rintro y N ⟨A,S,h1,h2,h3,h4,h5⟩
   exact⟨A,S,h1,h3,h4,h5,.inr h2⟩
 refine hmount.mono ?_
 clear hmount hf hb hc hk33
 rintro _ M35 ⟨A0,S0,rfl,hap0,hfs0,hlt0,hst⟩
 refine⟨_,_,rfl,?_⟩
 refine bG fun K43 hK43=>?_
 refine aG aIB ?_
 simp only[cK,gE]
 refine aS (fun h=>absurd h (by decide)) fun _=>?_
 refine aG jA ?_
 simp only[cK]
 rw[hK43]
 dsimp only
 simp only[gE]
 clear hK43
 clear K43
 have hkM35:aE M18 M35 []:=hst.elim (fun h=>h.keepM) fun h=>h.keepM
 obtain⟨_,_,_,_,_,l5⟩:=bX (hkM35.get hw18 hb18 (by simp))
 refine aG (aR l5) ?_
 refine⟨_,_,_,_,_,rfl,?_⟩
 refine (aDB M35 hkM35.wf g hg).mono ?_
 rintro _ M51 ⟨rfl,hk51⟩
 simp only[i64,aJ]
 obtain⟨L,hL⟩:∃ L:Nat,dK g=(L:Int):=⟨(dK g).toNat,by omega⟩
 have hLt:(dK g).toNat=L:=by omega
 have hL0:0<L:=by omega
 have hL9:L≤160:=by omega
 rw[hL]
 refine (aKW M51 hk51.wf L (by omega)).mono ?_
 rintro _ M54 ⟨q,u,v,rfl,hB⟩
 have hS:∃ A S wb bu bw us ws x,DS M18 g fs A0.f p q L 0 M54 A S wb bu bw us ws x:=by
  have e1:List.replicate L (i64 (-1))=(List.replicate L (-1:Int)).map i64:=by rw[List.map_replicate]
  have hxs:=hB.xs
  have hys:=hB.ys
  rw[e1] at hxs hys
  have h0:0<(List.replicate L (-1:Int)).length:=by rw[List.length_replicate];omega
  obtain⟨bu,rfl,gu⟩:=hxs.own h0
  obtain⟨bw,rfl,gw⟩:=hys.own h0
  have iu:aO (.sl bu 0 (List.replicate L (-1:Int)).length (List.replicate L (-1:Int)).length (some 1)) bu:=⟨by omega,rfl⟩
  have iw:aO (.sl bw 0 (List.replicate L (-1:Int)).length (List.replicate L (-1:Int)).length (some 1)) bw:=⟨by omega,rfl⟩
  obtain⟨u1,u2⟩:=hB.xq bu iu
  obtain⟨w1,w2⟩:=hB.yq bw iw
  have hno:∀ c,M51.next≤c→c∉A0.all:=fun c hc hm=>by
   have:=hlt0 c hm
   have:=hk51.nxt
   omega
  have hT:∀ c∈[q,bu,bw],M51.next≤c∧c<M54.next:=fun c hc=>by
   simp only[List.mem_cons,List.not_mem_nil,or_false] at hc
   rcases hc with rfl|rfl|rfl
   ·exact⟨hB.ge,hB.keep.wf _ _ hB.main⟩
   ·exact⟨u1,hB.keep.wf _ _ gu⟩
   ·exact⟨w1,hB.keep.wf _ _ gw⟩
  refine⟨{ A0 with ext:=[q,bu,bw]++A0.ext },S0,?_⟩
  have hD:MX M54 { A0 with ext:=[q,bu,bw]++A0.ext } q bu bw (List.replicate L (-1)) (List.replicate L (-1)) eR false:=⟨hB.main,gu,gw,⟨fun e=>u2 e.symm,fun e=>w2 e.symm⟩,hno _ hB.ge,hno _ u1,hno _ w1⟩
  have hqg:M18.next≤q:=by
   have:=hkM35.nxt
   have:=hk51.nxt
   have:=hB.ge
   omega
  rcases hst with hF|hG
  ·exact⟨false,bu,bw,_,_,eR,⟨rfl,hap0,hfs0,hD,by simp,hqg,List.length_replicate,List.length_replicate,.inl ⟨rfl,xY,_,((hF.keep hk51).aside hB.keep hT).mono (by omega) (by omega),nJ hLt,nJ hLt⟩⟩⟩
  ·exact⟨true,bu,bw,_,_,eR,⟨rfl,hap0,hfs0,hD,by simp,hqg,List.length_replicate,List.length_replicate,.inr ⟨rfl,(hG.keep hk51).aside hB.keep fun c hc=>(hT c hc).1,rfl,rfl⟩⟩⟩
 clear hB hst hlt0 hk51 hkM35
 refine⟨fun z r Mx=>∃ (i:Nat) (A:bI) (S:Ps) (wb:Bool) (bu bw:Nat) (us ws:List Int) (x:AV),z=(i:Int)∧r=l.length-i∧i≤l.length∧DS M18 g fs A0.f p q L i Mx A S wb bu bw us ws x,
  by obtain⟨A,S,wb,bu,bw,us,ws,x,h⟩:=hS;exact⟨l.length,0,A,S,wb,bu,bw,us,ws,x,rfl,rfl,Nat.zero_le _,h⟩,?_⟩
 clear hS hfs0 hap0
 rintro _ _ _ M59 ⟨i,A,S,wb,bu,bw,us,ws,xx,rfl,rfl,hi,hDS⟩
 have ha59:=ha18.keep0 hw18 hDS.keepM
 refine aG (lF (ha59.len (M':=M59))) ?_
 simp only[aJ]
 refine aS (fun hlt=>?_) (fun _=>?_)
 rotate_left
 ·refine (aCt M59 hDS.keepM.wf).mono ?_
  rintro y N rfl
  simp only[cK]
 have hlt:i<l.length:=Int.ofNat_lt.1 (of_decide_eq_true hlt)
 refine bG fun K467 hK467=>?_
 have next:∀ N A S wb bu bw us ws x,DS M18 g fs A0.f p q L ((i+1:Nat):Int) N A S wb bu bw us ws x→K467 N:=fun N A S wb bu bw us ws x h=>by
  rw[hK467]
  exact⟨l.length-(i+1),by omega,i+1,A,S,wb,bu,bw,us,ws,x,dM (by omega),rfl,hlt,h⟩
 clear hK467
 obtain⟨b,o,h1,h2⟩:=ha59.at hlt
 refine aG (aX h1) ?_
 simp only[bR]
 refine aG (aR h2) ?_
 generalize l[i]=t
 refine⟨_,_,_,_,_,_,rfl,?_⟩
 refine bG fun M107 hM107=>?_
 have hM107:M107=M59.new (.cells [i64 0,i64 0,.val (.int .u8 0),i64 0,i64 0,.val (.int .u8 0)] true):=hM107
 have hk107:aE M59 M107 []:=by rw[hM107];exact aE.new hDS.keepM.wf _
 have hg107:M107.get M59.next=some (.cells [i64 0,i64 0,.val (.int .u8 0),i64 0,i64 0,.val (.int .u8 0)] true):=by rw[hM107];exact get_new _ _
 clear hM107
 refine aG (lM (aOu t hg107 rfl)) ?_
 have hk108:aE M59 (M107.put M59.next (.cells (vP t) true)) []:=yN hk107 (Nat.le_refl _) (hk107.wf _ _ hg107) _
 have hg108:(M107.put M59.next (.cells (vP t) true)).get M59.next=some (.cells (vP t) true):=by rw[aC.get_put,if_pos rfl]
 generalize M107.put M59.next (.cells (vP t) true)=M87 at hk108 hg108 ⊢
 have hqA:∀ P B,LF M18 g i (160+31000*(i:Int)) A M59 S P B→M59.next∉A.all:=fun P B h hm=>by
  have:=h.lt _ hm
  omega
 have hqq:M59.next≠q:=fun e=>by
  have:=hDS.keepM.wf _ _ hDS.mx.main
  omega
 have hqA:wb=false→M59.next∉A.all:=fun e=>by
  rcases hDS.st with⟨_,P,B,h,_⟩|⟨e',_⟩
  ·exact hqA P B h
  ·rw[e] at e';cases e'
 have hDS:=hDS.keep0 hk108
 clear hk107 hg107 hk108
 generalize M59.next=qa at hqA hqq hg108 ⊢
 have ld:∀ {N:aC},N.get qa=some (.cells (vP t) true)→aH tb 3 (.ptr qa 0) N=some (i64 t.w,N)∧aH tb 3 (.ptr qa 1) N=some (i64 t.p,N)∧aH tb 5 (.ptr qa 2) N=some (vR t.v,N):=fun h=>
  ⟨aR (dI dR rfl h (o:=0) rfl),aR (dI dR rfl h (o:=1) rfl),aR (dI ty5 rfl h (o:=2) rfl)⟩
 have hD:=hDS.mx
 have hul:=hDS.ul
 have hwl:=hDS.wl
 have hqx:=hDS.qx
 have hqg:=hDS.qg
 have haf:=hDS.af
 have hap:=hDS.ap
 have hfs:=hDS.fs
 have hwM:=hDS.keepM.wf
 refine aG cZ ?_
 refine aG vO.1 ?_
 simp only[bR]
 refine aG (ld hg108).2.1 ?_
 simp only[i64,aJ]
 refine aG hD.ldu ?_
 refine aG (lF (hD.uat.len (M':=M87))) ?_
 simp only[aJ]
 rw[hul]
 refine (aQc M87 t.p L hL0 (by omega)).mono ?_
 rintro _ M87 ⟨rfl,rfl⟩
 simp only[i64,aJ]
 have hpl:=aEt t.p hL0
 generalize aAL t.p L=pg at hpl ⊢
 have hz:0≤(pg:Int)∧(pg:Int)<dK g:=by omega
 rw[← haf]
 refine hDS.deg.mono ?_
 rintro _ M87 ⟨rfl,rfl⟩
 simp only[cK]
 refine aG (ld hg108).1 ?_
 simp only[i64,aJ]
 refine bG fun K199 hK199=>?_
 have bx:∀ {N:aC},(∀ c,c<M18.next→N.get c=M18.get c)→aW tb 3 (.ptr M.next 2) N=some (i64 g.by')∧aW tb 3 (.ptr M.next 3) N=some (i64 g.sp):=fun {N} h=>by
  have q1:=bX (M:=N) (b:=M.next) (g:=g) (rw':=true) (by rw[h _ hlt18];exact hb18)
  exact⟨q1.2.2.1,q1.2.2.2.1⟩
 have ok0:wb=false→∀ N A' S' P' B' bu us bw ws x,LF M18 g ((i+1:Nat):Int) (160+31000*((i+1:Nat):Int)) A' N S' P' B'→A'.f=A.f→A'.p=p→S'.fs=fs→MX N A' q bu bw us ws x false→q∈A'.ext→us.length=L→ws.length=L→pD g us (fD P' B')→pD g ws B'→K199 0 N:=by
  intro hwb N A' S' P' B' bu us bw ws x hF haf' hap' hfs' hD' hqx' hul' hwl' hT hTw
  rw[hK199]
  dsimp only
  refine bG fun K406 hK406=>?_
  rw[hwb]
  simp only[Bool.not_false,gE,gU]
  refine aS (fun h=>absurd h (by decide)) fun _=>?_
  refine aS (fun h=>absurd h (by decide)) fun _=>?_
  refine aG cZ ?_
  refine aG vO.1 ?_
  simp only[bR]
  refine aG hD'.ldu ?_
  refine aG (aR (bx hF.low).1) ?_
  simp only[i64,aJ]
  rw[← haf']
  refine (aOR hF hD'.uat hT).mono ?_
  rintro _ N2 ⟨rfl,hF2,hk2⟩
  simp only[cK,Bool.not_true]
  rw[hK406]
  dsimp only
  simp only[gE]
  refine bG fun K408 hK408=>?_
  refine aS (fun h=>absurd h (by decide)) fun _=>?_
  rw[hK408]
  dsimp only
  refine aS (fun h=>absurd h (by decide)) fun _=>?_
  exact next N2 A' S' false bu bw us ws x ⟨haf'.trans haf,hap',hfs',hD'.keep0 hF.wf hk2,hqx',hqg,hul',hwl',.inl ⟨rfl,P',B',hF2,hT,hTw⟩⟩
 have fin:∀ c N A' S' P' B0 B' bu us bw ws x fl n',(wb=false∧c=12∨wb=true∧c=13)→n'≤1000000000→LG M18 g n' A' N S' P' B0 B'→A'.f=A.f→A'.p=p→S'.fs=fs→MX N A' q bu bw us ws x fl→pD g us (fD P' B0)→ws.length=L→(pD g ws B'∨fl=true∧x=fZ bu us.length∧pD g us B')→K199 c N:=by
  intro c N A' S' P' B0 B' bu us bw ws x fl n' hc hn hG haf' hap' hfs' hD' hT hwl' hB
  have hmany:¬ ((fs.length:Int)≤g.sp):=by
   have h1:=hG.lost
   have h2:=aEa S'
   rw[hG.g] at h1
   rw[hfs'] at h2
   omega
  rw[hK199]
  dsimp only
  refine bG fun K406 hK406=>?_
  have six:∀ N',LG M18 g n' A' N' S' P' B0 B'→MX N' A' q bu bw us ws x fl→K406 false N':=by
   intro N' hG hD'
   rw[hK406]
   dsimp only
   simp only[gE]
   refine bG fun K408 hK408=>?_
   have k8:K408 true:=by
    rw[hK408]
    dsimp only
    simp only[gU]
    have hmt:=aKg hG hn
    rw[hap'] at hmt
    refine hmt.mono ?_
    clear hmt
    rintro _ N1 ⟨A2,S2,rfl,hG1,hap2,hft2,hfs2,hk1,hal1⟩
    refine⟨_,_,rfl,?_⟩
    refine bG fun K416 hK416=>?_
    refine aS (fun h=>absurd h (by decide)) fun _=>?_
    refine aG jA ?_
    simp only[cK]
    rw[hK416]
    dsimp only
    simp only[gE]
    refine bG fun K430 hK430=>?_
    refine (qN hG1).mono ?_
    rintro _ _ ⟨rfl,rfl⟩
    simp only[cK]
    have hfft:A'.f∉A'.ft:=by
     have h:=hG.fn.dis
     simp only[bI.all,List.nodup_cons] at h
     exact fun hm=>h.1 (by simp[hm])
    have hfl1:=hk1.get hG.fn.wf hG.fn.flA hfft
    have hdl:aH tb 4 (.ptr A'.f 13) _=some (.val (.bool true),_):=aR (dI ty4 rfl hfl1 (o:=13) (v:= .val (.bool true)) (by
     have:(jF (dO A' S'))[13]? =some (bv S'.deg):=rfl
     rw[this,hG.deg]))
    rw[← haf']
    refine (aQq hdl).mono ?_
    rintro _ _ ⟨rfl,rfl⟩
    simp only[cK]
    refine aG aOn ?_
    simp only[cK,gE]
    rw[hK430]
    dsimp only
    simp only[gE]
    refine bG fun K465 hK465=>?_
    have hD1:=hD'.keep hG.fn.wf (hk1.mono fun c hc=>by simp[bI.all,hc])
    have yes:∀ N:aC,N.WF→aB tb.P 10 [] N fun y N=>zB y fun b=>K465 b N:=fun N hN=>by
     refine (aCt N hN).mono ?_
     rintro y N rfl
     simp only[cK]
     rw[hK465]
    refine aG cZ ?_
    refine aG vO.2 ?_
    simp only[bR]
    refine aG hD1.ldw ?_
    refine aG (aR (bx hG1.low).1) ?_
    simp only[i64,aJ]
    rcases hB with hB|⟨rfl,rfl,hB⟩
    ·refine (yS hG1 hD1.wat hB).mono ?_
     rintro _ N3 ⟨rfl,hG3,hk3⟩
     simp only[cK,gU]
     exact yes N3 hG3.fn.wf
    ·refine (aKu hG1 hD1.wat (l0:=us) hB (by omega)).mono ?_
     rintro _ N3 ⟨b,rfl,hG3,hk3⟩
     have hD3:=hD1.keep0 hG1.fn.wf hk3
     simp only[cK]
     refine aS (fun _=>yes N3 hG3.fn.wf) fun _=>?_
     refine aG cZ ?_
     refine aG aBD.2 ?_
     simp only[bR]
     refine aG hD3.ldf ?_
     simp only[cK,gU]
     refine aG cZ ?_
     refine aG aBD.1 ?_
     simp only[bR]
     refine aG (hD3.ldx rfl) ?_
     refine aG (aR (bx hG3.low).1) ?_
     simp only[i64,aJ]
     refine (yS hG3 hD3.uat hB).mono ?_
     rintro _ N4 ⟨rfl,hG4,hk4⟩
     simp only[cK,gU]
     exact yes N4 hG4.fn.wf
   rcases hc with⟨_,rfl⟩|⟨_,rfl⟩
   ·exact aS (fun _=>k8) (fun h=>absurd h (by decide))
   ·exact aS (fun h=>absurd h (by decide)) (fun _=>k8)
  clear hK406
  have hbx:=bx hG.low
  rcases hc with⟨hwb,hc⟩|⟨hwb,hc⟩
  ·rw[hwb,hc]
   simp only[Bool.not_false,gE,gU]
   refine aS (fun _=>?_) (fun h=>absurd h (by decide))
   refine aS (fun h=>absurd h (by decide)) fun _=>?_
   rw[← haf']
   refine (qN hG).mono ?_
   rintro _ _ ⟨rfl,rfl⟩
   simp only[cK,Bool.not_true,gE]
   refine aS (fun _=>?_) (fun h=>absurd h (by decide))
   refine aG (lF hx18.len) ?_
   simp only[aJ]
   refine aG (aR hbx.2) ?_
   simp only[i64,aJ]
   refine aS (fun h=>absurd (of_decide_eq_true h) hmany) fun _=>?_
   refine aG cZ ?_
   refine aG vO.1 ?_
   simp only[bR]
   refine aG hD'.ldu ?_
   refine aG (aR hbx.1) ?_
   simp only[i64,aJ]
   refine (yS hG hD'.uat hT).mono ?_
   rintro _ N2 ⟨rfl,hG2,hk2⟩
   simp only[cK,Bool.not_true]
   exact six N2 hG2 (hD'.keep0 hG.fn.wf hk2)
  ·rw[hwb,hc]
   simp only[Bool.not_true,gE,gU]
   refine aS (fun h=>absurd h (by decide)) fun _=>?_
   refine aS (fun _=>?_) (fun h=>absurd h (by decide))
   refine aG (lF hx18.len) ?_
   simp only[aJ]
   refine aG (aR hbx.2) ?_
   simp only[i64,aJ]
   refine aS (fun h=>absurd (of_decide_eq_true h) hmany) fun _=>?_
   refine aG cZ ?_
   refine aG vO.1 ?_
   simp only[bR]
   refine aG hD'.ldu ?_
   refine aG (aR hbx.1) ?_
   simp only[i64,aJ]
   rw[← haf']
   refine (yS hG hD'.uat hT).mono ?_
   rintro _ N2 ⟨rfl,hG2,hk2⟩
   simp only[cK,Bool.not_true]
   exact six N2 hG2 (hD'.keep0 hG.fn.wf hk2)
 clear hK199
 have skip:K467 M87:=next M87 A S wb bu bw us ws xx (hDS.up (by omega))
 refine aS (fun _=>?_) (fun _=>aS (fun _=>?_) (fun _=>aS (fun _=>?_) (fun _=>skip)))
 ·
  refine aG (ld hg108).2.2 ?_
  simp only[vR,aJ]
  refine aG (aR (bx (fun c hc=>hDS.keepM.old c hc (by simp))).1) ?_
  simp only[i64,aJ]
  have hn1:((g.by'.toNat:Nat):Int)=g.by':=by omega
  rw[show AV.val (.int .i64 g.by')=i64 ((g.by'.toNat:Nat):Int) from congrArg i64 hn1.symm]
  refine (vY M87 hwM _ g.by'.toNat (by omega) (by omega)).mono ?_
  rintro y95 M96 ⟨hk96,hy,_⟩
  rcases hDS.st with⟨hwb,P,B,hF,hT,hTw⟩|⟨hwb,hG,hu,hw'⟩
  ·refine (aDI (hF.keep hk96) hz hy (by rw[iH];omega)).mono ?_
   rintro _ M98 ⟨rfl,hF2,hk98⟩
   simp only[i64,aJ]
   have hg98:=hk98.get hk96.wf (hk96.get hwM hg108 (by simp)) (hqA hwb)
   have hD2:=(hD.keep0 hwM hk96).keep hk96.wf hk98
   refine aS (fun _=>?_) (fun h=>absurd h (by decide))
   refine aGg hF2 hD2 hqx hqg (by omega) (by omega) fun N b hF3 hD3 hk3 hne hgb=>?_
   dsimp only
   have hg3:=hk3.get hF2.wf hg98 (by simpa using hqq)
   refine aG cZ ?_
   refine aG vO.1 ?_
   simp only[bR]
   refine aG hD3.ldu ?_
   refine aG (ld hg3).2.2 ?_
   simp only[vR,aJ]
   refine aG (aFB (i:=pg) (by omega)) ?_
   simp only[bR]
   obtain⟨s1,hD4,hk4⟩:=hD3.setu hF3.wf hne (i:=pg) (by omega) (IntKind.wrap .i64 (t.v.toNat:Int))
   refine aG s1 ?_
   have hF4:=hF3.beside hk4 hD3.out.2.1 (by simp) hgb
   have hb8:=t.v.isLt
   have ew:IntKind.wrap .i64 (t.v.toNat:Int)=(t.v.toNat:Int):=aM (by omega) (by omega)
   rw[ew] at hD4 hF4 ⊢
   refine ok0 hwb _ _ S _ B b _ bw ws xx (hF4.mono (by omega) (by omega)) rfl hap hfs hD4 (by simp[hqx]) (by rw[List.length_set];exact hul) hwl ⟨by rw[List.length_set];exact hT.1,fun s hs=>?_⟩ hTw
   have hs':s<us.length:=by rwa [List.length_set] at hs
   rw[aCv]
   by_cases e:s=pg
   ·subst e
    rw[if_pos rfl,List.getElem_set_self,if_neg (by omega)]
    unfold aC3
    rw[aE5]
   ·rw[if_neg (by omega),List.getElem_set_ne (fun e'=>e e'.symm),hT.2 s hs']
  ·refine (aJS (hG.keep hk96) hz hy (by rw[iH];omega)).mono ?_
   rintro _ M98 ⟨rfl,hG2,hk98⟩
   simp only[i64,aJ]
   refine aS (fun h=>absurd h (by decide)) fun _=>?_
   refine fin 13 M98 A S xY _ _ bu us bw ws xx false 160 (.inr ⟨hwb,rfl⟩) (by decide) hG2 rfl hap hfs ((hD.keep0 hwM hk96).keep0 hk96.wf hk98) (by rw[hu];exact nJ hLt) hwl (.inl (by rw[hw'];exact nJ hLt))
 ·
  refine aG cZ ?_
  refine aG vO.1 ?_
  simp only[bR]
  refine aG hD.ldu ?_
  refine aG (aFB (i:=pg) (by omega)) ?_
  simp only[bR]
  refine aG (hD.ldi (i:=pg) (by omega)) ?_
  simp only[i64,aJ]
  refine aS (fun _=>skip) fun hnn=>?_
  have hnn:¬ us[pg]<0:=of_decide_eq_false hnn
  rcases hDS.st with⟨hwb,P,B,hF,hT,hTw⟩|⟨hwb,hG,hu,hw'⟩
  ·refine (aLa hF hz).mono ?_
   rintro y M98 ⟨_,t2⟩
   obtain⟨rfl,hF2,hk98⟩:=t2 (by rw[hT.2 pg (by omega),if_neg hnn];simp)
   simp only[i64,aJ]
   have hD2:=hD.keep hwM hk98
   refine aS (fun _=>?_) (fun h=>absurd h (by decide))
   refine aGg hF2 hD2 hqx hqg (by omega) (by omega) fun N b hF3 hD3 hk3 hne hgb=>?_
   dsimp only
   refine aG cZ ?_
   refine aG vO.1 ?_
   simp only[bR]
   refine aG hD3.ldu ?_
   refine aG (aFB (i:=pg) (by omega)) ?_
   simp only[bR]
   obtain⟨s1,hD4,hk4⟩:=hD3.setu hF3.wf hne (i:=pg) (by omega) (-1)
   refine aG s1 ?_
   have hF4:=hF3.beside hk4 hD3.out.2.1 (by simp) hgb
   refine ok0 hwb _ _ S _ B b _ bw ws xx (hF4.mono (by omega) (by omega)) rfl hap hfs hD4 (by simp[hqx]) (by rw[List.length_set];exact hul) hwl ⟨by rw[List.length_set];exact hT.1,fun s hs=>?_⟩ hTw
   have hs':s<us.length:=by rwa [List.length_set] at hs
   rw[aCv]
   by_cases e:s=pg
   ·subst e
    rw[if_pos rfl,List.getElem_set_self,if_pos (by decide)]
   ·rw[if_neg (by omega),List.getElem_set_ne (fun e'=>e e'.symm),hT.2 s hs']
  ·exact absurd (by
    have h:us[pg]? =some (-1):=by rw[hu,List.getElem?_replicate,if_pos hpl]
    rw[List.getElem?_eq_getElem (by omega)] at h
    injection h with h
    rw[h];decide) hnn
 ·
  refine aG cZ ?_
  refine aG vO.1 ?_
  simp only[bR]
  refine aG hD.ldu ?_
  refine aG cZ ?_
  refine aG aBD.1 ?_
  simp only[bR]
  refine aG (hD.st (i:=2) (v:=fZ bu us.length) (by omega) rfl) ?_
  have hD2:MX (M87.put q (.cells [fZ bu us.length,fZ bw ws.length,fZ bu us.length,.val (.bool false)] true)) A q bu bw us ws (fZ bu us.length) false:=hD.put hD.us hD.ws hD.ne hD.out.2
  have hk2:aE M87 (M87.put q (.cells [fZ bu us.length,fZ bw ws.length,fZ bu us.length,.val (.bool false)] true)) [q]:=aE.put hwM (hwM _ _ hD.main) _
  have e2:M87.put q (.cells ([fZ bu us.length,fZ bw ws.length,xx,.val (.bool false)].set 2 (fZ bu us.length)) true)=M87.put q (.cells [fZ bu us.length,fZ bw ws.length,fZ bu us.length,.val (.bool false)] true):=rfl
  rw[e2]
  dsimp only
  generalize M87.put q (.cells [fZ bu us.length,fZ bw ws.length,fZ bu us.length,.val (.bool false)] true)=N2 at hD2 hk2 ⊢
  refine aG cZ ?_
  refine aG aBD.2 ?_
  simp only[bR]
  refine aG (hD2.stf true) ?_
  have hD3:MX (N2.put q (.cells [fZ bu us.length,fZ bw ws.length,fZ bu us.length,.val (.bool true)] true)) A q bu bw us ws (fZ bu us.length) true:=hD2.put hD2.us hD2.ws hD2.ne hD2.out.2
  have hk3:aE N2 (N2.put q (.cells [fZ bu us.length,fZ bw ws.length,fZ bu us.length,.val (.bool true)] true)) [q]:=aE.put hk2.wf (hk2.wf _ _ hD2.main) _
  dsimp only
  generalize N2.put q (.cells [fZ bu us.length,fZ bw ws.length,fZ bu us.length,.val (.bool true)] true)=N3 at hD3 hk3 ⊢
  rcases hDS.st with⟨hwb,P,B,hF,hT,hTw⟩|⟨hwb,hG,hu,hw'⟩
  ·have hF3:=(hF.beside hk2 hD.out.1 hqx hqg).beside hk3 hD.out.1 hqx hqg
   refine (aH2 hF3 (by omega) (by omega)).mono ?_
   rintro y N4 ⟨hk4,h4⟩
   have hD4:=hD3.keep hF3.wf hk4
   rcases h4 with⟨rfl,S',hF4,hfs'⟩|⟨rfl,S',P',B0,B',hPB,hB',hG4,hfs'⟩
   ·simp only[i64,aJ]
    refine bG fun K191 hK191=>?_
    refine aS (fun _=>?_) (fun h=>absurd h (by decide))
    refine aG cZ ?_
    refine aG vO.1 ?_
    simp only[bR]
    refine aG hD4.ldu ?_
    refine aG cZ ?_
    refine aG vO.2 ?_
    simp only[bR]
    refine aG (hD4.st (i:=1) (v:=fZ bu us.length) (by omega) rfl) ?_
    have hD5:MX (N4.put q (.cells [fZ bu us.length,fZ bu us.length,fZ bu us.length,.val (.bool true)] true)) A q bu bu us us (fZ bu us.length) true:=hD4.put hD4.us hD4.us ⟨hD4.ne.1,hD4.ne.1⟩ ⟨hD4.out.2.1,hD4.out.2.1⟩
    have hk5:aE N4 (N4.put q (.cells [fZ bu us.length,fZ bu us.length,fZ bu us.length,.val (.bool true)] true)) [q]:=aE.put hk4.wf (hk4.wf _ _ hD4.main) _
    have e5:N4.put q (.cells ([fZ bu us.length,fZ bw ws.length,fZ bu us.length,.val (.bool true)].set 1 (fZ bu us.length)) true)=N4.put q (.cells [fZ bu us.length,fZ bu us.length,fZ bu us.length,.val (.bool true)] true):=rfl
    rw[e5]
    dsimp only
    generalize N4.put q (.cells [fZ bu us.length,fZ bu us.length,fZ bu us.length,.val (.bool true)] true)=N5 at hD5 hk5 ⊢
    refine aG cZ ?_
    refine aG aBD.2 ?_
    simp only[bR]
    refine aG (hD5.stf false) ?_
    have hD6:MX (N5.put q (.cells [fZ bu us.length,fZ bu us.length,fZ bu us.length,.val (.bool false)] true)) A q bu bu us us (fZ bu us.length) false:=hD5.put hD5.us hD5.us hD5.ne ⟨hD4.out.2.1,hD4.out.2.1⟩
    have hk6:aE N5 (N5.put q (.cells [fZ bu us.length,fZ bu us.length,fZ bu us.length,.val (.bool false)] true)) [q]:=aE.put hk5.wf (hk5.wf _ _ hD5.main) _
    dsimp only
    generalize N5.put q (.cells [fZ bu us.length,fZ bu us.length,fZ bu us.length,.val (.bool false)] true)=N6 at hD6 hk6 ⊢
    rw[hK191]
    dsimp only
    refine aS (fun h=>absurd h (by decide)) fun _=>?_
    have hF6:=(hF4.beside hk5 hD.out.1 hqx hqg).beside hk6 hD.out.1 hqx hqg
    exact ok0 hwb N6 A S' xY (fD P B) bu us bu us (fZ bu us.length) (hF6.mono (by omega) (by omega)) rfl hap (hfs'.trans hfs) hD6 hqx hul hul hT hT
   ·simp only[i64,aJ]
    refine bG fun K191 hK191=>?_
    refine aS (fun h=>absurd h (by decide)) fun _=>?_
    rw[hK191]
    dsimp only
    refine aS (fun h=>absurd h (by decide)) fun _=>?_
    have hT':pD g us (fD P' B0):=by
     rcases hPB with⟨rfl,rfl⟩|⟨rfl,rfl⟩
     ·exact hT
     ·exact hT
    refine fin 12 N4 A S' P' B0 B' bu us bw ws (fZ bu us.length) true _ (.inl ⟨hwb,rfl⟩) (by omega) hG4 rfl hap (hfs'.trans hfs) hD4 hT' hwl ?_
    rcases hB' with rfl|rfl
    ·exact .inl hTw
    ·exact .inr ⟨rfl,rfl,hT⟩
  ·have hG3:=(hG.beside hk2 hD.out.1 hqx hqg).beside hk3 hD.out.1 hqx hqg
   refine (aJi hG3).mono ?_
   rintro _ _ ⟨rfl,rfl⟩
   simp only[i64,aJ]
   refine bG fun K191 hK191=>?_
   refine aS (fun h=>absurd h (by decide)) fun _=>?_
   rw[hK191]
   dsimp only
   refine aS (fun _=>?_) (fun h=>absurd h (by decide))
   refine aG cZ ?_
   refine aG aBD.2 ?_
   simp only[bR]
   refine aG (hD3.stf false) ?_
   dsimp only
   have hD4:=hD3.put (x':=fZ bu us.length) (fl':=false) hD3.us hD3.ws hD3.ne hD3.out.2
   have hk4:=aE.put hk3.wf (hk3.wf _ _ hD3.main) (.cells [fZ bu us.length,fZ bw ws.length,fZ bu us.length,.val (.bool false)] true)
   refine fin 13 _ A S xY _ _ bu us bw ws _ false 160 (.inr ⟨hwb,rfl⟩) (by decide) (hG3.beside hk4 hD.out.1 hqx hqg) rfl hap hfs hD4 (by rw[hu];exact nJ hLt) hwl (.inl (by rw[hw'];exact nJ hLt))
open Go.ChangeShapes Go.WideShapes Go.RowKit
theorem aOG{r:List Value}(h:lT [.i64,.bool,.i64] r):∃ f:jK,ofVs r=fF f:=by
 match r,lT.length h with
 | [v1,v2,v3],_=>
   obtain⟨h1,h2,h3,_⟩:=h
   obtain⟨z1,rfl,_⟩:=h1
   obtain⟨b2,rfl⟩:=h2
   obtain⟨z3,rfl,_⟩:=h3
   exact⟨⟨z1,b2,z3⟩,rfl⟩
def aNZ:List FK:=[.i64,.bool,.i64]
theorem aBn:∀ rows:List (List Value),(∀ r∈rows,lT aNZ r)→∃ xs:List jK,xs.length=rows.length∧(rows.flatMap fun r=>ofVs r)=xs.flatMap fF
 | [],_=>⟨[],rfl,rfl⟩
 | r::rows,h=>by
   obtain⟨xs,g1,g2⟩:=aBn rows fun r' hr=>h r' (List.mem_cons_of_mem _ hr)
   obtain⟨a,g4⟩:=aOG (h r List.mem_cons_self)
   exact⟨a::xs,by rw[List.length_cons,List.length_cons,g1],by rw[List.flatMap_cons,List.flatMap_cons,g2,g4]⟩
theorem aIh{H:Type}{enc:TypeId×Value→H}{P:Program}{W:World}{t e:TypeId}(ht:P.underlying t=some (.slice e))(hl:rV P 20 e=some aNZ)(hc:P.cellsOf e=aNZ.length){base:Nat}{v:Value}{d:DataW H}{ps:List MemPlace}
 (hval:Value.okWide P W .any base t v) (hd:DataW.Trod enc P W 0 (fun _=>true) true t v d ps):
 ∃ (x:AV) (xs:List jK),VR (lS W) x v∧cD (rM W) x xs∧xs.length≤9223372036854775807:=by
 obtain⟨x,rows,h1,h2,h3,h4⟩:=xE ht hl hc (Nat.zero_lt_succ _) hval hd
 obtain⟨xs,g1,g2⟩:=aBn rows h4
 refine⟨x,xs,h1,?_,by rw[g1];exact h3⟩
 unfold cD
 rw[g1,← g2]
 exact h2
theorem aMb{r:List Value}(h:lT [.i64,.i64,.u8,.i64,.i64,.u8] r):∃ x:xX,ofVs r=vP x:=by
 match r,lT.length h with
 | [v1,v2,v3,v4,v5,v6],_=>
   obtain⟨h1,h2,h3,h4,h5,h6,_⟩:=h
   obtain⟨z1,rfl,_⟩:=h1
   obtain⟨z2,rfl,_⟩:=h2
   obtain⟨b3,rfl⟩:=h3
   obtain⟨z4,rfl,_⟩:=h4
   obtain⟨z5,rfl,_⟩:=h5
   obtain⟨b6,rfl⟩:=h6
   exact⟨⟨z1,z2,b3,z4,z5,b6⟩,rfl⟩
def aJd:List FK:=[.i64,.i64,.u8,.i64,.i64,.u8]
theorem zV:∀ rows:List (List Value),(∀ r∈rows,lT aJd r)→∃ xs:List xX,xs.length=rows.length∧(rows.flatMap fun r=>ofVs r)=xs.flatMap vP
 | [],_=>⟨[],rfl,rfl⟩
 | r::rows,h=>by
   obtain⟨xs,g1,g2⟩:=zV rows fun r' hr=>h r' (List.mem_cons_of_mem _ hr)
   obtain⟨a,g4⟩:=aMb (h r List.mem_cons_self)
   exact⟨a::xs,by rw[List.length_cons,List.length_cons,g1],by rw[List.flatMap_cons,List.flatMap_cons,g2,g4]⟩
theorem aG5{H:Type}{enc:TypeId×Value→H}{P:Program}{W:World}{t e:TypeId}(ht:P.underlying t=some (.slice e))(hl:rV P 20 e=some aJd)(hc:P.cellsOf e=aJd.length){base:Nat}{v:Value}{d:DataW H}{ps:List MemPlace}
 (hval:Value.okWide P W .any base t v) (hd:DataW.Trod enc P W 0 (fun _=>true) true t v d ps):
 ∃ (x:AV) (xs:List xX),VR (lS W) x v∧lV (rM W) x xs∧xs.length≤9223372036854775807:=by
 obtain⟨x,rows,h1,h2,h3,h4⟩:=xE ht hl hc (Nat.zero_lt_succ _) hval hd
 obtain⟨xs,g1,g2⟩:=zV rows h4
 refine⟨x,xs,h1,?_,by rw[g1];exact h3⟩
 unfold lV
 rw[g1,← g2]
 exact h2
theorem rW(M:aC)(hw:M.WF)(bl pg by' sp tr:Int)(hr:∀ y∈[bl,pg,by',sp,tr], -9223372036854775808≤y∧y≤9223372036854775807)
 (x:AV) (fs:List jK) (hx:cD M x fs) (hl:fs.length≤9223372036854775807) (a:AV) (l:List xX) (ha:lV M a l) (hll:l.length≤9223372036854775807):
 aB tb.P 7 [.agg [.val (.int .i64 bl),.val (.int .i64 pg),.val (.int .i64 by'),.val (.int .i64 sp),.val (.int .i64 tr)],x,a] M fun y _=>y= .val (.bool true):=
 aAO M hw ⟨bl,pg,by',sp,tr⟩ x fs hx hl a l ha hll
end Go.Proofs.YtlogedcoiogagaaGreat
