import Derived.Test.YteaogiidncpofaaGreatK3
set_option linter.unusedSimpArgs false
set_option linter.unusedVariables false
set_option linter.unusedSectionVars false
set_option maxRecDepth 100000
namespace Go.Proofs.YteaogiidncpofaaGreat
open Go.AM
structure bL where
 f:Nat
 p:Nat
 mf:Nat
 mb:Nat
 mp:Nat
 ms:Nat
 ft:List Nat
 fsA:AV
 ext:List Nat
def bL.all(A:bL):List Nat:=A.f::A.mf::A.mb::A.mp::A.ms::A.ft
def bL.av(A:bL):List Nat:=A.all++A.ext
def bL.wr(A:bL):List Nat:=A.f::A.mf::A.ft
def dZ(A:bL)(S:Ps):Fl:=⟨.ptr A.p 0,S.g,A.mf,A.mb,A.mp,A.ms,S.seq,S.ep,S.now,S.deg⟩
def aCV(v:sD):List (BitVec 8):=pB v.d v.t.k v.t.p v.t.s v.t.e
structure aFY (C:aQ) (S:Ps):Prop where
 g:C.g=S.g
 fs:C.fs=S.fs
 calm:aFf C
 ops:C.ops=S.ops
 blk:∀ (b:Nat) B,C.bs[b]? =some B→∃ X,S.x[b]? =some X∧B.next=X.v.length∧B.wear=X.w∧B.done=X.n∧(∀ j v,X.v[j]? =some v→jD B (aV C.g) j=aCV v)∧∀ j,X.v.length≤j→j<nG S→jD B (aV C.g) j=List.replicate (aV C.g) 255#8
structure FR (A:bL) (M:aC) (S:Ps) (C:aQ) (m:List iK):Prop where
 wf:M.WF
 inv:eW S
 fl:M.get A.f=some (.cells (jZ (dZ A S)) true)
 chip:bF M A.p C
 foot:foot A.p C=A.ft
 fsA:C.fsA=A.fsA
 rel:aFY C S
 mf:M.get A.mf=some (.map (mK m))
 nd:(m.map (·.1)).Nodup
 lnk:∀ q:iK,q∈m→∃ (b i:Nat) (v:sD),q.1=((b:Int),(i:Int))∧bI S b i=some v∧(q.2.k=v.t.k∧q.2.p=v.t.p∧q.2.s=v.t.s∧q.2.e=v.t.e)∧aI M q.2.d v.d∧q.2.d.one=true∧∀ c,aN q.2.d c→c∉A.av
 hav:∀ (b i:Nat) v,bI S b i=some v→∃ q,q∈m∧q.1=((b:Int),(i:Int))
 dis:A.all.Nodup
 fsx:∀ c,aN A.fsA c→c∉A.av
section
variable {A:bL} {M:aC} {S:Ps} {C:aQ} {m:List iK}
theorem FR.flat(h:FR A M S C m):sX M A.f (dZ A S) A.p C:=⟨h.fl,h.chip,rfl,h.rel.g.symm⟩
theorem bL.wr_av{A:bL}{c:Nat}(h:c∈A.wr):c∈A.av:=by
 simp only[bL.wr,bL.av,bL.all,List.mem_cons,List.mem_append] at h ⊢
 rcases h with h|h|h
 ·exact .inl (.inl h)
 ·exact .inl (.inr (.inl h))
 ·exact .inl (.inr (.inr (.inr (.inr (.inr h)))))
theorem FR.lt(h:FR A M S C m):∀ c∈A.wr,c<M.next:=by
 intro c hc
 simp only[bL.wr,List.mem_cons] at hc
 rcases hc with rfl|rfl|hc
 ·exact h.wf _ _ h.fl
 ·exact h.wf _ _ h.mf
 ·exact h.chip.lt h.wf c (by rw[h.foot];exact hc)
theorem FR.keepS{N:aC}{T:List Nat}(h:FR A M S C m)(hk:aD M N T)(hT:∀ c∈T,c∉A.wr∧¬ aN A.fsA c∧∀ q∈m,¬ aN q.2.d c):FR A N S C m:=by
 have hn:∀ c,c∈A.wr→c∉T:=fun c hc ht=>(hT c ht).1 hc
 refine⟨hk.wf,h.inv,hk.get h.wf h.fl (hn _ (by simp[bL.wr])),h.chip.keepS h.wf hk (fun b hb=>⟨fun hf=>(hT b hb).1 ?_,by rw[h.fsA];exact (hT b hb).2.1⟩),h.foot,h.fsA,h.rel,hk.get h.wf h.mf (hn _ (by simp[bL.wr])),h.nd,fun q hq=>?_,h.hav,h.dis,h.fsx⟩
 ·rw[h.foot] at hf
  simp[bL.wr,hf]
 ·obtain⟨b,i,v,e1,e2,e3,e4,e5,e6⟩:=h.lnk q hq
  exact⟨b,i,v,e1,e2,e3,aO.keep e4 h.wf hk (fun c hc ht=>(hT c ht).2.2 q hq hc),e5,e6⟩
theorem FR.post{N:aC}(h:FR A M S C m)(hk:aD M N []):FR A N S C m:=h.keepS hk (by simp)
theorem FR.aside(h:FR A M S C m){T:List Nat}(hT:∀ c∈T,M.next≤c):FR { A with ext:=T++A.ext } M S C m:=by
 refine⟨h.wf,h.inv,h.fl,h.chip,h.foot,h.fsA,h.rel,h.mf,h.nd,fun q hq=>?_,h.hav,h.dis,fun c hc hm=>?_⟩
 ·obtain⟨b,i,v,e1,e2,e3,e4,e5,e6⟩:=h.lnk q hq
  refine⟨b,i,v,e1,e2,e3,e4,e5,fun c hc hm=>?_⟩
  have hlt:=aO.blk_lt e4 h.wf hc
  simp only[bL.av,List.mem_append] at hm
  rcases hm with hm|hm|hm
  ·exact e6 c hc (by simp only[bL.av,List.mem_append];exact .inl hm)
  ·have:=hT c hm;omega
  ·exact e6 c hc (by simp only[bL.av,List.mem_append];exact .inr hm)
 ·have hlt:=aO.blk_lt h.chip.flt h.wf (by rw[h.fsA];exact hc)
  simp only[bL.av,List.mem_append] at hm
  rcases hm with hm|hm|hm
  ·exact h.fsx c hc (by simp only[bL.av,List.mem_append];exact .inl hm)
  ·have:=hT c hm;omega
  ·exact h.fsx c hc (by simp only[bL.av,List.mem_append];exact .inr hm)
theorem FR.back{T:List Nat}(h:FR { A with ext:=T++A.ext } M S C m):FR A M S C m:=by
 have hav:∀ c,c∈A.av→c∈({ A with ext:=T++A.ext }:bL).av:=fun c hc=>by
  simp only[bL.av,bL.all,List.mem_append] at hc ⊢
  exact hc.imp id .inr
 refine⟨h.wf,h.inv,h.fl,h.chip,h.foot,h.fsA,h.rel,h.mf,h.nd,fun q hq=>?_,h.hav,h.dis,fun c hc hm=>h.fsx c hc (hav c hm)⟩
 obtain⟨b,i,v,e1,e2,e3,e4,e5,e6⟩:=h.lnk q hq
 exact⟨b,i,v,e1,e2,e3,e4,e5,fun c hc hm=>e6 c hc (hav c hm)⟩
theorem FR.keepX{N:aC}{T:List Nat}(h:FR A M S C m)(hk:aD M N T)(hT:∀ c∈T,c∈A.ext∧c∉A.wr):FR A N S C m:=by
 refine h.keepS hk fun c hc=>⟨(hT c hc).2,fun hm=>h.fsx c hm ?_,fun q hq hm=>?_⟩
 ·simp only[bL.av,List.mem_append];exact .inr (hT c hc).1
 ·obtain⟨b,i,v,e1,e2,e3,e4,e5,e6⟩:=h.lnk q hq
  exact e6 c hm (by simp only[bL.av,List.mem_append];exact .inr (hT c hc).1)
theorem FR.geo(h:FR A M S C m):S.g.bl=(nB S:Int)∧S.g.pg=(nG S:Int)∧8≤nB S∧nB S≤20∧4≤nG S∧nG S≤8:=h.inv.geo
theorem FR.blen(h:FR A M S C m):C.bs.length=nB S:=by rw[h.chip.len,h.rel.g];rfl
theorem FR.bl(h:FR A M S C m):C.g.bl.toNat=nB S:=by rw[h.rel.g];rfl
theorem FR.block(h:FR A M S C m){b:Nat}(hb:b<nB S):∃ B X,C.bs[b]? =some B∧S.x[b]? =some X∧B.next=X.v.length∧B.wear=X.w∧B.done=X.n:=by
 have hb':b<C.bs.length:=by rw[h.blen];exact hb
 obtain⟨X,e1,e2,e3,e4,_⟩:=h.rel.blk b _ (List.getElem?_eq_getElem hb')
 exact⟨_,X,List.getElem?_eq_getElem hb',e1,e2,e3,e4⟩
theorem FR.lostB(h:FR A M S C m){b:Nat}(hb:b<nB S):lostB C (b:Int)=bC S b:=by
 obtain⟨B,X,e1,e2,_,_,e5⟩:=h.block hb
 unfold Go.Proofs.YteaogiidncpofaaGreat.lostB rE bC
 rw[Int.toNat_natCast,e1,e2,h.rel.fs]
 simp only[e5]
 rw[decide_eq_true (by omega:(0:Int)≤(b:Int)),Bool.true_and]
theorem FR.usedB(h:FR A M S C m){b:Nat}(hb:b<nB S):zW C (b:Int)=aP S b:=by
 obtain⟨B,X,e1,e2,e3,_,e5⟩:=h.block hb
 unfold zW aP
 rw[Int.toNat_natCast,e1,e2,if_pos (by omega)]
 exact e3
theorem FR.wearB(h:FR A M S C m){b:Nat}(hb:b<nB S):zV C (b:Int)=aZ S b:=by
 obtain⟨B,X,e1,e2,_,e4,e5⟩:=h.block hb
 unfold zV aZ
 rw[Int.toNat_natCast,e1,e2,if_pos (by omega)]
 exact e4
theorem iE{M P N:aC}{x x':AV}(hk:aD M P [])(hg:eZ P N x x')(hf:∀ c,aN x c→M.next≤c):aD M N []:=by
 refine⟨hg.wf,Nat.le_trans hk.nxt hg.nxt,fun c hc _=>?_⟩
 have h1:=hk.nxt
 rw[hg.old c (by omega) (fun hm=>by have:=hf c hm;omega)]
 exact hk.old c hc (by simp)
theorem aPL(M:aC)(hw:M.WF)(p:Nat)(C:aQ)(h:bF M p C)(b:Int):aB tb.P 129 [.ptr p 0,i64 b] M fun y N=>y=i64 (zW C b)∧aD M N []:=by
 refine aN7 ?_
 unfold F129
 simp only[i64,aJ]
 refine (aR5 M hw p C h b).mono ?_
 rintro y N ⟨rfl,hk⟩
 obtain⟨x,d,e⟩:=aLd C b
 rw[e]
 exact⟨_,_,_,_,rfl,rfl,hk⟩
theorem aK7(h:FR A M S C m){b:Nat}(hb:b<nB S):aB tb.P 127 [.ptr A.f 0,i64 (b:Int)] M fun y N=>y= .val (.bool (bC S b))∧aD M N []:=by
 have:=aOJ M h.wf A.f (dZ A S) A.p C h.flat (b:Int)
 rw[h.lostB hb] at this
 exact this
theorem aCa(h:FR A M S C m):∀ n,n≤nB S→aAF C n=cnt n (bC S)
 | 0,_=>rfl
 | n+1,hn=>by
   rw[tJ,dT,aCa h n (by omega),h.lostB (by omega)]
theorem aI2(h:FR A M S C m):aB tb.P 99 [.ptr A.f 0] M fun y N=>y=i64 (dD S:Int)∧aD M N []:=by
 have:=aPk M h.wf A.f (dZ A S) A.p C h.flat
 rw[h.bl,aCa h _ (Nat.le_refl _)] at this
 exact this
theorem aDg(h:FR A M S C m){b:Nat}(hb:b<nB S):aB tb.P 108 [.ptr A.f 0,i64 (b:Int)] M fun y N=>y= .val (.bool (cV S b))∧aD M N []:=by
 refine aMT ?_
 unfold F108
 simp only[i64,aJ]
 refine (aK7 h hb).mono ?_
 rintro y N ⟨rfl,hk⟩
 rw[cO]
 exact⟨rfl,hk⟩
theorem sQ(h:FR A M S C m){b:Nat}(hb:b<nB S):aB tb.P 129 [.ptr A.p 0,i64 (b:Int)] M fun y N=>y=i64 (aP S b:Int)∧aD M N []:=by
 have:=aPL M h.wf A.p C h.chip (b:Int)
 rw[h.usedB hb] at this
 exact this
theorem jL{f:Nat}{M:aC}:cG tb 99 (.ptr f 0) 0 M=some (.ptr f 0,M):=(oB f).1
theorem nW{f:Nat}{M:aC}:cG tb 99 (.ptr f 0) 1 M=some (.ptr f 1,M):=(oB f).2.1
theorem aEx{f:Nat}{M:aC}:cG tb 99 (.ptr f 0) 2 M=some (.ptr f 6,M):=(oB f).2.2.1
theorem FR.ldp(h:FR A M S C m):aH tb 28 (.ptr A.f 0) M=some (.ptr A.p 0,M):=h.flat.ldp
theorem FR.lbl(h:FR A M S C m):aH tb 3 (.ptr A.f 1) M=some (.val (.int .i64 (nB S:Int)),M):=by
 have:=aS (T:=tb) (eB dX rfl h.fl (o:=1) (v:=i64 S.g.bl) rfl)
 rw[h.geo.1] at this
 exact this
theorem FR.lpg(h:FR A M S C m):aH tb 3 (.ptr A.f (1+1)) M=some (.val (.int .i64 (nG S:Int)),M):=by
 have:=aS (T:=tb) (eB dX rfl h.fl (o:=2) (v:=i64 S.g.pg) rfl)
 rw[h.geo.2.1] at this
 exact this
theorem FR.lsp(h:FR A M S C m):aH tb 3 (.ptr A.f (1+3)) M=some (.val (.int .i64 S.g.sp),M):=aS (eB dX rfl h.fl rfl)
theorem FR.ltr(h:FR A M S C m):aH tb 3 (.ptr A.f (1+4)) M=some (.val (.int .i64 S.g.tr),M):=aS (eB dX rfl h.fl rfl)
theorem aFa(h:FR A M S C m){b:Nat}(hb:b<nB S):aB tb.P 106 [.ptr A.f 0,i64 (b:Int)] M fun y N=>y= .val (.bool (fD S b))∧aD M N []:=by
 refine aNL ?_
 unfold F106
 simp only[i64,aJ]
 refine bE fun K hK=>?_
 refine (aDg h hb).mono ?_
 rintro y N ⟨rfl,hk⟩
 rw[cO]
 have hN:=h.post hk
 refine aT (fun e=>?_) (fun e=>?_)
 ·refine aG dB ?_
  refine aG jL ?_
  rw[bV]
  refine aG hN.ldp ?_
  refine (sQ hN hb).mono ?_
  rintro y N2 ⟨rfl,hk2⟩
  simp only[i64,aJ]
  rw[hK]
  refine⟨?_,hk.trans0 hk2⟩
  unfold fD
  rw[e,Bool.true_and]
  congr 2
  rw[Bool.eq_iff_iff,beq_iff_eq,beq_iff_eq]
  omega
 ·rw[hK]
  refine⟨?_,hk⟩
  unfold fD
  rw[e]
  rfl
theorem aD6(h:FR A M S C m):aB tb.P 107 [.ptr A.f 0] M fun y N=>y=i64 (eV S)∧aD M N []:=by
 refine aLV ?_
 unfold F107
 refine aG dB ?_
 refine aG nW ?_
 rw[bV]
 refine aG h.lsp ?_
 simp only[aJ]
 refine (aI2 h).mono ?_
 rintro y N ⟨rfl,hk⟩
 simp only[i64,aJ]
 have hm:=bP.1 h.inv.may
 have hg:=h.geo
 have hl:dD S≤nB S:=sM _ _
 refine⟨aG (h.post hk).lsp rfl,?_,hk⟩
 rw[ia (by omega),oA (by omega)]
 rfl
def wsX(S:Ps)(n:Nat):List Int:=(List.range n).map (aZ S)
theorem aLj(S:Ps)(n:Nat):(wsX S (n+1)).map i64=(wsX S n).map i64++[i64 (aZ S n)]:=by
 unfold wsX
 rw[List.range_succ]
 simp
theorem iS(S:Ps)(n:Nat):(wsX S n).length=n:=by simp[wsX]
theorem aDh(h:FR A M S C m):aB tb.P 112 [.ptr A.f 0] M fun y N=>nK N y ((wsX S (nB S)).map i64)∧aD M N []∧∀ c,aN y c→M.next≤c:=by
 refine aNc ?_
 unfold F112
 refine aG dB ?_
 refine aG nW ?_
 rw[bV]
 refine aG h.lbl ?_
 simp only[aJ]
 have hg:=h.geo
 refine⟨fun x i n P=>∃ j:Nat,i=j∧n=nB S-j∧j≤nB S∧aD M P []∧nK P x ((wsX S j).map i64)∧∀ c,aN x c→M.next≤c,⟨_,0,rfl,rfl,Nat.zero_le _,aD.refl h.wf,.inl ⟨rfl,rfl⟩,fun c hc=>hc.elim⟩,?_⟩
 rintro _ x i n P ⟨j,rfl,rfl,hj,hk,hx,fx⟩
 refine aT (fun hlt=>?_) (fun hge=>?_)
 ·have hlt:j<nB S:=Int.ofNat_lt.1 (of_decide_eq_true hlt)
  have hP:=h.post hk
  refine aG dB ?_
  refine aG jL ?_
  rw[bV]
  refine aG hP.ldp ?_
  refine (aQN P hk.wf A.p C hP.chip (j:Int)).mono ?_
  rintro y N ⟨rfl,hkN⟩
  rw[hP.wearB hlt]
  simp only[i64,aJ]
  refine bE fun M21 hM21=>?_
  subst hM21
  obtain⟨x',N',g1,g2,g3,g4⟩:=nK.grow uY dX rfl (by decide) hkN.wf (hx.keep0 hk.wf hkN) (i64 (aZ S j)) rfl (by rw[List.length_map,iS];omega)
  refine aG g1 ?_
  rw[← aLj] at g2
  refine⟨_,by omega,j+1,dE (by omega),rfl,by omega,iE (hk.trans0 hkN) g3 fx,g2,fun c hc=>?_⟩
  have:=g4 c hc
  have:=hk.nxt
  have:=hkN.nxt
  omega
 ·have hge:¬ (j:Int)<nB S:=of_decide_eq_false hge
  have:j=nB S:=by omega
  subst this
  exact⟨hx,hk,fx⟩
def aPi(A:bL)(S:Ps)(C:aQ)(m:List iK)(a1:AV)(is:Nat→Bool)(M0:aC):Prop:=∀ (N:aC) (b:Nat) (K:AV→aC→Prop),b<nB S→aD M0 N []→FR A N S C m→(∀ N',aD N N' []→K (.val (.bool (is b))) N')→eD tb a1 [.val (.int .i64 (b:Int))] N K
theorem wR{g:FuncId}{f:Func}{a:List AV}{is:Nat→Bool}{M0:aC}{cs:List AV}(hf:tb.fn.get g=some f)(hc:∀ (N:aC) (b:Nat),b<nB S→aD M0 N []→FR A N S C m→aB tb.P g (a++[.val (.int .i64 (b:Int))]++cs) N fun y N'=>y= .val (.bool (is b))∧aD N N' []):aPi A S C m (.fn g a cs) is M0:=by
 intro N b K hb hk hN hK
 unfold eD
 simp only[dA]
 rw[hf,eM]
 exact (hc N b hb hk hN).mono fun y N' h=>by rw[h.1];exact hK N' h.2
def isX(is:Nat→Bool)(n:Nat):List Bool:=(List.range n).map is
theorem aJn(is:Nat→Bool)(n:Nat):(isX is (n+1)).map bv=(isX is n).map bv++[bv (is n)]:=by
 unfold isX
 rw[List.range_succ]
 simp
theorem kX(is:Nat→Bool)(n:Nat):(isX is n).length=n:=by simp[isX]
theorem tQ(h:FR A M S C m){a1:AV}{is:Nat→Bool}(ha:aPi A S C m a1 is M):aB tb.P 113 [.ptr A.f 0,a1] M fun y N=>nK N y ((isX is (nB S)).map bv)∧aD M N []∧∀ c,aN y c→M.next≤c:=by
 refine aNU ?_
 unfold F113
 refine aG dB ?_
 refine aG nW ?_
 rw[bV]
 refine aG h.lbl ?_
 simp only[aJ]
 have hg:=h.geo
 refine⟨fun x i n P=>∃ j:Nat,i=j∧n=nB S-j∧j≤nB S∧aD M P []∧nK P x ((isX is j).map bv)∧∀ c,aN x c→M.next≤c,⟨_,0,rfl,rfl,Nat.zero_le _,aD.refl h.wf,.inl ⟨rfl,rfl⟩,fun c hc=>hc.elim⟩,?_⟩
 rintro _ x i n P ⟨j,rfl,rfl,hj,hk,hx,fx⟩
 refine aT (fun hlt=>?_) (fun hge=>?_)
 ·have hlt:j<nB S:=Int.ofNat_lt.1 (of_decide_eq_true hlt)
  have hP:=h.post hk
  refine ha P j _ hlt hk hP fun N hkN=>?_
  rw[cO]
  refine bE fun M21 hM21=>?_
  subst hM21
  obtain⟨x',N',g1,g2,g3,g4⟩:=nK.grow aJb ty4 rfl (by decide) hkN.wf (hx.keep0 hk.wf hkN) (bv (is j)) rfl (by rw[List.length_map,kX];omega)
  refine aG g1 ?_
  rw[← aJn] at g2
  refine⟨_,by omega,j+1,dE (by omega),rfl,by omega,iE (hk.trans0 hkN) g3 fx,g2,fun c hc=>?_⟩
  have:=g4 c hc
  have:=hk.nxt
  have:=hkN.nxt
  omega
 ·have hge:¬ (j:Int)<nB S:=of_decide_eq_false hge
  have:j=nB S:=by omega
  subst this
  exact⟨hx,hk,fx⟩
theorem aIY(h:FR A M S C m){a1:AV}{is:Nat→Bool}(ha:aPi A S C m a1 is M):aB tb.P 105 [.ptr A.f 0,a1] M fun y N=>y=i64 (cnt (nB S) is:Int)∧aD M N []:=by
 refine aNB ?_
 unfold F105
 refine (tQ h ha).mono ?_
 rintro y N ⟨hy,hk,fy⟩
 refine aG (rV hy.at) ?_
 rw[kX]
 simp only[aJ]
 have hg:=h.geo
 refine⟨fun a i n P=>∃ j:Nat,a=cnt j is∧i=j∧n=nB S-j∧j≤nB S∧P=N,⟨_,0,rfl,rfl,rfl,Nat.zero_le _,rfl⟩,?_⟩
 rintro _ a i n P ⟨j,rfl,rfl,rfl,hj,rfl⟩
 refine aT (fun hlt=>?_) (fun hge=>?_)
 ·have hlt:j<nB S:=Int.ofNat_lt.1 (of_decide_eq_true hlt)
  refine bE fun K hK=>?_
  obtain⟨b,o,g1,g2,g3⟩:=vB hy.at (i:=j) (by rw[kX];exact hlt)
  refine aG (g1 P) ?_
  rw[bV]
  refine aG g3 ?_
  rw[cO]
  have e:(isX is (nB S)).getD j false=is j:=by unfold isX;simp[hlt]
  rw[e]
  have hs:=dT j is
  have hle:=sM j is
  refine aT (fun hb=>?_) (fun hb=>?_)
  ·rw[hK]
   exact⟨_,by omega,j+1,by rw[dE (by omega),hs,if_pos hb],dE (by omega),rfl,hlt,rfl⟩
  ·rw[hK]
   exact⟨_,by omega,j+1,by rw[hs,if_neg (by rw[hb];simp),Nat.add_zero],dE (by omega),rfl,hlt,rfl⟩
 ·have hge:¬ (j:Int)<nB S:=of_decide_eq_false hge
  have:j=nB S:=by omega
  subst this
  exact⟨rfl,hk⟩
end
set_option maxRecDepth 100000
section
variable {A:bL} {M:aC} {S:Ps} {C:aQ} {m:List iK}
theorem vJ(S:Ps){n b:Nat}(h:b<n):(wsX S n).getD b 0=aZ S b:=by unfold wsX;simp[h]
theorem aCB(is:Nat→Bool){n b:Nat}(h:b<n):(isX is n).getD b false=is b:=by unfold isX;simp[h]
theorem rD(lt:Int→Int→Bool)(S:Ps)(is:Nat→Bool)(n:Nat):∀ i,i≤n→pK lt (wsX S n) (isX is n) i=dR lt (aZ S) is i
 | 0,_=>rfl
 | i+1,hi=>by
   have ih:=rD lt S is n i (by omega)
   have hb:=tO lt (wsX S n) (isX is n) i
   rw[pK,dR,ih,aCB is (by omega),vJ S (by omega)]
   rw[ih] at hb
   cases hg:is i with
   | false=>simp
   | true=>
     rw[if_pos rfl]
     by_cases hn:dR lt (aZ S) is i<0
     ·rw[if_pos hn,if_pos (by simp[hn])]
     ·rw[if_neg hn,vJ S (by omega)]
      cases hl:lt (aZ S i) (aZ S (dR lt (aZ S) is i).toNat) with
      | true=>rw[if_pos rfl,if_pos (by simp)]
      | false=>rw[if_neg (by simp),if_neg (by simp;omega)]
theorem aHo(M:aC)(x z:AV)(ws:List Int)(gd:List Bool)(hx:lV M x (ws.map i64))(hz:lV M z (gd.map bv))(hl:gd.length=ws.length)(hb:ws.length≤10000):
 aB tb.P 116 [x,z] M fun y N=>y=i64 (pK (fun a b=>decide (a<b)) ws gd ws.length)∧N=M:=by
 refine aHr ?_
 unfold F116
 refine (aFX M x z _ (fun a b=>decide (a<b)) aGv ws gd hx hz hl hb).mono ?_
 rintro y N ⟨rfl,rfl⟩
 simp only[i64,aJ]
 exact⟨by trivial,by trivial⟩
theorem aGo(h:FR A M S C m):aB tb.P 140 [.ptr A.f 0] M fun y N=>y= .tup [i64 (cD S),.val (.bool (decide (cD S≥0)))]∧aD M N []:=by
 have hg:=h.geo
 refine aL7 ?_
 unfold F140
 refine (aDh h).mono ?_
 rintro y N ⟨hy,hk,fy⟩
 have hN:=h.post hk
 refine (tQ hN (is:=fD S) (wR aJL fun N' b hb _ hN'=>aFa hN' hb)).mono ?_
 rintro z N2 ⟨hz,hk2,fz⟩
 refine aMB ?_
 unfold F179
 refine (aHo N2 y z _ _ (hy.keep0 hk.wf hk2).at hz.at (by rw[iS,kX]) (by rw[iS];omega)).mono ?_
 rintro r N3 ⟨rfl,rfl⟩
 rw[iS,rD _ S _ _ _ (Nat.le_refl _)]
 simp only[i64,aJ]
 exact⟨rfl,hk.trans0 hk2⟩
theorem aPt(h:FR A M S C m)(hw:∀ b,b<nB S→0≤aZ S b∧aZ S b≤1000000000):aNv (wsX S (nB S)) (isX (cV S) (nB S))=kY S:=by
 have hg:=h.geo
 unfold aNv kY
 rw[iS,rD _ S _ _ _ (Nat.le_refl _),rD _ S _ _ _ (Nat.le_refl _)]
 by_cases hn:dR (fun a b=>decide (a<b)) (aZ S) (cV S) (nB S)<0
 ·simp only[hn,if_true]
 ·simp only[hn,if_false]
  obtain⟨h1,h2⟩:=oS (lt:=fun a b=>decide (a<b)) (ws:=aZ S) (gd:=cV S) (n:=nB S) (by omega)
  have h3:0≤dR (fun a b=>decide (a>b)) (aZ S) (cV S) (nB S):=by
   by_cases hm:dR (fun a b=>decide (a>b)) (aZ S) (cV S) (nB S)<0
   ·have:=xC hm (dR (fun a b=>decide (a<b)) (aZ S) (cV S) (nB S)).toNat (by omega)
    rw[this] at h2;cases h2
   ·omega
  obtain⟨h4,_⟩:=oS h3
  rw[vJ S (by omega),vJ S (by omega)]
  have a1:=hw (dR (fun a b=>decide (a>b)) (aZ S) (cV S) (nB S)).toNat (by omega)
  have a2:=hw (dR (fun a b=>decide (a<b)) (aZ S) (cV S) (nB S)).toNat (by omega)
  rw[oA (by omega)]
theorem aRX(h:FR A M S C m)(hw:∀ b,b<nB S→0≤aZ S b∧aZ S b≤1000000000){x z:AV}(hx:lV M x ((wsX S (nB S)).map i64))(hz:lV M z ((isX (cV S) (nB S)).map bv))(t:Int):
 aB tb.P 114 [x,z,i64 t] M fun y N=>y= .val (.bool (decide (kY S>t)))∧N=M:=by
 have hg:=h.geo
 refine aMh ?_
 unfold F114
 simp only[i64,aJ]
 refine (aJE M x z _ _ hx hz (by rw[iS,kX]) (by rw[iS];omega)).mono ?_
 rintro r N ⟨rfl,rfl⟩
 rw[aPt h hw]
 simp only[i64,aJ]
 exact⟨by trivial,by trivial⟩
theorem xK{is:Nat→Bool}:∀ {n:Nat},(∀ k,k<n→is k=false)→cK is n= -1
 | 0,_=>rfl
 | n+1,h=>by
   rw[cK,xK fun k hk=>h k (by omega),h n (by omega)]
   rfl
theorem aBx{is:Nat→Bool}:∀ {n j:Nat},(∀ k,k<j→is k=false)→j<n→is j=true→cK is n=j
 | 0,_,_,h,_=>by omega
 | n+1,j,h,hj,hi=>by
   rw[cK]
   by_cases e:j=n
   ·subst e
    rw[xK h,hi]
    rfl
   ·rw[aBx h (by omega) hi,if_pos (by omega)]
theorem aNh(M:aC){x:AV}{gd:List Bool}(hx:lV M x (gd.map bv))(hn:gd.length≤10000):aB tb.P 173 [x,.val (.bool true)] M fun y N=>y=i64 (cK (fun b=>gd.getD b false) gd.length)∧N=M:=by
 refine aL4 ?_
 unfold F173
 rw[cO]
 refine aG (rV hx) ?_
 simp only[aJ]
 refine⟨fun i n P=>∃ j:Nat,i=j∧n=gd.length-j∧j≤gd.length∧P=M∧∀ k,k<j→gd.getD k false=false,⟨_,0,rfl,rfl,Nat.zero_le _,rfl,fun k hk=>by omega⟩,?_⟩
 rintro _ i n P ⟨j,rfl,rfl,hj,rfl,hf⟩
 refine aT (fun hlt=>?_) (fun hge=>?_)
 ·have hlt:j<gd.length:=Int.ofNat_lt.1 (of_decide_eq_true hlt)
  obtain⟨b,o,g1,g2,g3⟩:=vB hx (i:=j) hlt
  refine aG (g1 P) ?_
  rw[bV]
  refine aG g3 ?_
  rw[cO]
  refine aG (aLZ _ _ true (gd.getD j false) P) ?_
  rw[cO]
  refine aT (fun hb=>?_) (fun hb=>?_)
  ·have hb:gd.getD j false=true:=by simpa using hb
   rw[aBx hf hlt hb]
   exact⟨rfl,rfl⟩
  ·have hb:gd.getD j false=false:=by simpa using hb
   refine⟨_,by omega,j+1,dE (by omega),rfl,hlt,rfl,fun k hk=>?_⟩
   by_cases e:k=j
   ·rw[e];exact hb
   ·exact hf k (by omega)
 ·have hge:¬ (j:Int)<gd.length:=of_decide_eq_false hge
  have:j=gd.length:=by omega
  subst this
  rw[xK hf]
  exact⟨rfl,rfl⟩
theorem aSM(M:aC)(a:Int):yM tb #[3,3,3] 3 [.int .i64 a,.int .i64 a,.int .i64 a] M=some (.val (.int .i64 a),M):=by
 unfold yM
 have:nT tb.P (Builtin.min_ #[3,3,3] 3 ⟨[.int .i64 a,.int .i64 a,.int .i64 a]⟩)=some (.int .i64 (if a<(if a<a then a else a) then a else (if a<a then a else a))):=rfl
 rw[this]
 simp
 rfl
theorem aQe(M:aC){x y z:AV}{S:Ps}{is:Nat→Bool}{n:Nat}{lvs:Nat→Nat}(hn:n≤1000)(hx:lV M x (((List.range n).map fun b=>(lvs b:Int)).map i64))(hy:lV M y ((wsX S n).map i64))(hz:lV M z ((isX is n).map bv)):
 aB tb.P 194 [x,y,z] M fun r N=>r=i64 (eK lvs (aZ S) is n)∧N=M:=by
 refine aN8 ?_
 unfold F194
 refine aG (rA hx) ?_
 rw[List.length_map,List.length_range,aJ]
 refine aG (rA hy) ?_
 rw[iS,aJ]
 refine aG (rV hz) ?_
 rw[kX,aJ]
 refine aG (aSM M n) ?_
 rw[aJ]
 have bnd:∀ j:Nat, -1≤eK lvs (aZ S) is j∧eK lvs (aZ S) is j<j:=fun j=>by
  have:=pM lvs (aZ S) is j
  induction j with
  | zero=>exact⟨by rw[eK];omega,by rw[eK];omega⟩
  | succ j ih=>
    have ih:=ih (pM lvs (aZ S) is j)
    rw[eK]
    split <;> omega
 refine⟨fun a i k P=>∃ j:Nat,a=eK lvs (aZ S) is j∧i=j∧k=n-j∧j≤n∧P=M,⟨_,0,rfl,rfl,rfl,Nat.zero_le _,rfl⟩,?_⟩
 rintro _ a i k P ⟨j,rfl,rfl,rfl,hj,rfl⟩
 refine aT (fun hlt=>?_) (fun hge=>?_)
 ·have hlt:j<n:=Int.ofNat_lt.1 (of_decide_eq_true hlt)
  refine bE fun K hK=>?_
  have key:∀ w:Int,w=eK lvs (aZ S) is (j+1)→K w:=by
   intro w hw
   rw[hK]
   exact⟨_,by omega,j+1,hw,dE (by omega),rfl,hlt,rfl⟩
  clear hK
  have lz:∀ i:Nat,i<n→∃ b o,(∀ N,bU tb 143 z (.val (.int .i64 (i:Int))) N=some (.ptr b o,N))∧aH tb 4 (.ptr b o) P=some (.val (.bool (is i)),P):=fun i hi=>by
   obtain⟨b,o,g1,g2,g3⟩:=vB hz (i:=i) (by rw[kX];exact hi)
   rw[aCB is hi] at g3
   exact⟨b,o,g1,g3⟩
  have ly:∀ i:Nat,i<n→∃ b o,(∀ N,bU tb 48 y (.val (.int .i64 (i:Int))) N=some (.ptr b o,N))∧aH tb 3 (.ptr b o) P=some (.val (.int .i64 (aZ S i)),P):=fun i hi=>by
   obtain⟨b,o,g1,g2,g3⟩:=nM hy (i:=i) (by rw[iS];exact hi)
   rw[vJ S hi] at g3
   exact⟨b,o,g1,g3⟩
  have lx:∀ i:Nat,i<n→∃ b o,(∀ N,bU tb 48 x (.val (.int .i64 (i:Int))) N=some (.ptr b o,N))∧aH tb 3 (.ptr b o) P=some (.val (.int .i64 (lvs i:Int)),P):=fun i hi=>by
   obtain⟨b,o,g1,g2,g3⟩:=nM hx (i:=i) (by simpa using hi)
   have:((List.range n).map fun b=>(lvs b:Int)).getD i 0=lvs i:=by simp[hi]
   rw[this] at g3
   exact⟨b,o,g1,g3⟩
  obtain⟨b1,o1,g1,g2⟩:=lz j hlt
  refine aG (g1 P) ?_
  rw[bV]
  refine aG g2 ?_
  rw[cO]
  refine aT (fun hb=>key _ ?_) (fun hb=>?_)
  ·have hb:is j=false:=by simpa using hb
   rw[eK,hb]
   simp
  have hb:is j=true:=by simpa using hb
  refine bE fun K2 hK2=>?_
  have key2:∀ t:Bool,t=(decide (eK lvs (aZ S) is j<0)||(decide (lvs j<lvs (eK lvs (aZ S) is j).toNat)||(lvs j==lvs (eK lvs (aZ S) is j).toNat&&decide (aZ S j<aZ S (eK lvs (aZ S) is j).toNat))))→K2 t:=by
   intro t ht
   rw[hK2]
   refine aT (fun e=>key _ ?_) (fun e=>key _ ?_)
   ·rw[eK,hb,Bool.true_and,← ht,e,if_pos rfl]
   ·rw[eK,hb,Bool.true_and,← ht,e,if_neg (by simp)]
  clear hK2
  obtain⟨bn1,bn2⟩:=bnd j
  refine aT (fun e=>key2 _ (by rw[e];rfl)) (fun e=>?_)
  have e0:=of_decide_eq_false e
  obtain⟨q,hq⟩:∃ q:Nat,eK lvs (aZ S) is j=q:=⟨_,(Int.toNat_of_nonneg (by omega)).symm⟩
  rw[e,Bool.false_or] at key2
  rw[hq] at key2 ⊢
  rw[Int.toNat_natCast] at key2
  obtain⟨b2,o2,g3,g4⟩:=lx j hlt
  obtain⟨b3,o3,g5,g6⟩:=lx q (by omega)
  refine aG (g3 P) ?_
  rw[bV]
  refine aG (g5 P) ?_
  rw[bV]
  refine aG g4 ?_
  rw[aJ]
  refine aG g6 ?_
  rw[aJ]
  refine aT (fun e2=>key2 _ ?_) (fun e2=>?_)
  ·have e2:=of_decide_eq_true e2
   rw[decide_eq_true (by omega:lvs j<lvs q),Bool.true_or]
  have e2:=of_decide_eq_false e2
  rw[decide_eq_false (by omega:¬ lvs j<lvs q),Bool.false_or] at key2
  refine aG (g3 P) ?_
  rw[bV]
  refine aG (g5 P) ?_
  rw[bV]
  refine aG g4 ?_
  rw[aJ]
  refine aG g6 ?_
  rw[aJ]
  refine aT (fun e3=>?_) (fun e3=>key2 _ ?_)
  ·have e3:(lvs j:Int)=lvs q:=by simpa using e3
   have e4:(lvs j==lvs q)=true:=by rw[beq_iff_eq];omega
   rw[e4,Bool.true_and] at key2
   obtain⟨b4,o4,k1,k2⟩:=ly j hlt
   obtain⟨b5,o5,k3,k4⟩:=ly q (by omega)
   refine aG (k1 P) ?_
   rw[bV]
   refine aG (k3 P) ?_
   rw[bV]
   refine aG k2 ?_
   rw[aJ]
   refine aG k4 ?_
   rw[aJ]
   exact key2 _ rfl
  ·have e3:¬ (lvs j:Int)=lvs q:=by simpa using e3
   have e4:(lvs j==lvs q)=false:=by
    cases h:lvs j==lvs q with
    | false=>rfl
    | true=>rw[beq_iff_eq] at h;omega
   rw[e4];rfl
 ·have hge:¬ (j:Int)<n:=of_decide_eq_false hge
  have:j=n:=by omega
  subst this
  exact⟨rfl,rfl⟩
theorem aRi(h:FR A M S C m){q:Nat}{rw':Bool}(hq:M.get q=some (.cells [.ptr A.f 0] rw')){b:Nat}(hb:b<nB S):aB tb.P 174 [i64 (b:Int),.ptr q 0] M fun y N=>y= .val (.bool (cX S b))∧aD M N []:=by
 refine aMd ?_
 unfold F174
 simp only[i64,aJ]
 refine bE fun K hK=>?_
 have lq:∀ N,aD M N []→aH tb 58 (.ptr q 0) N=some (.ptr A.f 0,N):=fun N hk=>aS (eB aFe rfl (hk.get h.wf hq (by simp)) rfl)
 refine aG (lq M (aD.refl h.wf)) ?_
 refine (aDg h hb).mono ?_
 rintro y N ⟨rfl,hk⟩
 rw[cO]
 have hN:=h.post hk
 refine aT (fun e=>?_) (fun e=>⟨trivial,trivial,?_⟩)
 ·refine aG (lq N hk) ?_
  refine aG dB ?_
  refine aG jL ?_
  rw[bV]
  refine aG hN.ldp ?_
  refine (sQ hN hb).mono ?_
  rintro y N2 ⟨rfl,hk2⟩
  simp only[i64,aJ]
  have hN2:=hN.post hk2
  have hkk:=hk.trans0 hk2
  refine aT (fun e2=>?_) (fun e2=>⟨trivial,trivial,?_⟩)
  ·refine aG (lq N2 hkk) ?_
   refine aG dB ?_
   refine aG jL ?_
   rw[bV]
   refine aG hN2.ldp ?_
   refine aG (lq N2 hkk) ?_
   refine aG dB ?_
   refine aG nW ?_
   rw[bV]
   refine aG hN2.lpg ?_
   rw[aJ]
   refine (sQ hN2 hb).mono ?_
   rintro y N3 ⟨rfl,hk3⟩
   simp only[i64,aJ]
   refine⟨aG (lq N3 (hkk.trans0 hk3)) rfl,aG (hN2.post hk3).lpg rfl,?_⟩
   rw[hK]
   refine⟨?_,hkk.trans0 hk3⟩
   unfold cX
   rw[e,Bool.true_and]
   have e2:=of_decide_eq_true e2
   rw[decide_eq_true (by omega:0<aP S b),Bool.true_and]
   congr 2
   rw[decide_eq_decide]
   omega
  ·rw[hK]
   refine⟨?_,hkk⟩
   unfold cX
   have e2:=of_decide_eq_false e2
   rw[decide_eq_false (by omega:¬ 0<aP S b)]
   simp
 ·rw[hK]
  refine⟨?_,hk⟩
  unfold cX
  rw[e];rfl
theorem aPN(h:FR A M S C m){q:Nat}{rw':Bool}(hq:M.get q=some (.cells [.ptr A.f 0] rw')){b:Nat}(hb:b<nB S):aB tb.P 192 [i64 (b:Int),.ptr q 0] M fun y N=>y= .val (.bool (jR S b))∧aD M N []:=by
 refine aNG ?_
 unfold F192
 simp only[i64,aJ]
 refine bE fun K hK=>?_
 have lq:∀ N,aD M N []→aH tb 58 (.ptr q 0) N=some (.ptr A.f 0,N):=fun N hk=>aS (eB aFe rfl (hk.get h.wf hq (by simp)) rfl)
 refine aG (lq M (aD.refl h.wf)) ?_
 refine (aDg h hb).mono ?_
 rintro y N ⟨rfl,hk⟩
 rw[cO]
 have hN:=h.post hk
 refine aT (fun e=>?_) (fun e=>⟨trivial,trivial,?_⟩)
 ·refine aG (lq N hk) ?_
  refine aG dB ?_
  refine aG jL ?_
  rw[bV]
  refine aG hN.ldp ?_
  refine aG (lq N hk) ?_
  refine aG dB ?_
  refine aG nW ?_
  rw[bV]
  refine aG hN.lpg ?_
  rw[aJ]
  refine (sQ hN hb).mono ?_
  rintro y N2 ⟨rfl,hk2⟩
  simp only[i64,aJ]
  refine⟨aG (lq N2 (hk.trans0 hk2)) rfl,aG (hN.post hk2).lpg rfl,?_⟩
  rw[hK]
  refine⟨?_,hk.trans0 hk2⟩
  unfold jR
  rw[e,Bool.true_and]
  congr 2
  rw[Bool.eq_iff_iff,beq_iff_eq,beq_iff_eq]
  omega
 ·rw[hK]
  refine⟨?_,hk⟩
  unfold jR
  rw[e];rfl
end
section
variable {A:bL} {M:aC} {S:Ps} {C:aQ} {m:List iK}
theorem aMW(M:aC)(a b:Int):aB tb.P 97 [i64 a,i64 b] M fun y N=>(∃ z,y=i64 z)∧N=M:=by
 have is:∀ (N:aC) (z:Int),aB tb.P 126 [.val (.int .i64 z)] N fun y N'=>y= .val (.bool false)∧N'=N:=fun N z=>by
  refine aLz ?_
  unfold F126
  rw[aJ]
  exact⟨by simp,rfl⟩
 refine aO9 ?_
 unfold F97
 simp only[i64,aJ]
 refine (is M a).mono ?_
 rintro y N ⟨rfl,rfl⟩
 rw[cO]
 refine (is N b).mono ?_
 rintro y N2 ⟨rfl,rfl⟩
 rw[cO,fG,fG]
 exact aT (fun _=>⟨⟨_,rfl⟩,rfl⟩) (fun _=>aT (fun _=>⟨⟨_,rfl⟩,rfl⟩) (fun _=>⟨⟨_,rfl⟩,rfl⟩))
theorem FR.ldg(h:FR A M S C m):aH tb 23 (.ptr A.f 1) M=some (fX S.g,M):=by
 have:=h.flat.ldg
 rw[h.rel.g] at this
 exact this
theorem aSf{M0:aC}{b q:Nat}{rw':Bool}(h:FR A M0 S C m)(hq:M0.get q=some (.cells [.ptr A.f 0] rw'))(hqb:q≠b)(hb:b∉A.wr∧¬ aN A.fsA b∧∀ x∈m,¬ aN x.2.d b):mV (.fn 96 [] [.ptr q 0]) M0 b:=by
 intro N f g K hk hK
 have hN:FR A N S C m:=h.keepS hk fun c hc=>by have:c=b:=by simpa using hc
                                               rw[this];exact hb
 have hqN:N.get q=some (.cells [.ptr A.f 0] rw'):=hk.get h.wf hq (by simpa using hqb)
 unfold eD
 simp only[dA]
 rw[aSU,eM]
 refine aB.mono (Q:=fun y N'=>(∃ z,y=i64 z)∧aD N N' []) ?_ ?_
 rotate_left
 ·rintro y N' ⟨⟨z,rfl⟩,hk'⟩
  exact hK z N' hk'
 refine aPB ?_
 unfold F96
 refine⟨_,_,_,_,_,_,rfl,_,_,_,_,_,_,rfl,?_⟩
 refine bE fun M13 hM13=>?_
 refine bE fun M14 hM14=>?_
 have k13:aD N M13 []:=by rw[hM13];exact aD.new hN.wf _
 have k14:aD N M14 []:=k13.trans0 (by rw[hM14];exact aD.new k13.wf _)
 have g13:M14.get N.next=some (.cells (fJ f) true):=by
  rw[hM14,aC.get_new,if_neg (by rw[hM13];show N.next≠N.next+1;omega),hM13];exact get_new _ _
 have g14:M14.get M13.next=some (.cells (fJ g) true):=by rw[hM14];exact get_new _ _
 clear hM13 hM14
 have h14:=hN.post k14
 have lq:∀ N',aD N N' []→aH tb 58 (.ptr q 0) N'=some (.ptr A.f 0,N'):=fun N' hk=>aS (eB aFe rfl (hk.get hN.wf hqN (by simp)) rfl)
 have lp:∀ (N':aC) (c:Nat) (f:Fd),N'.get c=some (.cells (fJ f) true)→aH tb 101 (.ptr c 0) N'=some (bB f.b f.k,N'):=fun N' c f hg=>aS (eC (n:=2) pR rfl rfl hg (by simp[fJ]))
 refine aG (lq _ k14) ?_
 refine aG dB ?_
 refine aG nW ?_
 rw[bV]
 refine aG h14.ldg ⟨_,_,_,_,_,rfl,?_⟩
 refine aG (lp _ _ _ g13) ⟨_,_,rfl,?_⟩
 refine aG (lq _ k14) ?_
 refine aG dB ?_
 refine aG nW ?_
 rw[bV]
 refine aG h14.ldg ⟨_,_,_,_,_,rfl,?_⟩
 refine aG (lp _ _ _ g14) ⟨_,_,rfl,?_⟩
 refine (aBm M14 k14.wf S.g hN.inv.may f.b f.k).mono ?_
 rintro y N1 ⟨⟨z1,rfl,_⟩,hk1⟩
 simp only[i64,aJ]
 have g14':=hk1.get k14.wf g14 (by simp)
 refine⟨aG (lq _ (k14.trans0 hk1)) rfl,aG (h14.post hk1).ldg rfl,aG (lp _ _ _ g14') rfl,?_⟩
 refine (aBm N1 hk1.wf S.g hN.inv.may g.b g.k).mono ?_
 rintro y N2 ⟨⟨z2,rfl,_⟩,hk2⟩
 simp only[i64,aJ]
 refine (aMW N2 z1 z2).mono ?_
 rintro y N3 ⟨⟨z3,rfl⟩,rfl⟩
 simp only[i64,aJ]
 exact⟨⟨_,rfl⟩,(k14.trans0 hk1).trans0 hk2⟩
def aEd(q:iK):Fd:=⟨q.1.1,q.1.2,⟨q.2.k,q.2.p,q.2.s,q.2.e⟩⟩
theorem FR.few(h:FR A M S C m):m.length≤160:=by
 have hg:=h.geo
 have h1:(m.map (·.1)).length≤((List.range (nB S)).flatMap fun (b:Nat)=>(List.range (nG S)).map fun (i:Nat)=>((b:Int),(i:Int))).length:=by
  refine lM h.nd fun c hc=>?_
  obtain⟨q,hq,rfl⟩:=List.mem_map.1 hc
  obtain⟨b,i,v,e1,e2,_⟩:=h.lnk q hq
  have hu:=cQ e2
  have hp:=h.inv.pgs b
  have hb:b<nB S:=by
   obtain⟨B,k1,k2⟩:=iF.1 e2
   have:=(List.getElem?_eq_some_iff.1 k1).1
   rw[h.inv.len] at this
   exact this
  rw[e1,List.mem_flatMap]
  exact⟨b,List.mem_range.2 hb,List.mem_map.2 ⟨i,List.mem_range.2 (by omega),rfl⟩⟩
 rw[List.length_map] at h1
 have h2:∀ n k:Nat,((List.range n).flatMap fun (b:Nat)=>(List.range k).map fun (i:Nat)=>((b:Int),(i:Int))).length=n*k:=fun n k=>by
  induction n with
  | zero=>simp
  | succ n ih=>rw[List.range_succ,List.flatMap_append,List.length_append,ih];simp[Nat.add_mul]
 rw[h2] at h1
 have:nB S*nG S≤20*8:=Nat.mul_le_mul (by omega) (by omega)
 omega
theorem kJ{α:Type}:∀ {l:List α} {i:Nat} {a:α},l[i]? =some a→l.Perm (a::l.eraseIdx i)
 | [],i,a,h=>by simp at h
 | b::l,0,a,h=>by
   simp only[List.getElem?_cons_zero,Option.some.injEq] at h
   subst h
   exact .refl _
 | b::l,i+1,a,h=>by
   simp only[List.getElem?_cons_succ] at h
   rw[List.eraseIdx_cons_succ]
   exact ((kJ h).cons b).trans (.swap _ _ _)
theorem mC{α β:Type}(f:α→β):∀ (l:List α) (i:Nat),(l.map f).eraseIdx i=(l.eraseIdx i).map f
 | [],i=>by simp
 | a::l,0=>rfl
 | a::l,i+1=>by simp only[List.map_cons,List.eraseIdx_cons_succ,mC f l i]
theorem aGj(h:FR A M S C m)(w:Int):
 aB tb.P 66 [.ptr A.f 0,i64 w] M fun y N=>∃ l:List Fd,l.Perm ((m.filter fun q=>q.1.1 != w).map aEd)∧GrF N y l∧aD M N []∧∀ c,aN y c→M.next≤c:=by
 refine aPI ?_
 unfold F66
 simp only[i64,aJ]
 refine bE fun M2 hM2=>?_
 have hM2':M2=M.new (.cells [.ptr A.f 0] true):=hM2
 have hk2:aD M M2 []:=by rw[hM2'];exact aD.new h.wf _
 have hb2:M2.get M.next=some (.cells [.ptr A.f 0] true):=by rw[hM2'];exact get_new _ _
 have hn2:M2.next=M.next+1:=by rw[hM2'];rfl
 clear hM2 hM2'
 have h2:=h.post hk2
 have hfew:=h.few
 refine aG (aS (eB aFe rfl hb2 rfl)) ?_
 refine aG dB ?_
 refine aG aEx ?_
 rw[bV]
 have l2:aH tb 96 (.ptr A.f 6) M2=some (.map A.mf,M2):=aS (eB aDl rfl h2.fl rfl)
 refine aG l2 ?_
 have he:jH M2 (.map A.mf)=some (some A.mf,mK m):=by unfold jH;simp only;rw[h2.mf]
 rw[he,eM]
 have hmf:A.mf<M.next:=h.wf _ _ h.mf
 refine⟨fun rem x n P=>∃ (rem':List iK) (acc:List Fd),rem=mK rem'∧(∀ q∈rem',q∈m)∧(acc++(rem'.filter fun q=>q.1.1 != w).map aEd).Perm ((m.filter fun q=>q.1.1 != w).map aEd)∧aD (M2.kill A.mf) P []∧GrF P x acc∧∀ c,aN x c→M2.next≤c,
  ⟨m,[],rfl,fun _ h=>h,by rw[List.nil_append],⟨hk2.wf.kill _,Nat.le_refl _,fun _ _ _=>rfl⟩,.inl ⟨rfl,rfl⟩,fun c hc=>hc.elim⟩,?_⟩
 rintro _ x rem P ⟨rem',acc,rfl,hsub,hperm,hk,hx,fx⟩
 have hacc:acc.length≤160:=by
  have:=hperm.length_eq
  rw[List.length_append,List.length_map,List.length_map] at this
  have:=List.length_filter_le (fun q:iK=>q.1.1 != w) m
  omega
 refine⟨fun hnil=>?_,fun i kx vx hi=>?_⟩
 ·
  have hr:rem'=[]:=by
   cases rem' with
   | nil=>rfl
   | cons a l=>simp[mK] at hnil
  subst hr
  rw[List.filter_nil,List.map_nil,List.append_nil] at hperm
  have hs:aD M2 (P.put A.mf (.map (mK m))) []:=by
   refine⟨hk.wf.put (Nat.lt_of_lt_of_le (by omega:A.mf<M2.next) hk.nxt) _,hk.nxt,fun c hc _=>?_⟩
   rw[aC.get_put]
   by_cases hcm:c=A.mf
   ·rw[if_pos hcm,hcm,h2.mf]
   ·rw[if_neg hcm,hk.old c hc (by simp),aC.get_kill,if_neg hcm]
  show aB tb.P 95 [x,.fn 96 [] [.ptr M.next 0]] (P.put A.mf (.map (mK m))) _
  have hx':GrF (P.put A.mf (.map (mK m))) x acc:=hx.mono fun c r hc hr=>by
   rw[aC.get_put,if_neg (by have:=fx c hc;omega)];exact hr
  have hP:=h2.post hs
  refine (aIh hs.wf hx' hacc fun b hb=>aSf hP (hs.get hk2.wf hb2 (by simp)) (by have:=fx b hb;omega) ⟨fun hm=>?_,fun hm=>?_,fun q hq hm=>?_⟩).mono ?_
  ·have h1:=fx b hb
   have h3:=h.lt b hm
   omega
  ·have h1:=fx b hb
   have h3:=aO.blk_lt h.chip.flt h.wf (by rw[h.fsA];exact hm)
   omega
  ·have h1:=fx b hb
   obtain⟨_,_,_,_,_,_,e4,_⟩:=h.lnk q hq
   have h3:=aO.blk_lt e4 h.wf hm
   omega
  ·rintro y N ⟨l',p1,p2,p3,p4,p5⟩
   refine⟨l',p1.trans hperm,p2,⟨p3,by have:=hs.nxt;have:(P.put A.mf (.map (mK m))).next=P.next:=rfl;have:=hk2.nxt;omega,fun c hc _=>?_⟩,fun c hc=>by have:=fx c hc;omega⟩
   have hcn:c<(P.put A.mf (.map (mK m))).next:=Nat.lt_of_lt_of_le (Nat.lt_of_lt_of_le hc hk2.nxt) hs.nxt
   rw[p5 c hcn (fun hm=>by have:=fx c hm;omega),hs.old c (Nat.lt_of_lt_of_le hc hk2.nxt) (by simp),hk2.old c hc (by simp)]
 ·
  obtain⟨q,hq,e1⟩:∃ q,rem'[i]? =some q∧(kx,vx)=(bB q.1.1 q.1.2,pgA q.2):=by
   unfold mK at hi
   rw[List.getElem?_map] at hi
   obtain⟨q,h1,h2⟩:=Option.map_eq_some_iff.1 hi
   exact⟨q,h1,h2.symm⟩
  injection e1 with e1 e2
  subst e1 e2
  obtain⟨hil,hqe⟩:=List.getElem?_eq_some_iff.1 hq
  have hqm:q∈m:=hsub q (List.mem_of_getElem? hq)
  obtain⟨_,_,_,_,_,_,_,hone,_⟩:=h.lnk q hqm
  have hpr:rem'.Perm (q::rem'.eraseIdx i):=kJ hq
  have hme:(mK rem').eraseIdx i=mK (rem'.eraseIdx i):=mC _ _ _
  rw[hme]
  have hsub':∀ q'∈rem'.eraseIdx i,q'∈m:=fun q' h'=>hsub q' (List.mem_of_mem_eraseIdx h')
  refine bE fun M17 hM17=>?_
  refine bE fun M18 hM18=>?_
  have k17:aD P M17 []:=by rw[hM17];exact aD.new hk.wf _
  have k18:aD M17 M18 []:=by rw[hM18];exact aD.new k17.wf _
  have g17:M18.get P.next=some (.cells [i64 0,i64 0] true):=by
   rw[hM18,aC.get_new,if_neg (by rw[hM17];show P.next≠P.next+1;omega),hM17];exact get_new _ _
  have g18:M18.get M17.next=some (.cells [i64 0,i64 0,i64 0,i64 0,.val (.slice none 0 0)] true):=by rw[hM18];exact get_new _ _
  have n17:M17.next=P.next+1:=by rw[hM17];rfl
  have n18:M18.next=M17.next+1:=by rw[hM18];rfl
  clear hM17 hM18
  have k19:aD P (M18.put P.next (.cells [i64 q.1.1,i64 q.1.2] true)) []:=xD (k17.trans0 k18) (Nat.le_refl _) (by omega) _
  refine aG (fR q.1.1 q.1.2 g17 rfl) ?_
  have g19:(M18.put P.next (.cells [i64 q.1.1,i64 q.1.2] true)).get M17.next=some (.cells [i64 0,i64 0,i64 0,i64 0,.val (.slice none 0 0)] true):=by rw[aC.get_put,if_neg (by omega)];exact g18
  refine aG (aJm q.2 hone g19 rfl) ?_
  have k20:aD P ((M18.put P.next (.cells [i64 q.1.1,i64 q.1.2] true)).put M17.next (.cells (pgC q.2) true)) []:=xD k19 (by omega) (by show M17.next<M18.next;omega) _
  generalize hM20:(M18.put P.next (.cells [i64 q.1.1,i64 q.1.2] true)).put M17.next (.cells (pgC q.2) true)=M20 at*
  have g20:M20.get P.next=some (.cells [i64 q.1.1,i64 q.1.2] true):=by rw[← hM20,aC.get_put,if_neg (by omega),aC.get_put,if_pos rfl]
  have g20':M20.get M17.next=some (.cells (pgC q.2) true):=by rw[← hM20,aC.get_put,if_pos rfl]
  clear hM20
  refine aG (aS (bO g20).1) ?_
  simp only[i64,aJ]
  have hK:=hk.trans0 k20
  refine aT (fun hne=>?_) (fun heq=>?_)
  ·refine aG (aS (bO g20).2.2) ⟨_,_,rfl,?_⟩
   have lt:aH tb 106 (.ptr M17.next 0) M20=some (aBv q.2.k q.2.p q.2.s q.2.e,M20):=aS (eC (n:=4) xM rfl rfl g20' (by simp[pgC]))
   refine aG lt ⟨_,_,_,_,rfl,?_⟩
   refine bE fun M31 hM31=>?_
   subst hM31
   obtain⟨x',N,a1,a2,a3,a4⟩:=GrF.grow k20.wf (hx.mono fun c r _ hr=>k20.get hk.wf hr (by simp)) (aEd q) (by omega)
   refine aG a1 ?_
   refine⟨rem'.eraseIdx i,acc++[aEd q],rfl,hsub',?_,⟨a3.wf,Nat.le_trans hK.nxt a3.nxt,fun c hc _=>?_⟩,a2,fun c hc=>?_⟩
   ·refine List.Perm.trans ?_ hperm
    rw[List.append_assoc]
    refine List.Perm.append_left _ ?_
    refine List.Perm.trans ?_ ((hpr.filter _).map _).symm
    rw[List.filter_cons,if_pos hne]
    exact .refl _
   ·have hcn:c<M20.next:=Nat.lt_of_lt_of_le hc hK.nxt
    rw[a3.old c hcn (fun hm=>by have:=fx c hm;have:(M2.kill A.mf).next=M2.next:=rfl;omega),hK.old c hc (by simp)]
   ·have h1:=a4 c hc
    have h2:=hK.nxt
    have:(M2.kill A.mf).next=M2.next:=rfl
    omega
  ·refine⟨rem'.eraseIdx i,acc,rfl,hsub',?_,hK,hx.mono fun c r _ hr=>k20.get hk.wf hr (by simp),fx⟩
   refine List.Perm.trans ?_ hperm
   refine List.Perm.append_left _ ?_
   refine List.Perm.trans ?_ ((hpr.filter _).map _).symm
   rw[List.filter_cons,if_neg (by rw[heq];simp)]
end
section
variable {κ ν:Type} [DecidableEq κ]
def mG(ke:κ→AV)(ve:ν→AV)(m:List (κ×ν)):List (AV×AV):=m.map fun q=>(ke q.1,ve q.2)
structure MT (mt kt vt:TypeId) (ke:κ→AV) (ve:ν→AV) (z:AV):Prop where
 ty:∃ ti tk tv,tb.ty.get mt=some ti∧ti.k= .mp kt vt∧tb.ty.get kt=some tk∧tb.ty.get vt=some tv∧tv.zA=z
 eq:∀ a b,eqA tb 60 kt (ke a) (ke b)=some (decide (a=b))
 ok:∀ a,gR tb 60 kt (ke a)=true
 fl:∀ a,∃ v,(ke a).flat=some v∧pY v v=true
variable {mt kt vt:TypeId} {ke:κ→AV} {ve:ν→AV} {z:AV}
theorem aAI(T:MT mt kt vt ke ve z){k:κ}:∀ (m:List (κ×ν)) (o:Nat),(∀ q∈m,q.1≠k)→eN tb kt (ke k) (mG ke ve m) o=some none
 | [],o,_=>rfl
 | q::m,o,h=>by
   show (match eqA tb 60 kt (ke k) (ke q.1) with|some true=>some (some (o,ke q.1,ve q.2))|some false=>eN tb kt (ke k) (mG ke ve m) (o+1)|none=>none)=_
   rw[T.eq,decide_eq_false (fun e=>h q (by simp) e.symm)]
   exact aAI T m (o+1) fun q' hq=>h q' (by simp[hq])
theorem uD(T:MT mt kt vt ke ve z){k:κ}{v:ν}:∀ (pre post:List (κ×ν)) (o:Nat),(∀ q∈pre,q.1≠k)→eN tb kt (ke k) (mG ke ve (pre++(k,v)::post)) o=some (some (o+pre.length,ke k,ve v))
 | [],post,o,_=>by
   show (match eqA tb 60 kt (ke k) (ke k) with|some true=>some (some (o,ke k,ve v))|some false=>eN tb kt (ke k) (mG ke ve post) (o+1)|none=>none)=_
   rw[T.eq,decide_eq_true rfl]
   rfl
 | q::pre,post,o,h=>by
   show (match eqA tb 60 kt (ke k) (ke q.1) with|some true=>some (some (o,ke q.1,ve q.2))|some false=>eN tb kt (ke k) (mG ke ve (pre++(k,v)::post)) (o+1)|none=>none)=_
   rw[T.eq,decide_eq_false (fun e=>h q (by simp) e.symm)]
   simp only
   rw[uD T pre post (o+1) fun q' hq=>h q' (by simp[hq])]
   simp only[List.length_cons]
   congr 3
   omega
omit [DecidableEq κ] in
theorem kO{m:List (κ×ν)}(hn:(m.map (·.1)).Nodup){k:κ}{v:ν}(h:(k,v)∈m):∃ pre post,m=pre++(k,v)::post∧(∀ q∈pre,q.1≠k)∧∀ q∈post,q.1≠k:=by
 obtain⟨pre,post,rfl⟩:=List.append_of_mem h
 refine⟨pre,post,rfl,fun q hq e=>?_,fun q hq e=>?_⟩
 ·rw[List.map_append,List.nodup_append] at hn
  exact hn.2.2 q.1 (List.mem_map.2 ⟨q,hq,rfl⟩) k (by simp) e
 ·rw[List.map_append,List.nodup_append,List.map_cons,List.nodup_cons] at hn
  exact hn.2.1.1 (List.mem_map.2 ⟨q,hq,e⟩)
theorem gI(T:MT mt kt vt ke ve z){M:aC}{b:Nat}{m:List (κ×ν)}(hg:M.get b=some (.map (mG ke ve m)))(hn:(m.map (·.1)).Nodup){k:κ}{v:ν}(h:(k,v)∈m)(ok:Bool):
 pV tb mt (.map b) (ke k) ok M=some (cond ok (.tup [ve v,.val (.bool true)]) (ve v),M):=by
 obtain⟨ti,tk,tv,h1,h2,h3,h4,h5⟩:=T.ty
 refine oU ?_
 unfold fT
 rw[h1]
 simp only[h2]
 rw[h3,h4]
 have he:gX M (.map b)=some (mG ke ve m):=by unfold gX;simp only;rw[hg]
 rw[he]
 simp only[T.ok,cond_true]
 obtain⟨pre,post,rfl,hp,_⟩:=kO hn h
 rw[uD T pre post 0 hp]
theorem aAX(T:MT mt kt vt ke ve z){M:aC}{b:Nat}{m:List (κ×ν)}(hg:M.get b=some (.map (mG ke ve m))){k:κ}(h:∀ q∈m,q.1≠k)(ok:Bool):
 pV tb mt (.map b) (ke k) ok M=some (cond ok (.tup [z,.val (.bool false)]) z,M):=by
 obtain⟨ti,tk,tv,h1,h2,h3,h4,h5⟩:=T.ty
 refine oU ?_
 unfold fT
 rw[h1]
 simp only[h2]
 rw[h3,h4]
 have he:gX M (.map b)=some (mG ke ve m):=by unfold gX;simp only;rw[hg]
 rw[he]
 simp only[T.ok,cond_true]
 rw[aAI T m 0 h,← h5]
theorem aEb(T:MT mt kt vt ke ve z){M:aC}{b:Nat}{m:List (κ×ν)}(hg:M.get b=some (.map (mG ke ve m)))(hn:(m.map (·.1)).Nodup)(k:κ)(v:ν):
 ∃ m',eMU tb mt (.map b) (ke k) (ve v) M=some (eY,M.put b (.map (mG ke ve m')))∧(m'.map (·.1)).Nodup∧(∀ q,q∈m'↔q=(k,v)∨(q∈m∧q.1≠k))∧m'.length≤m.length+1:=by
 obtain⟨ti,tk,tv,h1,h2,h3,h4,h5⟩:=T.ty
 by_cases hk:∃ w,(k,w)∈m
 ·obtain⟨w,hw⟩:=hk
  obtain⟨pre,post,rfl,hp,hq⟩:=kO hn hw
  refine⟨pre++(k,v)::post,aBi ?_,?_,fun q=>?_,by simp⟩
  ·unfold eJ
   rw[h1]
   simp only[h2]
   rw[h3,hg]
   simp only[T.ok,cond_true]
   rw[uD T pre post 0 hp]
   obtain⟨u,f1,f2⟩:=T.fl k
   simp only[f1,f2,cond_true,Nat.zero_add]
   congr 3
   unfold mG
   rw[List.map_append,List.map_append,List.map_cons,List.map_cons,List.set_append_right _ _ (by simp)]
   simp
  ·simpa using hn
  ·simp only[List.mem_append,List.mem_cons]
   constructor
   ·rintro (h|h|h)
    ·exact .inr ⟨.inl h,hp q h⟩
    ·exact .inl h
    ·exact .inr ⟨.inr (.inr h),hq q h⟩
   ·rintro (h|⟨h|h|h,h'⟩)
    ·exact .inr (.inl h)
    ·exact .inl h
    ·rw[h] at h';exact absurd rfl h'
    ·exact .inr (.inr h)
 ·have hno:∀ q∈m,q.1≠k:=fun q hq e=>hk ⟨q.2,by rw[← e];exact hq⟩
  refine⟨m++[(k,v)],aBi ?_,?_,fun q=>?_,by simp⟩
  ·unfold eJ
   rw[h1]
   simp only[h2]
   rw[h3,hg]
   simp only[T.ok,cond_true]
   rw[aAI T m 0 hno]
   simp[mG]
  ·rw[List.map_append]
   exact aAs hn fun hm=>by
    obtain⟨q,hq,e⟩:=List.mem_map.1 hm
    exact hno q hq e
  ·simp only[List.mem_append,List.mem_singleton]
   constructor
   ·rintro (h|h)
    ·exact .inr ⟨h,hno q h⟩
    ·exact .inl h
   ·rintro (h|⟨h,_⟩)
    ·exact .inr h
    ·exact .inl h
end
def vM(c:Int×Int):AV:=bB c.1 c.2
def whA(c:Int×Bool):AV:= .agg [i64 c.1,bv c.2]
def fdA(f:Fd):AV:= .agg (fJ f)
def unA(_:Unit):AV:=bv true
theorem vF:MT 96 101 110 vM pgA (.agg [i64 0,i64 0,i64 0,i64 0,.val (.slice none 0 0)]):=
 ⟨⟨_,_,_,aDl,rfl,pR,aES,rfl⟩,fun a b=>rT a.1 a.2 b.1 b.2,fun a=>qK a.1 a.2,fun a=>⟨_,rfl,by simp[pY,jK,eR]⟩⟩
theorem aRQ:tb.ty.get 166=some ⟨.mp 101 4,1,8,[.map none],none⟩:=by kernel_rfl
theorem aE5:MT 166 101 4 vM unA (bv false):=
 ⟨⟨_,_,_,aRQ,rfl,pR,ty4,rfl⟩,fun a b=>rT a.1 a.2 b.1 b.2,fun a=>qK a.1 a.2,fun a=>⟨_,rfl,by simp[pY,jK,eR]⟩⟩
theorem aR6:tb.ty.get 197=some ⟨.mp 199 115,1,8,[.map none],none⟩:=by kernel_rfl
theorem aJH:tb.ty.get 199=some ⟨.st [(0,1,false),(1,1,false)],2,16,[.int .i64 0,.bool false],some [3,4]⟩:=by kernel_rfl
theorem aK2(a b:Int×Bool):eqA tb 60 199 (whA a) (whA b)=some (decide (a=b)):=by
 obtain⟨a1,a2⟩:=a
 obtain⟨b1,b2⟩:=b
 have e:eqA tb 60 199 (whA (a1,a2)) (whA (b1,b2))=cond (a1==b1) (cond (a2==b2) (some true) (some false)) (some false):=by kernel_rfl
 rw[e]
 by_cases h1:a1=b1
 ·have h1':(a1==b1)=true:=by simpa using h1
  rw[h1']
  by_cases h2:a2=b2
  ·have h2':(a2==b2)=true:=by simpa using h2
   rw[h2'];simp[h1,h2]
  ·have h2':(a2==b2)=false:=by simpa using h2
   rw[h2'];simp[h2]
 ·have h1':(a1==b1)=false:=by simpa using h1
  rw[h1'];simp[h1]
theorem aCn:MT 197 199 115 whA fdA (.agg (fJ fd0)):=
 ⟨⟨_,_,_,aR6,rfl,aJH,nL,rfl⟩,aK2,fun a=>by kernel_rfl,fun a=>⟨_,rfl,by simp[pY,jK,eR]⟩⟩
structure aA6 (last now:Int) (pre:List Fd) (bm:List ((Int×Bool)×Fd)):Prop where
 nd:(bm.map (·.1)).Nodup
 snd:∀ q∈bm,q.2∈pre∧lN last now q.2.t=some q.1∧∀ g∈pre,lN last now g.t=some q.1→gA g.t q.2.t=false
 cmp:∀ g∈pre,∀ c,lN last now g.t=some c→∃ q∈bm,q.1=c
theorem aA6.skip{last now:Int}{pre:List Fd}{bm:List ((Int×Bool)×Fd)}(h:aA6 last now pre bm){x:Fd}(hx:lN last now x.t=none):aA6 last now (pre++[x]) bm:=by
 refine⟨h.nd,fun q hq=>?_,fun g hg c hc=>?_⟩
 ·obtain⟨h1,h2,h3⟩:=h.snd q hq
  refine⟨by simp[h1],h2,fun g hg hc=>?_⟩
  rw[List.mem_append,List.mem_singleton] at hg
  rcases hg with hg|rfl
  ·exact h3 g hg hc
  ·rw[hx] at hc;cases hc
 ·rw[List.mem_append,List.mem_singleton] at hg
  rcases hg with hg|rfl
  ·exact h.cmp g hg c hc
  ·rw[hx] at hc;cases hc
theorem aA6.stay{last now:Int}{pre:List Fd}{bm:List ((Int×Bool)×Fd)}(h:aA6 last now pre bm){x:Fd}{c:Int×Bool}(hx:lN last now x.t=some c){y:Fd}(hy:(c,y)∈bm)(hn:gA x.t y.t=false):aA6 last now (pre++[x]) bm:=by
 refine⟨h.nd,fun q hq=>?_,fun g hg d hd=>?_⟩
 ·obtain⟨h1,h2,h3⟩:=h.snd q hq
  refine⟨by simp[h1],h2,fun g hg hc=>?_⟩
  rw[List.mem_append,List.mem_singleton] at hg
  rcases hg with hg|rfl
  ·exact h3 g hg hc
  ·rw[hx] at hc
   injection hc with hc
   have:q=(c,y):=by
    have h4:=h.nd
    obtain⟨pre',post',e,e1,e2⟩:=kO h4 hy
    rw[e,List.mem_append,List.mem_cons] at hq
    rcases hq with hq|hq|hq
    ·exact absurd hc.symm (e1 q hq)
    ·exact hq
    ·exact absurd hc.symm (e2 q hq)
   rw[this];exact hn
 ·rw[List.mem_append,List.mem_singleton] at hg
  rcases hg with hg|rfl
  ·exact h.cmp g hg d hd
  ·rw[hx] at hd
   injection hd with hd
   exact⟨_,hy,hd⟩
theorem xO{a b c:Tg}(h:gA a b=false)(k:gA c b=true):gA a c=false:=by
 rw[cN] at *;rw[xB] at k;omega
theorem aA6.put{last now:Int}{pre:List Fd}{bm bm':List ((Int×Bool)×Fd)}(h:aA6 last now pre bm){x:Fd}{c:Int×Bool}(hx:lN last now x.t=some c)(hn:∀ y,(c,y)∈bm→gA x.t y.t=true)(hnd:(bm'.map (·.1)).Nodup)(hm:∀ q,q∈bm'↔q=(c,x)∨(q∈bm∧q.1≠c)):aA6 last now (pre++[x]) bm':=by
 refine⟨hnd,fun q hq=>?_,fun g hg d hd=>?_⟩
 ·rcases (hm q).1 hq with rfl|⟨hq,hqc⟩
  ·refine⟨by simp,hx,fun g hg hc=>?_⟩
   rw[List.mem_append,List.mem_singleton] at hg
   rcases hg with hg|rfl
   ·obtain⟨⟨c',y⟩,hy,rfl⟩:=h.cmp g hg c hc
    exact xO ((h.snd _ hy).2.2 g hg hc) (hn y hy)
   ·rw[cN];exact .inr ⟨rfl,Int.le_refl _⟩
  ·obtain⟨h1,h2,h3⟩:=h.snd q hq
   refine⟨by simp[h1],h2,fun g hg hc=>?_⟩
   rw[List.mem_append,List.mem_singleton] at hg
   rcases hg with hg|rfl
   ·exact h3 g hg hc
   ·rw[hx] at hc
    injection hc with hc
    exact absurd hc.symm hqc
 ·rw[List.mem_append,List.mem_singleton] at hg
  rcases hg with hg|rfl
  ·obtain⟨q,hq,rfl⟩:=h.cmp g hg d hd
   by_cases e:q.1=c
   ·exact⟨(c,x),(hm _).2 (.inl rfl),e.symm⟩
   ·exact⟨q,(hm _).2 (.inr ⟨hq,e⟩),rfl⟩
  ·rw[hx] at hd
   injection hd with hd
   exact⟨_,(hm _).2 (.inl rfl),hd⟩
section
variable {A:bL} {M:aC} {S:Ps} {C:aQ} {m:List iK}
theorem FR.mem_fds(h:FR A M S C m){l:List Fd}(hl:l.Perm ((m.filter fun q=>q.1.1 != -1).map aEd))(f:Fd):f∈l↔f∈fds S:=by
 rw[hl.mem_iff,List.mem_map]
 constructor
 ·rintro⟨q,hq,rfl⟩
  rw[List.mem_filter] at hq
  obtain⟨b,i,v,e1,e2,e3,_⟩:=h.lnk q hq.1
  refine Go.Proofs.YteaogiidncpofaaGreat.mem_fds.2 ⟨b,i,v,e2,?_⟩
  unfold aEd
  rw[e1,e3.1,e3.2.1,e3.2.2.1,e3.2.2.2]
 ·intro hf
  obtain⟨b,i,v,e2,rfl⟩:=Go.Proofs.YteaogiidncpofaaGreat.mem_fds.1 hf
  obtain⟨q,hq,e1⟩:=h.hav b i v e2
  refine⟨q,List.mem_filter.2 ⟨hq,by rw[e1];simp⟩,?_⟩
  obtain⟨b',i',v',k1,k2,k3,_⟩:=h.lnk q hq
  rw[e1] at k1
  injection k1 with k1 k1'
  have k1:b=b':=by omega
  have k1':i=i':=by omega
  subst k1 k1'
  rw[e2] at k2
  injection k2 with k2
  subst k2
  unfold aEd
  rw[e1,k3.1,k3.2.1,k3.2.2.1,k3.2.2.2]
theorem aM8{N:aC}{b:Nat}{cs:List AV}(c:Int×Bool)(hg:N.get b=some (.cells cs true))(hl:cs.length=2):cL tb 199 (.ptr b 0) (whA c) N=some (eY,N.put b (.cells [i64 c.1,bv c.2] true)):=
 oF (pP (vs:=[i64 c.1,bv c.2]) aJH rfl hg hl (by simp[i64,bv,AV.one]))
theorem aAN{N:aC}{b:Nat}{cs:List AV}(f:Fd)(hg:N.get b=some (.cells cs true))(hl:cs.length=6):cL tb 115 (.ptr b 0) (fdA f) N=some (eY,N.put b (.cells (fJ f) true)):=
 oF (pP (vs:=fJ f) nL rfl hg hl (zF f))
theorem aMP(last now:Int)(t:Tg):lN last now t=if t.k=3 then some (-1,decide (t.e>last)) else if decide (t.e>last)=true∧t.e≠now then none else some (t.p,decide (t.e>last)):=by
 unfold lN
 by_cases h1:t.k=3
 ·rw[if_pos h1,if_pos h1]
 ·rw[if_neg h1,if_neg h1]
  by_cases h2:t.e>last
  ·rw[if_pos h2,decide_eq_true h2]
   by_cases h3:t.e=now
   ·rw[if_pos h3,if_neg (by simp[h3])]
   ·rw[if_neg h3,if_pos ⟨rfl,h3⟩]
  ·rw[if_neg h2,decide_eq_false h2,if_neg (by simp)]
theorem aKg(h:FR A M S C m):
 aB tb.P 139 [.ptr A.f 0] M fun y N=>∃ (b:Nat) (ol:List ((Int×Int)×Unit)),y= .map b∧M.next≤b∧N.get b=some (.map (mG vM unA ol))∧(ol.map (·.1)).Nodup∧(∀ c,c∈ol.map (·.1)↔∃ b i:Nat,c=((b:Int),(i:Int))∧cH S b i=true)∧aD M N []:=by
 refine aOm ?_
 unfold F139
 refine (aGj h (-1)).mono ?_
 rintro y M2 ⟨l,hl,hy,hk2,fy⟩
 have hmem:=h.mem_fds hl
 have hlen:l.length≤160:=by
  have:=hl.length_eq
  rw[List.length_map] at this
  have:=List.length_filter_le (fun q:iK=>q.1.1 != -1) m
  have:=h.few
  omega
 have h2:=h.post hk2
 refine (aE1 M2 hk2.wf y l hy.at (by omega)).mono ?_
 rintro y3 M4 ⟨rfl,hk4⟩
 have hlast:cM l=bK S:=vR hmem
 rw[hlast]
 simp only[i64,aJ]
 have hk4':=hk2.trans0 hk4
 have hyb:∀ c,aN y c→c<M4.next:=fun c hc=>Nat.lt_of_lt_of_le (aO.blk_lt hy.at hk2.wf hc) hk4.nxt
 refine bE fun M6 hM6=>?_
 have e6:M6=M4.new (.map []):=hM6
 have hk6:aD M4 M6 []:=by rw[e6];exact aD.new hk4.wf _
 have g6:M6.get M4.next=some (.map (mG whA fdA [])):=by rw[e6];exact get_new _ _
 have n6:M6.next=M4.next+1:=by rw[e6];rfl
 clear hM6 e6
 have hMn:M.next≤M4.next:=hk4'.nxt
 have hy6:jQ M6 y l:=aO.keep0 (aO.keep0 hy.at hk2.wf hk4) hk4.wf hk6
 refine aG (iO hy6.len) ?_
 simp only[aJ]
 refine⟨fun z n P=>∃ (j:Nat) (bm:List ((Int×Bool)×Fd)),z=j∧n=l.length-j∧j≤l.length∧aD M6 P [M4.next]∧P.get M4.next=some (.map (mG whA fdA bm))∧aA6 (bK S) S.now (l.take j) bm,
  ⟨_,0,[],rfl,rfl,Nat.zero_le _,aD.refl hk6.wf,g6,⟨List.nodup_nil,fun q hq=>by simp at hq,fun g hg=>by simp at hg⟩⟩,?_⟩
 rintro _ z n P ⟨j,bm,rfl,rfl,hj,hkP,hgP,hbm⟩
 have hkMP:aD M P []:=(hk4'.trans0 hk6).trans hkP (by simp) (fun c hc hlt=>absurd hlt (by rw[List.mem_singleton] at hc;omega))
 have hP:=h.post hkMP
 have hyP:jQ P y l:=aO.keep hy6 hk6.wf hkP fun c hc hm=>absurd (hyb c hc) (by rw[List.mem_singleton] at hm;omega)
 have hbP:M4.next<P.next:=by have:=hkP.nxt;omega
 refine aT (fun hlt=>?_) (fun hge=>?_)
 ·have hlt:j<l.length:=Int.ofNat_lt.1 (of_decide_eq_true hlt)
  refine bE fun K90 hK90=>?_
  have key90:∀ (N:aC) (bm':List ((Int×Bool)×Fd)),aD P N [M4.next]→N.get M4.next=some (.map (mG whA fdA bm'))→aA6 (bK S) S.now (l.take j++[l[j]]) bm'→K90 N:=by
   intro N bm' k1 k2 k3
   rw[hK90]
   refine⟨_,by omega,j+1,bm',dE (by omega),rfl,by omega,hkP.trans k1 (fun _ h _=>h) (fun _ h _=>h),k2,?_⟩
   rw[List.take_add_one,List.getElem?_eq_getElem hlt]
   exact k3
  clear hK90
  obtain⟨b1,o1,a1,a2,_⟩:=hyP.all hlt
  generalize hx:l[j]=x at*
  refine aG (a1 P) ?_
  rw[bV]
  refine aG a2 ⟨_,_,_,_,_,_,rfl,?_⟩
  refine bE fun M24 hM24=>?_
  have e24:M24=P.new (.cells [i64 0,i64 0,i64 0,i64 0,i64 0,i64 0] true):=hM24
  have k24:aD P M24 []:=by rw[e24];exact aD.new hP.wf _
  have g24:M24.get P.next=some (.cells [i64 0,i64 0,i64 0,i64 0,i64 0,i64 0] true):=by rw[e24];exact get_new _ _
  have n24:M24.next=P.next+1:=by rw[e24];rfl
  clear hM24 e24
  refine aG (aAN x g24 rfl) ?_
  have k25:aD P (M24.put P.next (.cells (fJ x) true)) []:=xD k24 (Nat.le_refl _) (by omega) _
  generalize hM25:M24.put P.next (.cells (fJ x) true)=M25 at*
  have g25:M25.get P.next=some (.cells (fJ x) true):=by rw[← hM25,aC.get_put,if_pos rfl]
  have n25:M25.next=P.next+1:=by rw[← hM25];exact n24
  clear hM25
  refine aG (aS (eB dX rfl g25 rfl)) ?_
  simp only[i64,aJ]
  refine aG (aS (eB dX rfl g25 rfl)) ?_
  simp only[i64,aJ]
  refine bE fun M30 hM30=>?_
  have e30:M30=M25.new (.cells [i64 0,bv false] true):=hM30
  have k30:aD P M30 []:=k25.trans0 (by rw[e30];exact aD.new k25.wf _)
  have g30:M30.get M25.next=some (.cells [i64 0,bv false] true):=by rw[e30];exact get_new _ _
  have g30':M30.get P.next=some (.cells (fJ x) true):=by rw[e30,aC.get_new,if_neg (by omega)];exact g25
  have n30:M30.next=M25.next+1:=by rw[e30];rfl
  clear hM30 e30
  refine aG (aM8 (x.t.p,decide (x.t.e>bK S)) g30 rfl) ?_
  have k31:aD P (M30.put M25.next (.cells [i64 x.t.p,bv (decide (x.t.e>bK S))] true)) []:=xD k30 (by omega) (by omega) _
  generalize hM31:M30.put M25.next (.cells [i64 x.t.p,bv (decide (x.t.e>bK S))] true)=M31 at*
  have g31:M31.get M25.next=some (.cells [i64 x.t.p,bv (decide (x.t.e>bK S))] true):=by rw[← hM31,aC.get_put,if_pos rfl]
  have g31':M31.get P.next=some (.cells (fJ x) true):=by rw[← hM31,aC.get_put,if_neg (by omega)];exact g30'
  have n31:M31.next=M25.next+1:=by rw[← hM31];exact n30
  clear hM31
  refine bE fun K48 hK48=>?_
  have key48:∀ (N:aC) (c:Int×Bool),aD P N []→N.get M25.next=some (.cells [i64 c.1,bv c.2] true)→N.get P.next=some (.cells (fJ x) true)→lN (bK S) S.now x.t=some c→K48 N:=by
   intro N c hkN gN gN' hc
   rw[hK48]
   clear hK48
   have lw:∀ N',N'.get M25.next=some (.cells [i64 c.1,bv c.2] true)→aH tb 199 (.ptr M25.next 0) N'=some (whA c,N'):=fun N' hg=>aS (eC (n:=2) aJH rfl rfl hg (by simp))
   refine aG (lw N gN) ⟨_,_,rfl,?_⟩
   have gb:N.get M4.next=some (.map (mG whA fdA bm)):=hkN.get hP.wf hgP (by simp)
   have hNn:=hkN.nxt
   have n25N:M25.next<N.next:=hkN.wf _ _ gN
   have look:∃ (u:Fd) (ok:Bool),pV tb 197 (.map M4.next) (whA c) true N=some (.tup [fdA u,.val (.bool ok)],N)∧((ok=true∧(c,u)∈bm)∨(ok=false∧∀ q∈bm,q.1≠c)):=by
    by_cases hex:∃ u,(c,u)∈bm
    ·obtain⟨u,hu⟩:=hex
     exact⟨u,true,gI aCn gb hbm.nd hu true,.inl ⟨rfl,hu⟩⟩
    ·have hno:∀ q∈bm,q.1≠c:=fun q hq e=>hex ⟨q.2,by rw[← e];exact hq⟩
     exact⟨fd0,false,aAX aCn gb hno true,.inr ⟨rfl,hno⟩⟩
   obtain⟨u,ok,hlk,huok⟩:=look
   refine aG hlk ⟨_,_,_,_,_,_,_,rfl,?_⟩
   refine bE fun M60 hM60=>?_
   have e60:M60=N.new (.cells [i64 0,i64 0,i64 0,i64 0,i64 0,i64 0] true):=hM60
   have k60:aD N M60 []:=by rw[e60];exact aD.new hkN.wf _
   have g60:M60.get N.next=some (.cells [i64 0,i64 0,i64 0,i64 0,i64 0,i64 0] true):=by rw[e60];exact get_new _ _
   have n60:M60.next=N.next+1:=by rw[e60];rfl
   clear hM60 e60
   refine aG (aAN u g60 rfl) ?_
   have k61:aD N (M60.put N.next (.cells (fJ u) true)) []:=xD k60 (Nat.le_refl _) (by omega) _
   generalize hM61:M60.put N.next (.cells (fJ u) true)=M61 at*
   have g61:M61.get N.next=some (.cells (fJ u) true):=by rw[← hM61,aC.get_put,if_pos rfl]
   clear hM61
   refine bE fun K77 hK77=>?_
   have key77:∀ (t:Bool) (N':aC),aD M61 N' []→(t=true→∀ v,(c,v)∈bm→gA x.t v.t=true)→(t=false→ok=true∧gA x.t u.t=false)→K77 t N':=by
    intro t N' hkN' ht hf
    rw[hK77]
    clear hK77
    have kk:=(hkN.trans0 k61).trans0 hkN'
    have gb':N'.get M4.next=some (.map (mG whA fdA bm)):=kk.get hP.wf hgP (by simp)
    refine aT (fun e=>?_) (fun e=>?_)
    ·have gN1:=(k61.trans0 hkN').get hkN.wf gN (by simp)
     have gN2:=(k61.trans0 hkN').get hkN.wf gN' (by simp)
     refine aG (lw N' gN1) ⟨_,_,rfl,?_⟩
     have lx:aH tb 115 (.ptr P.next 0) N'=some (fdA x,N'):=aS (eC (n:=6) nL rfl rfl gN2 (by simp[fJ]))
     refine aG lx ⟨_,_,_,_,_,_,rfl,?_⟩
     obtain⟨bm',p1,p2,p3,_⟩:=aEb aCn gb' hbm.nd c x
     refine aG p1 ?_
     have hlt':M4.next<N'.next:=kk.wf _ _ gb'
     exact key90 _ bm' (kk.trans (aD.put kk.wf hlt' _) (by simp) (fun _ h _=>h)) (by rw[aC.get_put,if_pos rfl]) (hbm.put hc (ht e) p2 p3)
    ·obtain⟨e1,e2⟩:=hf e
     rcases huok with⟨_,hu⟩|⟨e3,_⟩
     ·exact key90 _ bm (kk.mono (by simp)) gb' (hbm.stay hc hu e2)
     ·rw[e1] at e3;cases e3
   clear hK77
   refine aT (fun e=>?_) (fun e=>?_)
   ·refine key77 _ _ (aD.refl k61.wf) (fun _ v hv=>?_) (by simp)
    rcases huok with⟨e3,_⟩|⟨_,e3⟩
    ·rw[e3] at e;cases e
    ·exact absurd rfl (e3 _ hv)
   ·have hok:ok=true:=by simpa using e
    have gx1:=k61.get hkN.wf gN' (by simp)
    have lt1:aH tb 106 (.ptr P.next 2) M61=some (tgA x.t,M61):=aS (eC (n:=4) xM rfl rfl gx1 (by simp[fJ]))
    refine aG lt1 ⟨_,_,_,_,rfl,?_⟩
    have lt2:aH tb 106 (.ptr N.next 2) M61=some (tgA u.t,M61):=aS (eC (n:=4) xM rfl rfl g61 (by simp[fJ]))
    refine aG lt2 ⟨_,_,_,_,rfl,?_⟩
    refine (aGT M61 k61.wf x.t u.t).mono ?_
    rintro r N' ⟨rfl,hkN'⟩
    rw[cO]
    have hu:(c,u)∈bm:=by
     rcases huok with⟨_,hu⟩|⟨e3,_⟩
     ·exact hu
     ·rw[hok] at e3;cases e3
    refine key77 _ _ hkN' (fun e2 v hv=>?_) (fun e2=>⟨hok,e2⟩)
    obtain⟨pre',post',e4,e5,e6⟩:=kO hbm.nd hu
    rw[e4,List.mem_append,List.mem_cons] at hv
    rcases hv with hv|hv|hv
    ·exact absurd rfl (e5 _ hv)
    ·injection hv with _ hv
     rw[hv];exact e2
    ·exact absurd rfl (e6 _ hv)
  clear hK48
  have hcf:=aMP (bK S) S.now x.t
  refine aG (aS (eB dX rfl g31' rfl)) ?_
  simp only[i64,aJ]
  refine aT (fun e=>?_) (fun e=>?_)
  ·have e:x.t.k=3:=by simpa using e
   rw[if_pos e] at hcf
   refine aG (oF (dK dX rfl rfl g31 (by simp))) ?_
   refine key48 _ (-1,decide (x.t.e>bK S)) (xD k31 (by omega) (by omega) _) (by rw[aC.get_put,if_pos rfl];rfl) (by rw[aC.get_put,if_neg (by omega)];exact g31') hcf
  ·have e:¬ x.t.k=3:=by simpa using e
   rw[if_neg e] at hcf
   refine bE fun K46 hK46=>?_
   have key46:∀ t:Bool,t=decide (decide (x.t.e>bK S)=true∧x.t.e≠S.now)→K46 t:=by
    intro t ht
    rw[hK46]
    refine aT (fun e2=>?_) (fun e2=>?_)
    ·rw[e2] at ht
     have ht:=of_decide_eq_true ht.symm
     rw[if_pos ht] at hcf
     exact key90 _ bm (k31.mono (by simp)) (k31.get hP.wf hgP (by simp)) (hbm.skip hcf)
    ·rw[e2] at ht
     have ht:=of_decide_eq_false ht.symm
     rw[if_neg ht] at hcf
     exact key48 _ _ k31 g31 g31' hcf
   clear hK46
   refine aG (aS (eB ty4 rfl g31 rfl)) ?_
   simp only[bv,cO]
   refine aT (fun e2=>?_) (fun e2=>key46 _ (by rw[e2];simp))
   have h31:=hP.post k31
   refine aG dB ?_
   have fa8:cG tb 99 (.ptr A.f 0) 8 M31=some (.ptr A.f 12,M31):=bW (by unfold eZf;rw[aBw];rfl)
   refine aG fa8 ?_
   rw[bV]
   refine aG (aS (eB dX rfl g31' rfl)) ?_
   simp only[i64,aJ]
   refine aG (aS (eB dX rfl h31.fl (o:=12) (v:=i64 S.now) rfl)) ?_
   simp only[i64,aJ]
   refine key46 _ ?_
   rw[e2]
   by_cases e3:x.t.e=S.now
   ·simp[e3]
   ·have:(x.t.e != S.now)=true:=by simpa using e3
    rw[this];simp[e3]
 ·
  have hge:¬ (j:Int)<l.length:=of_decide_eq_false hge
  have:j=l.length:=by omega
  subst this
  rw[List.take_length] at hbm
  refine bE fun M92 hM92=>?_
  have e92:M92=P.new (.map []):=hM92
  have k92:aD P M92 []:=by rw[e92];exact aD.new hP.wf _
  have g92:M92.get P.next=some (.map (mG vM unA [])):=by rw[e92];exact get_new _ _
  have n92:M92.next=P.next+1:=by rw[e92];rfl
  clear hM92 e92
  have hg92:M92.get M4.next=some (.map (mG whA fdA bm)):=k92.get hP.wf hgP (by simp)
  have he:jH M92 (.map M4.next)=some (some M4.next,mG whA fdA bm):=by unfold jH;simp only;rw[hg92]
  rw[he,eM]
  refine⟨fun rem n N=>∃ (rem':List ((Int×Bool)×Fd)) (ol:List ((Int×Int)×Unit)),rem=mG whA fdA rem'∧(∀ q∈rem',q∈bm)∧(∀ q∈bm,q∈rem'∨(q.2.b,q.2.k)∈ol.map (·.1))∧(∀ c∈ol.map (·.1),∃ q∈bm,c=(q.2.b,q.2.k))∧(ol.map (·.1)).Nodup∧aD (M92.kill M4.next) N [P.next]∧N.get P.next=some (.map (mG vM unA ol)),
   ⟨bm,[],rfl,fun _ h=>h,fun q hq=> .inl hq,fun c hc=>by simp at hc,List.nodup_nil,⟨k92.wf.kill _,Nat.le_refl _,fun _ _ _=>rfl⟩,by show (M92.kill M4.next).get P.next=_;rw[aC.get_kill,if_neg (by omega)];exact g92⟩,?_⟩
  rintro _ rem N ⟨rem',ol,rfl,hsub,hcov,hsnd,hnd,hkN,hgN⟩
  refine⟨fun hnil=>?_,fun i kx vx hi=>?_⟩
  ·have hr:rem'=[]:=by
    cases rem' with
    | nil=>rfl
    | cons a l=>simp[mG] at hnil
   subst hr
   refine⟨P.next,ol,rfl,hkMP.nxt,?_,hnd,fun c=>?_,?_⟩
   ·show (N.put M4.next _).get P.next=_
    rw[aC.get_put,if_neg (by omega)];exact hgN
   ·constructor
    ·intro hc
     obtain⟨q,hq,rfl⟩:=hsnd c hc
     obtain⟨q1,q2,q3⟩:=hbm.snd q hq
     obtain⟨b,i,v,hv,e⟩:=Go.Proofs.YteaogiidncpofaaGreat.mem_fds.1 ((hmem _).1 q1)
     refine⟨b,i,by rw[e],dG.2 ⟨q.1,v,hv,?_,fun b' i' u hu hcu=>?_⟩⟩
     ·rw[e] at q2;exact q2
     ·have:=q3 ⟨b',i',u.t⟩ ((hmem _).2 (Go.Proofs.YteaogiidncpofaaGreat.mem_fds.2 ⟨b',i',u,hu,rfl⟩)) hcu
      rw[e] at this;exact this
    ·rintro⟨b,i,rfl,hli⟩
     obtain⟨c,v,hv,hcv,hbest⟩:=dG.1 hli
     obtain⟨q,hq,hqc⟩:=hbm.cmp ⟨b,i,v.t⟩ ((hmem _).2 (Go.Proofs.YteaogiidncpofaaGreat.mem_fds.2 ⟨b,i,v,hv,rfl⟩)) c hcv
     obtain⟨q1,q2,q3⟩:=hbm.snd q hq
     obtain⟨b',i',v',hv',e⟩:=Go.Proofs.YteaogiidncpofaaGreat.mem_fds.1 ((hmem _).1 q1)
     have n1:=q3 ⟨b,i,v.t⟩ ((hmem _).2 (Go.Proofs.YteaogiidncpofaaGreat.mem_fds.2 ⟨b,i,v,hv,rfl⟩)) (by rw[hqc];exact hcv)
     have n2:=hbest b' i' v' hv' (by rw[e,hqc] at q2;exact q2)
     rw[e] at n1
     rw[cN] at n1 n2
     simp only at n1
     obtain⟨rfl,rfl⟩:=h.inv.sq.one _ _ _ _ _ _ hv hv' (by omega)
     rcases hcov q hq with hm|hm
     ·simp at hm
     ·rw[e] at hm;exact hm
   ·refine⟨hkN.wf.put (Nat.lt_of_lt_of_le (by show M4.next<M92.next;omega) hkN.nxt) _,?_,fun c hc _=>?_⟩
    ·have h1:=hkN.nxt
     have h2:=hkMP.nxt
     show M.next≤N.next
     have:(M92.kill M4.next).next=M92.next:=rfl
     omega
    ·have hcP:c<P.next:=Nat.lt_of_lt_of_le hc hkMP.nxt
     show (N.put M4.next _).get c=_
     rw[aC.get_put,if_neg (by omega),hkN.old c (by show c<M92.next;omega) (by simp;omega),aC.get_kill,if_neg (by omega),k92.old c hcP (by simp),hkMP.old c hc (by simp)]
  ·obtain⟨q,hq,e1⟩:∃ q,rem'[i]? =some q∧(kx,vx)=(whA q.1,fdA q.2):=by
    unfold mG at hi
    rw[List.getElem?_map] at hi
    obtain⟨q,h1,h2⟩:=Option.map_eq_some_iff.1 hi
    exact⟨q,h1,h2.symm⟩
   injection e1 with e1 e2
   subst e1 e2
   have hqm:q∈bm:=hsub q (List.mem_of_getElem? hq)
   have hpr:=kJ hq
   have hme:(mG whA fdA rem').eraseIdx i=mG whA fdA (rem'.eraseIdx i):=mC _ _ _
   rw[hme]
   refine bE fun M100 hM100=>?_
   have e100:M100=N.new (.cells [i64 0,i64 0,i64 0,i64 0,i64 0,i64 0] true):=hM100
   have k100:aD N M100 []:=by rw[e100];exact aD.new hkN.wf _
   have g100:M100.get N.next=some (.cells [i64 0,i64 0,i64 0,i64 0,i64 0,i64 0] true):=by rw[e100];exact get_new _ _
   have n100:M100.next=N.next+1:=by rw[e100];rfl
   clear hM100 e100
   refine aG (aAN q.2 g100 rfl) ?_
   have k101:aD N (M100.put N.next (.cells (fJ q.2) true)) []:=xD k100 (Nat.le_refl _) (by omega) _
   generalize hM101:M100.put N.next (.cells (fJ q.2) true)=M101 at*
   have g101:M101.get N.next=some (.cells (fJ q.2) true):=by rw[← hM101,aC.get_put,if_pos rfl]
   clear hM101
   have lpl:aH tb 101 (.ptr N.next 0) M101=some (bB q.2.b q.2.k,M101):=aS (eC (n:=2) pR rfl rfl g101 (by simp[fJ]))
   refine aG lpl ⟨_,_,rfl,?_⟩
   have gol:M101.get P.next=some (.map (mG vM unA ol)):=k101.get hkN.wf hgN (by simp)
   obtain⟨ol',p1,p2,p3,_⟩:=aEb aE5 gol hnd (q.2.b,q.2.k) ()
   refine aG p1 ?_
   refine⟨rem'.eraseIdx i,ol',rfl,fun q' h'=>hsub q' (List.mem_of_mem_eraseIdx h'),fun q' hq'=>?_,fun c hc=>?_,p2,?_,by rw[aC.get_put,if_pos rfl]⟩
   ·have own:(q.2.b,q.2.k)∈ol'.map (·.1):=List.mem_map.2 ⟨_,(p3 _).2 (.inl rfl),rfl⟩
    rcases hcov q' hq' with h1|h1
    ·have:=(hpr.mem_iff).1 h1
     rw[List.mem_cons] at this
     rcases this with rfl|h2
     ·exact .inr own
     ·exact .inl h2
    ·right
     obtain⟨e,he,he2⟩:=List.mem_map.1 h1
     by_cases hc:e.1=(q.2.b,q.2.k)
     ·rw[← he2,hc];exact own
     ·exact List.mem_map.2 ⟨e,(p3 _).2 (.inr ⟨he,hc⟩),he2⟩
   ·obtain⟨e,he,rfl⟩:=List.mem_map.1 hc
    rcases (p3 e).1 he with rfl|⟨he,_⟩
    ·exact⟨q,hqm,rfl⟩
    ·exact hsnd _ (List.mem_map.2 ⟨e,he,rfl⟩)
   ·exact (hkN.trans k101 (fun _ h _=>h) (by simp)).trans (aD.put k101.wf (k101.wf _ _ gol) _) (fun _ h _=>h) (fun _ h _=>h)
end
def wF(l:List (Int×Int))(b:Nat):Nat:=(l.filter fun c=>c.1==(b:Int)).length
def vN(lv:Nat→Nat)(n:Nat):List Int:=(List.range n).map fun b=>(lv b:Int)
theorem aLX{lv lv':Nat→Nat}{n b:Nat}(hb:b<n)(h1:lv' b=lv b+1)(h2:∀ c,c≠b→lv' c=lv c):((vN lv n).map i64).set b (i64 ((lv b:Int)+1))=(vN lv' n).map i64:=by
 apply List.ext_getElem?
 intro i
 rw[List.getElem?_set]
 unfold vN
 by_cases e:b=i
 ·subst e
  simp[hb,h1]
 ·rw[if_neg e]
  by_cases hi:i<n
  ·simp[hi,h2 i (fun h=>e h.symm)]
  ·simp[hi]
theorem aJC(n:Nat):(vN (fun _=>0) n).map i64=List.replicate n (i64 0):=by
 apply List.ext_getElem?
 intro i
 unfold vN
 by_cases hi:i<n
 ·simp[hi]
 ·simp[hi]
section
variable {A:bL} {M:aC} {S:Ps} {C:aQ} {m:List iK}
theorem aDA{b i:Nat}(h:cH S b i=true):i<aP S b∧b<S.x.length:=by
 obtain⟨c,v,hv,_⟩:=dG.1 h
 refine⟨cQ hv,?_⟩
 obtain⟨B,h1,_⟩:=iF.1 hv
 exact (List.getElem?_eq_some_iff.1 h1).1
theorem aGl{ks:List (Int×Int)}(hn:ks.Nodup)(hk:∀ c,c∈ks↔∃ b i:Nat,c=((b:Int),(i:Int))∧cH S b i=true)(b:Nat):wF ks b=dF S b:=by
 unfold wF dF
 have e:((List.range (aP S b)).filter (cH S b)).length=(((List.range (aP S b)).filter (cH S b)).map fun i:Nat=>((b:Int),(i:Int))).length:=by rw[List.length_map]
 rw[e]
 refine Nat.le_antisymm (lM (hn.filter _) fun c hc=>?_) (lM ?_ fun c hc=>?_)
 ·rw[List.mem_filter] at hc
  obtain⟨b',i,rfl,hl⟩:=(hk c).1 hc.1
  have hbb:b'=b:=by have:=hc.2;simp at this;omega
  subst hbb
  exact List.mem_map.2 ⟨i,List.mem_filter.2 ⟨List.mem_range.2 (aDA hl).1,hl⟩,rfl⟩
 ·exact List.pairwise_map.2 (((List.nodup_range).filter _).imp fun hne e=>hne (by injection e with _ e;omega))
 ·obtain⟨i,hi,rfl⟩:=List.mem_map.1 hc
  rw[List.mem_filter] at hi
  exact List.mem_filter.2 ⟨(hk _).2 ⟨b,i,rfl,hi.2⟩,by simp⟩
theorem aNj(h:FR A M S C m):aB tb.P 193 [.ptr A.f 0] M fun y N=>lV N y ((vN (dF S) (nB S)).map i64)∧aD M N []∧∀ c,aN y c→M.next≤c:=by
 refine aMo ?_
 unfold F193
 have hg:=h.geo
 refine aG dB ?_
 refine aG nW ?_
 rw[bV]
 refine aG h.lbl ?_
 simp only[aJ]
 have hms:cU tb 48 (.val (.int .i64 (nB S:Int))) (.val (.int .i64 (nB S:Int))) M=some (.sl M.next 0 (nB S) (nB S) none,M.new (.cells ((vN (fun _=>0) (nB S)).map i64) true)):=by
  unfold cU
  rw[uY]
  have h1:decide (0≤(nB S:Int))=true:=by simp
  have h2:decide ((nB S:Int)≤(nB S:Int))=true:=by simp
  have h3:decide (((8:Nat):Int)*(nB S:Int)≤281474976710656)=true:=by
   rw[decide_eq_true_eq];omega
  have h4:decide ((nB S:Int)<4611686018427387904)=true:=by
   rw[decide_eq_true_eq];omega
  simp only[dX,h1,h2,h4,cond_true,Int.toNat_natCast]
  rw[h3,cond_true,aJC]
  have:=oD (AV.val (.int .i64 0)) (nB S)
  simp only[i64]
  rw[← this]
  rfl
 refine aG hms ?_
 have k7:aD M (M.new (.cells ((vN (fun _=>0) (nB S)).map i64) true)) []:=aD.new h.wf _
 have g7:(M.new (.cells ((vN (fun _=>0) (nB S)).map i64) true)).get M.next=some (.cells ((vN (fun _=>0) (nB S)).map i64) true):=get_new _ _
 have n7:(M.new (.cells ((vN (fun _=>0) (nB S)).map i64) true)).next=M.next+1:=rfl
 clear hms
 generalize M.new (.cells ((vN (fun _=>0) (nB S)).map i64) true)=M7 at*
 refine (aKg (h.post k7)).mono ?_
 rintro y M9 ⟨bo,ol,rfl,hbo,hgo,hnd,hkeys,hk9⟩
 have hK9:=k7.trans0 hk9
 have g9:=hk9.get k7.wf g7 (by simp)
 have he:jH M9 (.map bo)=some (some bo,mG vM unA ol):=by unfold jH;simp only;rw[hgo]
 rw[he,eM]
 have hbo9:bo<M9.next:=hk9.wf _ _ hgo
 refine⟨fun rem n N=>∃ (rem':List ((Int×Int)×Unit)) (done:List (Int×Int)),rem=mG vM unA rem'∧(done++rem'.map (·.1)).Perm (ol.map (·.1))∧aD (M9.kill bo) N [M.next]∧N.get M.next=some (.cells ((vN (wF done) (nB S)).map i64) true),
  ⟨ol,[],rfl,by simp,⟨hk9.wf.kill _,Nat.le_refl _,fun _ _ _=>rfl⟩,by show (M9.kill bo).get M.next=_;rw[aC.get_kill,if_neg (by omega)];exact g9⟩,?_⟩
 rintro _ rem N ⟨rem',done,rfl,hperm,hkN,hgN⟩
 refine⟨fun hnil=>?_,fun i kx vx hi=>?_⟩
 ·have hr:rem'=[]:=by
   cases rem' with
   | nil=>rfl
   | cons a l=>simp[mG] at hnil
  subst hr
  rw[List.map_nil,List.append_nil] at hperm
  have hcnt:vN (wF done) (nB S)=vN (dF S) (nB S):=by
   unfold vN
   apply List.map_congr_left
   intro b _
   rw[aGl (hperm.nodup_iff.2 hnd) (fun c=>by rw[hperm.mem_iff];exact hkeys c) b]
  rw[hcnt] at hgN
  have hgS:(N.put bo (.map (mG vM unA ol))).get M.next=some (.cells ((vN (dF S) (nB S)).map i64) true):=by
   rw[aC.get_put,if_neg (by omega)];exact hgN
  refine⟨⟨by simp,.inr ⟨M.next,0,nB S,none,by simp[vN],⟨by simp[vN],.inl rfl⟩,.inr ⟨_,_,hgS,by simp,by rw[List.drop_zero,List.take_of_length_le (by simp)]⟩⟩⟩,⟨hkN.wf.put (Nat.lt_of_lt_of_le (by show bo<M9.next;exact hbo9) hkN.nxt) _,?_,fun c hc _=>?_⟩,fun c hc=>?_⟩
  ·have h1:=hkN.nxt
   have h2:=hK9.nxt
   have:(M9.kill bo).next=M9.next:=rfl
   show M.next≤N.next
   omega
  ·have h2:=hK9.nxt
   show (N.put bo _).get c=_
   rw[aC.get_put,if_neg (by omega),hkN.old c (by show c<M9.next;omega) (by simp;omega),aC.get_kill,if_neg (by omega),hK9.old c hc (by simp)]
  ·obtain⟨_,hc⟩:=hc
   omega
 ·obtain⟨q,hq,e1⟩:∃ q,rem'[i]? =some q∧(kx,vx)=(vM q.1,unA q.2):=by
   unfold mG at hi
   rw[List.getElem?_map] at hi
   obtain⟨q,h1,h2⟩:=Option.map_eq_some_iff.1 hi
   exact⟨q,h1,h2.symm⟩
  injection e1 with e1 e2
  subst e1 e2
  have hme:(mG vM unA rem').eraseIdx i=mG vM unA (rem'.eraseIdx i):=mC _ _ _
  rw[hme]
  have hpr:=kJ hq
  have hqk:q.1∈ol.map (·.1):=hperm.mem_iff.1 (by
   rw[List.mem_append]
   exact .inr (List.mem_map.2 ⟨q,List.mem_of_getElem? hq,rfl⟩))
  obtain⟨b,k,hbk,hlv⟩:=(hkeys q.1).1 hqk
  have hb:b<nB S:=by rw[← h.inv.len];exact (aDA hlv).2
  refine bE fun M17 hM17=>?_
  have e17:M17=N.new (.cells [i64 0,i64 0] true):=hM17
  have k17:aD N M17 []:=by rw[e17];exact aD.new hkN.wf _
  have g17:M17.get N.next=some (.cells [i64 0,i64 0] true):=by rw[e17];exact get_new _ _
  have n17:M17.next=N.next+1:=by rw[e17];rfl
  clear hM17 e17
  refine aG (fR q.1.1 q.1.2 g17 rfl) ?_
  have k18:aD N (M17.put N.next (.cells [i64 q.1.1,i64 q.1.2] true)) []:=xD k17 (Nat.le_refl _) (by omega) _
  generalize hM18:M17.put N.next (.cells [i64 q.1.1,i64 q.1.2] true)=M18 at*
  have g18:M18.get N.next=some (.cells [i64 q.1.1,i64 q.1.2] true):=by rw[← hM18,aC.get_put,if_pos rfl]
  clear hM18
  refine aG (aS (bO g18).1) ?_
  rw[hbk]
  simp only[i64,aJ]
  have g18':=k18.get hkN.wf hgN (by simp)
  have hia:∀ N',bU tb 48 (.sl M.next 0 (nB S) (nB S) none) (.val (.int .i64 (b:Int))) N'=some (.ptr M.next b,N'):=fun N'=>bH (by
   unfold bJ
   rw[uY]
   have h0:decide (0≤(b:Int))=true:=by simp
   simp only[dX,Int.toNat_natCast,AM.blt_of hb,cond_true,h0,Nat.zero_add,Nat.mul_one])
  refine aG (hia _) ?_
  rw[bV]
  have hcell:((vN (wF done) (nB S)).map i64)[b]? =some (i64 (wF done b:Int)):=by unfold vN;simp[hb]
  refine aG (aS (eB dX rfl g18' hcell)) ?_
  simp only[i64,aJ]
  refine aG (hia _) ?_
  rw[bV]
  refine aG (oF (dK dX rfl rfl g18' (by simp[vN,hb]))) ?_
  have hdl:wF done b≤1000:=by
   have h1:=hperm.length_eq
   rw[List.length_append,List.length_map,List.length_map] at h1
   have h2:(ol.map (·.1)).length≤(m.map (·.1)).length:=lM hnd fun c hc=>by
    obtain⟨b',i',e,hl'⟩:=(hkeys c).1 hc
    obtain⟨c',v',hv',_⟩:=dG.1 hl'
    obtain⟨q',hq',e'⟩:=h.hav b' i' v' hv'
    exact List.mem_map.2 ⟨q',hq',by rw[e',e]⟩
   rw[List.length_map,List.length_map] at h2
   have h3:=h.few
   have:wF done b≤done.length:=List.length_filter_le _ _
   omega
  rw[ia (by omega)]
  have hset:((vN (wF done) (nB S)).map i64).set b (i64 ((wF done b:Int)+1))=(vN (wF (done++[q.1])) (nB S)).map i64:=by
   refine aLX hb ?_ fun c hc=>?_
   ·unfold wF;rw[List.filter_append,List.length_append,hbk];simp
   ·unfold wF
    rw[List.filter_append,List.length_append,hbk]
    have:(((b:Int),(k:Int)).1==(c:Int))=false:=by
     cases e:(((b:Int),(k:Int)).1==(c:Int)) with
     | false=>rfl
     | true=>rw[beq_iff_eq] at e;simp only at e;omega
    rw[List.filter_cons,if_neg (by rw[this];simp)]
    simp
  refine⟨rem'.eraseIdx i,done++[q.1],rfl,?_,?_,by rw[aC.get_put,if_pos rfl];exact congrArg (fun l=>some (hY.cells l true)) hset⟩
  ·refine List.Perm.trans ?_ hperm
   rw[List.append_assoc]
   refine List.Perm.append_left _ ?_
   exact (hpr.map _).symm
  ·have hlt:M.next<M18.next:=k18.wf _ _ g18'
   exact (hkN.trans k18 (fun _ h _=>h) (by simp)).trans (aD.put k18.wf hlt _) (fun _ h _=>h) (fun _ h _=>h)
theorem FR.setF(h:FR A M S C m){S':Ps}(hx:S'.x=S.x)(hg:S'.g=S.g)(hf:S'.fs=S.fs)(ho:S'.ops=S.ops)(hi:eW S'):
 FR A (M.put A.f (.cells (jZ (dZ A S')) true)) S' C m∧aD M (M.put A.f (.cells (jZ (dZ A S')) true)) [A.f]:=by
 have hfl:=h.lt A.f (by simp[bL.wr])
 have hk:aD M (M.put A.f (.cells (jZ (dZ A S')) true)) [A.f]:=aD.put h.wf hfl _
 have hv:∀ b i,bI S' b i=bI S b i:=fun b i=>by unfold bI;rw[hx]
 have hnd:=h.dis
 unfold bL.all at hnd
 rw[List.nodup_cons] at hnd
 have hn1:A.mf≠A.f:=fun e=>hnd.1 (by simp[e])
 have hn2:A.f∉A.ft:=fun e=>hnd.1 (by simp[e])
 refine⟨⟨hk.wf,hi,by rw[aC.get_put,if_pos rfl],h.chip.keepS h.wf hk (fun b hb=>?_),h.foot,h.fsA,⟨h.rel.g.trans hg.symm,h.rel.fs.trans hf.symm,h.rel.calm,h.rel.ops.trans ho.symm,fun b B hB=>?_⟩,by rw[aC.get_put,if_neg hn1];exact h.mf,h.nd,fun q hq=>?_,fun b i v hbi=>h.hav b i v (by rw[← hv];exact hbi),h.dis,h.fsx⟩,hk⟩
 ·rw[List.mem_singleton] at hb
  subst hb
  exact⟨by rw[h.foot];exact hn2,by rw[h.fsA];exact fun hm=>h.fsx _ hm (by simp[bL.av,bL.all])⟩
 ·obtain⟨X,e1,e2,e3,e4,e5,e6⟩:=h.rel.blk b B hB
  exact⟨X,by rw[hx];exact e1,e2,e3,e4,e5,fun j h1 h2=>e6 j h1 (by unfold nG at h2 ⊢;rw[hg] at h2;exact h2)⟩
 ·obtain⟨b,i,v,e1,e2,e3,e4,e5,e6⟩:=h.lnk q hq
  refine⟨b,i,v,e1,by rw[hv];exact e2,e3,aO.keep e4 h.wf hk (fun c hc hm=>?_),e5,e6⟩
  rw[List.mem_singleton] at hm
  subst hm
  exact e6 _ hc (by simp[bL.av,bL.all])
theorem aC6(h:FR A M S C m):aB tb.P 68 [.ptr A.f 0] M fun y N=>y=i64 (jI S).2∧FR A N (jI S).1 C m∧aD M N [A.f]:=by
 refine aQl ?_
 unfold F68
 refine aG dB ?_
 refine aG nW ?_
 rw[bV]
 refine aG h.lsp ?_
 simp only[aJ]
 refine (aI2 h).mono ?_
 rintro y N ⟨rfl,hk⟩
 simp only[i64,aJ]
 have hN:=h.post hk
 refine⟨aG hN.lsp rfl,?_⟩
 unfold jI
 refine aT (fun e=>?_) (fun e=>?_)
 ·rw[if_pos (of_decide_eq_true e)]
  exact⟨rfl,hN,hk.mono (by simp)⟩
 ·rw[if_neg (of_decide_eq_false e)]
  refine aG dB ?_
  have fa9:cG tb 99 (.ptr A.f 0) 9 N=some (.ptr A.f 13,N):=(oB A.f).2.2.2.2.2.2
  refine aG fa9 ?_
  rw[bV]
  refine aG (oF (dK ty4 rfl rfl hN.fl (by simp[jZ]))) ?_
  obtain⟨h1,h2⟩:=hN.setF (S':={ S with deg:=true }) rfl rfl rfl rfl (hN.inv.deg true)
  exact⟨rfl,h1,hk.trans h2 (by simp) (fun _ h _=>h)⟩
end
section
variable {A:bL} {M:aC} {S:Ps} {C:aQ} {m:List iK}
theorem ib{a:Int}(h: -4611686018427387904≤a∧a≤4611686018427387903):aM .i64 a 1=a+1:=aL (by omega) (by omega)
theorem FR.isG(h:FR A M S C m){b i:Nat}(hb:b<nB S)(hi:i<nG S):isG C.g (b:Int) (i:Int)=true:=by
 have hg:=h.geo
 rw[zE,h.rel.g]
 omega
theorem FR.raw(h:FR A M S C m):(aV C.g:Int)=S.g.by'+16:=by
 rw[h.rel.g]
 have hm:=bP.1 h.inv.may
 unfold aV
 omega
theorem aNt(h:FR A M S C m){b:Nat}(hb:b<nB S)(hl:bC S b=false)(ho:S.ops≤4294967295∧0≤S.ops):
 ∃ B X,C.bs[b]? =some B∧S.x[b]? =some X∧erR C b=({ C with ops:=C.ops+1,bs:=C.bs.set b { B with by':=List.replicate B.by'.length 255#8,next:=0,wear:=B.wear+1,done:=B.done+1 } },0):=by
 obtain⟨B,X,e1,e2,e3,e4,e5⟩:=h.block hb
 have hg:=h.geo
 obtain⟨c1,c2,c3⟩:=h.rel.calm.bg
 refine⟨B,X,e1,e2,?_⟩
 have ha:lZ C (b:Int) 0=0:=by
  unfold lZ
  rw[h.rel.calm.off]
  have:=h.isG hb (i:=0) (by omega)
  rw[show ((0:Nat):Int)=0 from rfl] at this
  rw[if_neg (by simp),if_pos this]
 unfold erR
 rw[if_pos ha,c1]
 have hf:erF C=255#8:=by unfold erF;rw[c1];simp
 rw[hf,c2,Int.toNat_natCast]
 have hcx:=h.inv.cnt b X e2
 have hop:=h.rel.ops
 have hlf:gK C.fs b B.done=false:=by
  unfold bC at hl
  rw[e2] at hl
  simp only[Bool.or_eq_false_iff] at hl
  rw[h.rel.fs,e5];exact hl.2
 unfold erS
 simp only[e1]
 rw[if_neg (by rw[hlf];simp)]
 simp only[Bool.false_eq_true,if_false,if_true]
 unfold aQ.upB
 simp only
 rw[ib (a:=C.ops) (by omega),ib (a:=B.wear) (by omega),ib (a:=B.done) (by omega)]
theorem FR.nx(h:FR A M S C m):A.f∉A.ft∧A.mf∉A.ft∧A.f≠A.mf:=by
 have hnd:=h.dis
 unfold bL.all at hnd
 rw[List.nodup_cons,List.nodup_cons] at hnd
 exact⟨fun e=>hnd.1 (by simp[e]),fun e=>hnd.2.1 (by simp[e]),fun e=>hnd.1 (by simp[e])⟩
theorem aNi(h:FR A M S C m){b:Nat}(hb:b<nB S)(ho:S.ops≤4294967295∧0≤S.ops):
 aB tb.P 110 [.ptr A.f 0,i64 (b:Int)] M fun y N=>∃ C' m',y=i64 (xH S b).2∧FR A N (xH S b).1 C' m'∧aD M N A.wr:=by
 refine aOl ?_
 unfold F110
 simp only[i64,aJ]
 refine bE fun M2 hM2=>?_
 have e2:M2=M.new (.cells [i64 (b:Int)] true):=hM2
 have k2:aD M M2 []:=by rw[e2];exact aD.new h.wf _
 have g2:M2.get M.next=some (.cells [i64 (b:Int)] true):=by rw[e2];exact get_new _ _
 clear hM2 e2
 have h2:=h.post k2
 refine aG (aS (eB dX rfl g2 rfl)) ?_
 simp only[i64,aJ]
 refine (aK7 h2 hb).mono ?_
 rintro y M6 ⟨rfl,k6⟩
 rw[cO]
 have h6:=h2.post k6
 have K6:=k2.trans0 k6
 unfold xH
 refine aT (fun e=>?_) (fun e=>?_)
 ·rw[if_pos e]
  exact⟨C,m,rfl,h6,K6.mono (by simp)⟩
 rw[if_neg (by rw[e];simp)]
 refine aG dB ?_
 refine aG jL ?_
 rw[bV]
 refine aG h6.ldp ?_
 have g6:=k6.get k2.wf g2 (by simp)
 refine aG (aS (eB dX rfl g6 rfl)) ?_
 simp only[i64,aJ]
 obtain⟨B,X,b1,b2,hr⟩:=aNt h6 hb e ho
 refine (aM9 M6 k6.wf A.p C h6.chip (b:Int)).mono ?_
 rintro y N ⟨rfl,hst⟩
 rw[hr] at hst ⊢
 simp only[i64,aJ]
 simp only[bne_self_eq_false,fG]
 generalize hC':({ C with ops:=C.ops+1,bs:=C.bs.set b { B with by':=List.replicate B.by'.length 255#8,next:=0,wear:=B.wear+1,done:=B.done+1 } }:aQ)=C' at*
 obtain⟨n1,n2,n3⟩:=h.nx
 have hnf:∀ c,c∉A.ft→∀ r,M6.get c=some r→N.get c=some r:=fun c hc r hr=>hst.keep.get k6.wf hr (by rw[h6.foot];exact hc)
 have fN:N.get A.f=some (.cells (jZ (dZ A S)) true):=hnf _ n1 _ h6.fl
 have mN:N.get A.mf=some (.map (mK m)):=hnf _ n2 _ h6.mf
 have hltft:∀ c∈A.ft,c<M.next:=fun c hc=>h.lt c (by simp[bL.wr,hc])
 have gN:N.get M.next=some (.cells [i64 (b:Int)] true):=hnf _ (fun hm=>by have:=hltft _ hm;omega) _ g6
 refine aG dB ?_
 refine aG aEx ?_
 rw[bV]
 refine aG (aS (eB aDl rfl fN (o:=6) (v:= .map A.mf) rfl)) ?_
 refine (aQG N hst.wf A.mf m mN h6.nd (fun q hq=>?_) M.next (b:Int) gN).mono ?_
 ·obtain⟨_,_,_,_,_,_,_,h7,_⟩:=h6.lnk q hq
  exact h7
 rintro y N2 ⟨rfl,mN2,kN2⟩
 have hmfd:∀ c,aN A.fsA c→c≠A.mf:=fun c hc e=>h.fsx c hc (by rw[e];simp[bL.av,bL.all])
 have hbX:b<S.x.length:=by rw[h.inv.len];exact hb
 have hR:FR A N2 (dL S b) C' (m.filter fun q=> !(q.1.1==(b:Int))):=by
  have fN2:N2.get A.f=some (.cells (jZ (dZ A S)) true):=kN2.get hst.wf fN (by simp;exact n3)
  have hch:bF N2 A.p C':=hst.at'.keepS hst.wf kN2 fun c hc=>by
   rw[List.mem_singleton] at hc
   subst hc
   exact⟨by rw[hst.foot,h6.foot];exact n2,by rw[hst.fsA,h6.fsA];exact fun hm=>hmfd _ hm rfl⟩
  refine⟨kN2.wf,h6.inv.wipe b,fN2,hch,hst.foot.trans h6.foot,hst.fsA.trans h6.fsA,⟨hst.g.trans h6.rel.g,hst.fs.trans h6.rel.fs,?_,?_,fun c D hD=>?_⟩,mN2,h6.nd.sublist (List.filter_sublist.map _),fun q hq=>?_,fun c i v hv=>?_,h6.dis,h6.fsx⟩
  ·rw[← hC'];exact⟨h6.rel.calm.off,h6.rel.calm.turn,h6.rel.calm.cuts⟩
  ·rw[← hC']
   show C.ops+1=S.ops+1
   rw[h6.rel.ops]
  ·have hCb:C'.bs=C.bs.set b { B with by':=List.replicate B.by'.length 255#8,next:=0,wear:=B.wear+1,done:=B.done+1 }:=by rw[← hC']
   rw[hCb,List.getElem?_set] at hD
   have hraw:aV C'.g=aV C.g:=by rw[hst.g]
   by_cases ec:b=c
   ·subst ec
    rw[if_pos rfl,if_pos (by rw[h6.blen];exact hb)] at hD
    injection hD with hD
    obtain⟨X',x1,x2,x3,x4,_⟩:=h6.rel.blk b B b1
    rw[b2] at x1
    injection x1 with x1
    subst x1
    refine⟨⟨[],X.w+1,X.n+1⟩,?_,by rw[← hD];rfl,by rw[← hD];show B.wear+1=_;rw[x3],by rw[← hD];show B.done+1=_;rw[x4],fun j v hv=>by simp at hv,fun j _ hj=>?_⟩
    ·show (S.x.modify b _)[b]? =_
     rw[List.getElem?_modify,b2];simp
    ·have hj:j<nG S:=hj
     have hlenB:=h6.chip.ful B (List.mem_of_getElem? b1)
     rw[← hD,hraw]
     show jD _ _ _=_
     unfold jD
     simp only
     rw[hlenB]
     exact aKQ (by rw[h6.rel.g];exact hj)
   ·rw[if_neg ec] at hD
    obtain⟨X',x1,x2,x3,x4,x5,x6⟩:=h6.rel.blk c D hD
    refine⟨X',?_,x2,x3,x4,by rw[hraw];exact x5,fun j h1 h2=>by rw[hraw];exact x6 j h1 h2⟩
    show (S.x.modify b _)[c]? =_
    rw[List.getElem?_modify,x1];simp[ec]
  ·rw[List.mem_filter] at hq
   obtain⟨c,i,v,e1,e2,e3,e4,e5,e6⟩:=h6.lnk q hq.1
   have hcb:c≠b:=fun e=>by
    have:=hq.2
    rw[e1,e] at this
    simp at this
   refine⟨c,i,v,e1,by rw[eQ,if_neg hcb];exact e2,e3,?_,e5,e6⟩
   have hb1:aI N q.2.d v.d:=aO.keep e4 k6.wf hst.keep fun d hd hm=>e6 d hd (by rw[h6.foot] at hm;simp[bL.av,bL.all,hm])
   exact aO.keep hb1 hst.wf kN2 fun d hd hm=>e6 d hd (by rw[List.mem_singleton] at hm;subst hm;simp[bL.av,bL.all])
  ·rw[eQ] at hv
   split at hv
   ·cases hv
   ·rename_i hcb
    obtain⟨q,hq,e1⟩:=h6.hav c i v hv
    refine⟨q,List.mem_filter.2 ⟨hq,?_⟩,e1⟩
    rw[e1]
    simp
    omega
 refine (aC6 hR).mono ?_
 rintro y N3 ⟨rfl,hR3,k3⟩
 simp only[i64,aJ]
 refine⟨C',_,by trivial,hR3,?_⟩
 have k1:aD M N A.wr:=(K6.trans hst.keep (by simp) (fun c hc _=>by rw[h6.foot] at hc;simp[bL.wr,hc]))
 exact (k1.trans kN2 (fun _ h _=>h) (fun c hc _=>by rw[List.mem_singleton] at hc;subst hc;simp[bL.wr])).trans k3 (fun _ h _=>h) (fun c hc _=>by rw[List.mem_singleton] at hc;subst hc;simp[bL.wr])
theorem aMe(h:FR A M S C m){b:Nat}(hb:b<nB S)(hl:bC S b=false)(hu:aP S b<nG S)(ho:S.ops≤4294967295∧0≤S.ops){d:List (BitVec 8)}(hd:d.length=aV C.g):
 ∃ B X,C.bs[b]? =some B∧S.x[b]? =some X∧X.v.length=aP S b∧pgR C b (aP S b:Int) d=({ C with ops:=C.ops+1,bs:=C.bs.set b { B with by':=over B.by' (aP S b*aV C.g) d,next:=B.next+1,done:=B.done+1 } },0):=by
 obtain⟨B,X,e1,e2,e3,e4,e5⟩:=h.block hb
 have hg:=h.geo
 obtain⟨c1,c2,c3⟩:=h.rel.calm.bg
 have hxu:X.v.length=aP S b:=by unfold aP;rw[e2]
 refine⟨B,X,e1,e2,hxu,?_⟩
 have ha:lZ C (b:Int) (aP S b:Int)=0:=by
  unfold lZ
  rw[h.rel.calm.off,if_neg (by simp),if_pos (h.isG hb hu)]
 unfold pgR
 rw[if_pos ha,if_pos hd,c1,c2,Int.toNat_natCast,Int.toNat_natCast]
 have hcx:=h.inv.cnt b X e2
 have hop:=h.rel.ops
 have hlf:gK C.fs b B.done=false:=by
  unfold bC at hl
  rw[e2] at hl
  simp only[Bool.or_eq_false_iff] at hl
  rw[h.rel.fs,e5];exact hl.2
 unfold pgS
 simp only[e1]
 rw[if_neg (by rw[hlf];simp),if_neg (by rw[e3,hxu];simp)]
 simp only[Bool.false_eq_true,if_false]
 unfold aQ.upB
 simp only
 rw[ib (a:=C.ops) (by omega),ib (a:=B.next) (by omega),ib (a:=B.done) (by omega)]
theorem aBR(h:FR A M S C m){b:Nat}{t:Tg}{x:AV}{d:List (BitVec 8)}(hb:b<nB S)(hl:bC S b=false)(hu:aP S b<nG S)(ho:S.ops+1≤4294967295)
 (hok:∀ s:Int,0≤s∧s≤4294967295→wD d t.k t.p s t.e=true) (hd:(d.length:Int)=S.g.by') (hp:t.k≠3→t.p<eL S.g) (he:t.e≤S.ep) (hx:aI M x d) (hone:x.one=true) (hxa:∀ c,aN x c→c∉A.av):
 aB tb.P 136 [.ptr A.f 0,bB (b:Int) (aP S b:Int),tgA t,x] M fun y N=>∃ C' m',y=i64 (lB S b t d).2∧FR A N (lB S b t d).1 C' m'∧aD M N A.wr:=by
 have hseq:=h.inv.seq
 refine aNI ?_
 unfold F136
 refine⟨_,_,rfl,_,_,_,_,rfl,?_⟩
 refine bE fun M7 hM7=>?_
 have e7:M7=M.new (.cells [i64 (b:Int),i64 (aP S b:Int)] true):=hM7
 have k7:aD M M7 []:=by rw[e7];exact aD.new h.wf _
 have g7:M7.get M.next=some (.cells [i64 (b:Int),i64 (aP S b:Int)] true):=by rw[e7];exact get_new _ _
 have n7:M7.next=M.next+1:=by rw[e7];rfl
 clear hM7 e7
 refine bE fun M8 hM8=>?_
 have e8:M8=M7.new (.cells (jV t) true):=hM8
 have k8:aD M M8 []:=k7.trans0 (by rw[e8];exact aD.new k7.wf _)
 have g8:M8.get M7.next=some (.cells (jV t) true):=by rw[e8];exact get_new _ _
 have g8':M8.get M.next=some (.cells [i64 (b:Int),i64 (aP S b:Int)] true):=by rw[e8,aC.get_new,if_neg (by omega)];exact g7
 have n8:M8.next=M7.next+1:=by rw[e8];rfl
 clear hM8 e8 k7 g7
 have h8:=h.post k8
 have fa6:∀ N,cG tb 99 (.ptr A.f 0) 6 N=some (.ptr A.f 10,N):=fun N=>bW (by unfold eZf;rw[aBw];rfl)
 refine aG dB ?_
 refine aG (fa6 _) ?_
 rw[bV]
 refine aG (aS (eB dX rfl h8.fl (o:=10) (v:=i64 S.seq) rfl)) ?_
 simp only[i64,aJ]
 refine aG dB ?_
 refine aG (fa6 _) ?_
 rw[bV]
 rw[ib (by omega)]
 refine aG (oF (dK dX rfl rfl h8.fl (by simp[jZ]))) ?_
 have hS1:∃ S1:Ps,S1={ S with seq:=S.seq+1,ops:=S.ops }:=⟨_,rfl⟩
 have hflA:=h.lt A.f (by simp[bL.wr])
 have hfl19:(M8.put A.f (.cells ((jZ (dZ A S)).set 10 (.val (.int .i64 (S.seq+1)))) true)).get A.f=some (.cells (jZ (dZ A { S with seq:=S.seq+1 })) true):=by rw[aC.get_put,if_pos rfl];rfl
 have k19:aD M8 (M8.put A.f (.cells ((jZ (dZ A S)).set 10 (.val (.int .i64 (S.seq+1)))) true)) [A.f]:=aD.put k8.wf (by omega) _
 generalize hM19:M8.put A.f (.cells ((jZ (dZ A S)).set 10 (.val (.int .i64 (S.seq+1)))) true)=M19 at*
 have n19:M19.next=M8.next:=by rw[← hM19];rfl
 clear hM19 hS1
 refine aG dB ?_
 refine aG (fa6 _) ?_
 rw[bV]
 refine aG (aS (eB dX rfl hfl19 (o:=10) (v:=i64 (S.seq+1)) rfl)) ?_
 simp only[i64,aJ]
 have g19:M19.get M7.next=some (.cells (jV t) true):=k19.get k8.wf g8 (by simp;omega)
 have g19':M19.get M.next=some (.cells [i64 (b:Int),i64 (aP S b:Int)] true):=k19.get k8.wf g8' (by simp;omega)
 refine aG (oF (dK dX rfl rfl g19 (by simp[jV]))) ?_
 have hset:(jV t).set 2 (.val (.int .i64 (S.seq+1)))=jV { t with s:=S.seq+1 }:=rfl
 rw[hset]
 have k26:aD M (M19.put M7.next (.cells (jV { t with s:=S.seq+1 }) true)) [A.f]:=
  (k8.trans k19 (by simp) (fun _ h _=>h)).trans (aD.put k19.wf (by omega) _) (fun _ h _=>h) (fun c hc hlt=>by rw[List.mem_singleton] at hc;omega)
 have g26:(M19.put M7.next (.cells (jV { t with s:=S.seq+1 }) true)).get M7.next=some (.cells (jV { t with s:=S.seq+1 }) true):=by rw[aC.get_put,if_pos rfl]
 have g26':(M19.put M7.next (.cells (jV { t with s:=S.seq+1 }) true)).get M.next=some (.cells [i64 (b:Int),i64 (aP S b:Int)] true):=by rw[aC.get_put,if_neg (by omega)];exact g19'
 have f26:(M19.put M7.next (.cells (jV { t with s:=S.seq+1 }) true)).get A.f=some (.cells (jZ (dZ A { S with seq:=S.seq+1 })) true):=by rw[aC.get_put,if_neg (by omega)];exact hfl19
 have n26:(M19.put M7.next (.cells (jV { t with s:=S.seq+1 }) true)).next=M8.next:=n19
 generalize M19.put M7.next (.cells (jV { t with s:=S.seq+1 }) true)=M26 at*
 refine aG (aS (hU g26).2.2.2.2) ⟨_,_,_,_,rfl,?_⟩
 obtain⟨nn1,nn2,nn3⟩:=h.nx
 have hx26:aI M26 x d:=aO.keep hx h.wf k26 fun c hc hm=>hxa c hc (by rw[List.mem_singleton] at hm;subst hm;simp[bL.av,bL.all])
 have hokd:=hok (S.seq+1) (by omega)
 have hdl:d.length≤64:=(iT hokd).1.2
 refine (aRt M26 k26.wf x d t.k t.p (S.seq+1) t.e hx26 (by omega)).mono ?_
 rintro y M33 ⟨k33,hlay⟩
 rcases hlay with⟨_,raw,rfl,hraw,fraw⟩|⟨hno,_⟩
 rotate_left
 ·rw[hokd] at hno;cases hno
 refine⟨_,_,rfl,?_⟩
 have K33:=k26.trans k33 (fun _ h _=>h) (by simp)
 have f33:=k33.get k26.wf f26 (by simp)
 have g33:=k33.get k26.wf g26 (by simp)
 have g33':=k33.get k26.wf g26' (by simp)
 have hfdis:∀ c∈[A.f],c∉foot A.p C∧¬ aN C.fsA c:=fun c hc=>by
  rw[List.mem_singleton] at hc
  subst hc
  exact⟨by rw[h.foot];exact nn1,by rw[h.fsA];exact fun hm=>h.fsx _ hm (by simp[bL.av,bL.all])⟩
 have ch33:bF M33 A.p C:=h.chip.keepS h.wf K33 hfdis
 have m33:M33.get A.mf=some (.map (mK m)):=K33.get h.wf h.mf (by simp;exact fun e=>nn3 e.symm)
 refine aG dB ?_
 refine aG jL ?_
 rw[bV]
 refine aG (aS (eB aSr rfl f33 (o:=0) (v:= .ptr A.p 0) rfl)) ?_
 refine aG (aS (bO g33').2.2) ⟨_,_,rfl,?_⟩
 have hrl:(pB d t.k t.p (S.seq+1) t.e).length=aV C.g:=by
  rw[lG]
  have:=h.raw
  omega
 obtain⟨B,X,b1,b2,hxu,hr⟩:=aMe h hb hl hu (by omega) hrl
 have hftlt:∀ c∈A.ft,c<M.next:=fun c hc=>h.lt c (by simp[bL.wr,hc])
 refine (aH8 M33 k33.wf A.p C ch33 (b:Int) (aP S b:Int) raw _ hraw.at (by rw[hrl];have:=h.raw;have:=bP.1 h.inv.may;omega) (fun c hc hm=>?_)).mono ?_
 ·have h1:=fraw c hc
  have h2:=hftlt c (by rw[← h.foot];exact hm)
  have h3:=k26.nxt
  omega
 rintro y N ⟨rfl,hst⟩
 rw[hr] at hst ⊢
 simp only[i64,aJ]
 simp only[bne_self_eq_false,fG]
 generalize hC':({ C with ops:=C.ops+1,bs:=C.bs.set b { B with by':=over B.by' (aP S b*aV C.g) (pB d t.k t.p (S.seq+1) t.e),next:=B.next+1,done:=B.done+1 } }:aQ)=C' at*
 have hnf:∀ c,c∉A.ft→∀ r,M33.get c=some r→N.get c=some r:=fun c hc r hr=>hst.keep.get k33.wf hr (by rw[h.foot];exact hc)
 have fN:=hnf _ nn1 _ f33
 have mN:=hnf _ nn2 _ m33
 have gN:=hnf _ (fun hm=>by have:=hftlt _ hm;omega) _ g33
 have gN':=hnf _ (fun hm=>by have:=hftlt _ hm;omega) _ g33'
 refine aG dB ?_
 refine aG aEx ?_
 rw[bV]
 refine aG (aS (eB aDl rfl fN (o:=6) (v:= .map A.mf) rfl)) ?_
 refine aG (aS (bO gN').2.2) ⟨_,_,rfl,?_⟩
 refine aG (aS (hU gN).2.2.2.2) ⟨_,_,_,_,rfl,?_⟩
 have hbd:eBd tb 110 [(0,aBv t.k t.p (S.seq+1) t.e),(1,x)] N=some (pgA ⟨t.k,t.p,S.seq+1,t.e,x⟩,N):=by
  refine oC ?_
  unfold iA
  rw[aES]
  rcases hx.2 with⟨rfl,_⟩|⟨b',o',c',ex',rfl,_⟩ <;> rfl
 refine aG hbd ⟨_,_,_,_,_,rfl,?_⟩
 have hno:∀ q∈m,q.1≠((b:Int),(aP S b:Int)):=fun q hq e=>by
  obtain⟨b',i',v',e1,e2,_⟩:=h.lnk q hq
  rw[e] at e1
  injection e1 with e1 e1'
  have h1:=cQ e2
  have:b'=b:=by omega
  subst this
  omega
 obtain⟨m',p1,p2,p3,_⟩:=aEb vF (show N.get A.mf=some (.map (mG vM pgA m)) from mN) h.nd ((b:Int),(aP S b:Int)) (⟨t.k,t.p,S.seq+1,t.e,x⟩:Pg)
 refine aG p1 ?_
 have kP:aD N (N.put A.mf (.map (mG vM pgA m'))) [A.mf]:=aD.put hst.wf (hst.wf _ _ mN) _
 have hbX:b<S.x.length:=by rw[h.inv.len];exact hb
 have KN:aD M N A.wr:=K33.trans hst.keep (fun c hc _=>by rw[List.mem_singleton] at hc;subst hc;simp[bL.wr]) (fun c hc _=>by rw[h.foot] at hc;simp[bL.wr,hc])
 have KP:aD M (N.put A.mf (.map (mG vM pgA m'))) A.wr:=KN.trans kP (fun _ h _=>h) (fun c hc _=>by rw[List.mem_singleton] at hc;subst hc;simp[bL.wr])
 have hR:FR A (N.put A.mf (.map (mG vM pgA m'))) (bM S b t d) C' m':=by
  have hch:bF (N.put A.mf (.map (mG vM pgA m'))) A.p C':=hst.at'.keepS hst.wf kP fun c hc=>by
   rw[List.mem_singleton] at hc
   subst hc
   exact⟨by rw[hst.foot,h.foot];exact nn2,by rw[hst.fsA,h.fsA];exact fun hm=>h.fsx _ hm (by simp[bL.av,bL.all])⟩
  refine⟨KP.wf,h.inv.push hb hl hu hokd hd hp he,?_,hch,hst.foot.trans h.foot,hst.fsA.trans h.fsA,⟨hst.g.trans h.rel.g,hst.fs.trans h.rel.fs,?_,?_,fun c D hD=>?_⟩,by rw[aC.get_put,if_pos rfl];rfl,p2,fun q hq=>?_,fun c i v hv=>?_,h.dis,h.fsx⟩
  ·rw[aC.get_put,if_neg (fun e=>nn3 e)];exact fN
  ·rw[← hC'];exact⟨h.rel.calm.off,h.rel.calm.turn,h.rel.calm.cuts⟩
  ·rw[← hC']
   show C.ops+1=S.ops+1
   rw[h.rel.ops]
  ·have hCb:C'.bs=C.bs.set b { B with by':=over B.by' (aP S b*aV C.g) (pB d t.k t.p (S.seq+1) t.e),next:=B.next+1,done:=B.done+1 }:=by rw[← hC']
   rw[hCb,List.getElem?_set] at hD
   have hraw:aV C'.g=aV C.g:=by rw[hst.g]
   by_cases ec:b=c
   ·subst ec
    rw[if_pos rfl,if_pos (by rw[h.blen];exact hb)] at hD
    injection hD with hD
    obtain⟨X',x1,x2,x3,x4,x5,x6⟩:=h.rel.blk b B b1
    rw[b2] at x1
    injection x1 with x1
    subst x1
    have hlenB:=h.chip.ful B (List.mem_of_getElem? b1)
    rw[h.rel.g] at hlenB
    have hpage:∀ j,j<nG S→jD D (aV C'.g) j=if j=aP S b then pB d t.k t.p (S.seq+1) t.e else jD B (aV C.g) j:=fun j hj=>by
     rw[hraw,← hD]
     unfold jD
     simp only
     have:=aHC (l:=B.by') (d:=pB d t.k t.p (S.seq+1) t.e) (r:=aV C.g) (j:=aP S b) (k:=j) (n:=nG S) (by rw[hlenB,h.rel.g];rfl) hrl hu hj
     rw[this]
    refine⟨⟨X.v++[⟨{ t with s:=S.seq+1 },d⟩],X.w,X.n+1⟩,?_,?_,by rw[← hD];exact x3,by rw[← hD];show B.done+1=_;rw[x4],fun j v hv=>?_,fun j h1 hj=>?_⟩
    ·show (S.x.modify b _)[b]? =_
     rw[List.getElem?_modify,b2];simp
    ·rw[← hD]
     show B.next+1=_
     rw[x2];simp
    ·simp only at hv
     have hjl:j<X.v.length+1:=by
      have:=(List.getElem?_eq_some_iff.1 hv).1
      simpa using this
     rw[hpage j (by omega)]
     by_cases ej:j=aP S b
     ·rw[if_pos ej]
      rw[ej,← hxu,List.getElem?_append_right (Nat.le_refl _)] at hv
      simp at hv
      rw[← hv];rfl
     ·rw[if_neg ej]
      rw[List.getElem?_append_left (by omega)] at hv
      exact x5 j v hv
    ·simp only[List.length_append,List.length_singleton] at h1
     rw[hpage j hj,if_neg (by omega),hraw]
     exact x6 j (by omega) hj
   ·rw[if_neg ec] at hD
    obtain⟨X',x1,x2,x3,x4,x5,x6⟩:=h.rel.blk c D hD
    refine⟨X',?_,x2,x3,x4,by rw[hraw];exact x5,fun j h1 h2=>by rw[hraw];exact x6 j h1 h2⟩
    show (S.x.modify b _)[c]? =_
    rw[List.getElem?_modify,x1];simp[ec]
  ·rcases (p3 q).1 hq with rfl|⟨hq,_⟩
   ·refine⟨b,aP S b,⟨{ t with s:=S.seq+1 },d⟩,rfl,by rw[aX hbX,if_pos ⟨rfl,rfl⟩],⟨rfl,rfl,rfl,rfl⟩,?_,hone,hxa⟩
    exact aO.keep hx h.wf KP fun c hc hm=>hxa c hc (bL.wr_av hm)
   ·obtain⟨c,i,v,e1,e2,e3,e4,e5,e6⟩:=h.lnk q hq
    refine⟨c,i,v,e1,?_,e3,aO.keep e4 h.wf KP fun c hc hm=>e6 c hc (bL.wr_av hm),e5,e6⟩
    rw[aX hbX,if_neg]
    ·exact e2
    ·rintro⟨rfl,rfl⟩
     have:=cQ e2
     omega
  ·rw[aX hbX] at hv
   split at hv
   ·rename_i hc
    obtain⟨rfl,rfl⟩:=hc
    exact⟨_,(p3 _).2 (.inl rfl),rfl⟩
   ·rename_i hc
    obtain⟨q,hq,e1⟩:=h.hav c i v hv
    refine⟨q,(p3 _).2 (.inr ⟨hq,fun e=>hc ?_⟩),e1⟩
    rw[e1] at e
    injection e with e e'
    omega
 refine (aC6 hR).mono ?_
 rintro y N3 ⟨rfl,hR3,k3⟩
 simp only[i64,aJ]
 exact⟨C',m',by trivial,hR3,KP.trans k3 (fun _ h _=>h) (fun c hc _=>by rw[List.mem_singleton] at hc;subst hc;simp[bL.wr])⟩
end
def toX(S:Ps)(to:Int):Int:=if to<0 then cD S else if (bC S to.toNat||aP S to.toNat==nG S)=true then cD S else to
theorem aQn{S0 S:Ps}{b i:Nat}{to:Int}(h0:qL S0 b)(h:Clr S0 b i to S)(hi:i<nG S0){c:Int×Bool}{v:sD}(hv:jX S c b i v):
 ∃ t:Nat,toX S to=(t:Int)∧t<nB S∧t≠b∧bC S t=false∧fD S0 t=true∧aP S t≤cnt i (cH S0 b)∧phi S0≤phi S+(if aP S t=0 then 0 else 1):=by
 have fresh:phi S0≤phi S→0≤cD S∧cD S<nB S∧(cD S).toNat<nB S∧(cD S).toNat≠b∧bC S (cD S).toNat=false∧fD S0 (cD S).toNat=true∧aP S (cD S).toNat=0:=fun hp=>by
  have h1:=rF S
  have h2:=h.lost
  have h3:=h0.phi
  have h4:=congrArg eF.sp h.env.g
  obtain⟨f1,f2,f3⟩:=mP (S:=S) (by omega)
  have f4:=f3
  unfold fD cV at f4
  simp only[Bool.and_eq_true,Bool.not_eq_true',beq_iff_eq] at f4
  refine⟨f1,f2,by omega,fun e=>?_,f4.1,?_,f4.2⟩
  ·have:=cQ hv.1
   rw[← e] at this;omega
  ·cases hf:fD S0 (cD S).toNat with
   | true=>rfl
   | false=>
     have hst:=h.stay _ hf
     unfold fD cV at f3 hf
     rw[vC h.env.fs hst,uT hst,hf] at f3
     cases f3
 unfold toX
 rcases h.to with⟨h1,h2,h3⟩|⟨h1,h2,h3,h4,h5,h6,h7⟩
 ·rw[if_pos h1]
  obtain⟨f1,f2,f3,f4,f5,f6,f7⟩:=fresh (by omega)
  exact⟨(cD S).toNat,by omega,f3,f4,f5,f6,by omega,by rw[if_pos f7];omega⟩
 ·rw[if_neg (by omega)]
  rcases h7 with⟨h7,h8⟩|⟨h7,h8⟩
  ·rw[if_pos (by rw[h7];rfl)]
   obtain⟨f1,f2,f3,f4,f5,f6,f7⟩:=fresh h8
   exact⟨(cD S).toNat,by omega,f3,f4,f5,f6,by omega,by rw[if_pos f7];omega⟩
  ·have hc:=sM i (cH S0 b)
   have hne:(aP S to.toNat==nG S)=false:=by
    rw[h.env.nG]
    simp;omega
   rw[h7,hne,if_neg (by simp)]
   exact⟨to.toNat,by omega,by omega,h3,h7,h4,h6,by rw[if_neg (by omega)];omega⟩
theorem aH3{b:Nat}{live:Nat→Bool}{k i:Nat}{to:Int}{S:Ps}(h:live i=false):wP b live (k+1) i to S=wP b live k (i+1) to S:=by
 rw[wP,h]
theorem aIb{b:Nat}{live:Nat→Bool}{k i:Nat}{to:Int}{S:Ps}{v:sD}{t:Nat}(h:live i=true)(hv:bI S b i=some v)(ht:toX S to=(t:Int)):
 wP b live (k+1) i to S=if (lB S t v.t v.d).2≠0 then lB S t v.t v.d else wP b live k (i+1) (t:Int) (lB S t v.t v.d).1:=by
 unfold toX at ht
 rw[wP,h,hv]
 simp only
 rw[ht,if_neg (by omega),Int.toNat_natCast]
section
variable {A:bL} {M:aC} {S:Ps} {C:aQ} {m:List iK}
theorem FR.ver(h:FR A M S C m){b i:Nat}{v:sD}(hv:bI S b i=some v):∃ x,(((b:Int),(i:Int)),(⟨v.t.k,v.t.p,v.t.s,v.t.e,x⟩:Pg))∈m∧aI M x v.d∧x.one=true∧∀ c,aN x c→c∉A.av:=by
 obtain⟨q,hq,e1⟩:=h.hav b i v hv
 obtain⟨b',i',v',k1,k2,k3,k4,k5,k6⟩:=h.lnk q hq
 rw[e1] at k1
 injection k1 with k1 k1'
 have k1:b=b':=by omega
 have k1':i=i':=by omega
 subst k1 k1'
 rw[hv] at k2
 injection k2 with k2
 subst k2
 refine⟨q.2.d,?_,k4,k5,k6⟩
 have:q=(((b:Int),(i:Int)),(⟨v.t.k,v.t.p,v.t.s,v.t.e,q.2.d⟩:Pg)):=by
  obtain⟨q1,⟨q2,q3,q4,q5,q6⟩⟩:=q
  simp only at e1 k3
  obtain⟨rfl,rfl,rfl,rfl⟩:=k3
  rw[e1]
 rw[← this];exact hq
theorem aHB{N:aC}{bo:Nat}{ol:List ((Int×Int)×Unit)}{S:Ps}(hg:N.get bo=some (.map (mG vM unA ol)))(hnd:(ol.map (·.1)).Nodup)(hk:∀ c,c∈ol.map (·.1)↔∃ b i:Nat,c=((b:Int),(i:Int))∧cH S b i=true)(b i:Nat):
 pV tb 166 (.map bo) (bB (b:Int) (i:Int)) false N=some (.val (.bool (cH S b i)),N):=by
 cases hl:cH S b i with
 | true=>
   obtain⟨q,hq,e⟩:=List.mem_map.1 ((hk ((b:Int),(i:Int))).2 ⟨b,i,rfl,hl⟩)
   obtain⟨q1,q2⟩:=q
   simp only at e
   subst e
   exact gI aE5 hg hnd hq false
 | false=>
   refine aAX aE5 hg (k:=((b:Int),(i:Int))) (fun q hq e=>?_) false
   obtain⟨b',i',e1,e2⟩:=(hk q.1).1 (List.mem_map.2 ⟨q,hq,rfl⟩)
   rw[e] at e1
   injection e1 with e1 e1'
   have:b=b':=by omega
   have:i=i':=by omega
   subst b' i'
   rw[hl] at e2;cases e2
theorem aHs(h:FR A M S C m){b:Nat}(h0:qL S b):
 aB tb.P 115 [.ptr A.f 0,i64 (b:Int)] M fun y N=>∃ C' m',y=i64 (gB S b).2∧FR A N (gB S b).1 C' m'∧aD M N A.wr:=by
 have hg:=h.geo
 have hseq:=h.inv.seq
 have hop0:=h0.ops
 refine aNV ?_
 unfold F115
 simp only[i64,aJ]
 refine (aKg h).mono ?_
 rintro y M3 ⟨bo,ol,rfl,hbo,hgo,hnd,hkeys,hk3⟩
 have hbo3:bo<M3.next:=hk3.wf _ _ hgo
 have hMle:M.next≤M3.next:=hk3.nxt
 have hX:=h.aside (T:=[M3.next]) (fun c hc=>by rw[List.mem_singleton] at hc;omega)
 have hwlt:∀ c∈A.wr,c<M.next:=h.lt
 generalize hA':({ A with ext:=[M3.next]++A.ext }:bL)=A' at*
 have eA:A'.f=A.f∧A'.p=A.p∧A'.wr=A.wr∧A'.mf=A.mf∧M3.next∈A'.ext∧∀ {N:aC} {S:Ps} {C:aQ} {m:List iK},FR A' N S C m→FR A N S C m:=by
  subst hA'
  exact⟨rfl,rfl,rfl,rfl,by simp,fun h=>h.back⟩
 obtain⟨eAf,eAp,eAw,eAm,eAx,eAb⟩:=eA
 clear hA'
 have h3:=hX.post hk3
 refine bE fun M4 hM4=>?_
 have e4:M4=M3.new (.cells [i64 0,i64 0] true):=hM4
 have k4:aD M3 M4 []:=by rw[e4];exact aD.new hk3.wf _
 have g4:M4.get M3.next=some (.cells [i64 0,i64 0] true):=by rw[e4];exact get_new _ _
 have n4:M4.next=M3.next+1:=by rw[e4];rfl
 clear hM4 e4
 refine aG (fR (b:Int) 0 g4 rfl) ?_
 have k5:aD M3 (M4.put M3.next (.cells [i64 (b:Int),i64 0] true)) []:=xD k4 (Nat.le_refl _) (by omega) _
 generalize hM5:M4.put M3.next (.cells [i64 (b:Int),i64 0] true)=M5 at*
 have g5:M5.get M3.next=some (.cells [i64 (b:Int),i64 0] true):=by rw[← hM5,aC.get_put,if_pos rfl]
 clear hM5
 refine⟨fun to z n N=>∃ (i:Nat) (w:Int) (S1:Ps) (C1:aQ) (m1:List iK),z=i∧n=nG S-i∧i≤nG S∧Clr S b i to S1∧FR A' N S1 C1 m1∧aD M N A.wr∧wP b (cH S b) (nG S-i) i to S1=gB S b∧N.get M3.next=some (.cells [i64 (b:Int),i64 w] true)∧N.get bo=some (.map (mG vM unA ol)),
  ⟨_,0,0,S,C,m,rfl,rfl,Nat.zero_le _,⟨h.inv,jE.refl S,rW.refl S,rfl,by omega,fun _ h=>h,h0.lost,rfl,fun _=>rfl,fun _ _=>rfl,fun j hj=>by omega,fun _ _=>rfl,.inl ⟨by omega,rfl,rfl⟩⟩,h3.post k5,(hk3.trans0 k5).mono (by simp),rfl,g5,k5.get hk3.wf hgo (by simp)⟩,?_⟩
 rintro _ to z n N ⟨i,w,S1,C1,m1,rfl,rfl,hi,hclr,hN,hkN,hres,gN,goN⟩
 have hnb:=hclr.env.nB
 have hng:=hclr.env.nG
 have hops1:=hclr.ops
 have hnb3:M3.next<N.next:=hN.wf _ _ gN
 have h3wr:M3.next∉A.wr:=fun hm=>by have:=hwlt _ hm;omega
 have howr:bo∉A.wr:=fun hm=>by have:=hwlt _ hm;omega
 have hwlt':∀ c∈A.wr,c≠M3.next:=fun c hc e=>h3wr (by rw[← e];exact hc)
 refine aG (oF (dK dX rfl rfl gN (by simp))) ?_
 have kp:aD N (N.put M3.next (.cells ([i64 (b:Int),i64 w].set 1 (.val (.int .i64 (i:Int)))) true)) [M3.next]:=aD.put hN.wf hnb3 _
 have hP:=hN.keepX kp fun c hc=>by
  rw[List.mem_singleton] at hc
  subst hc
  exact⟨eAx,by rw[eAw];exact h3wr⟩
 have hkP:aD M (N.put M3.next (.cells ([i64 (b:Int),i64 w].set 1 (.val (.int .i64 (i:Int)))) true)) A.wr:=hkN.trans kp (fun _ h _=>h) (fun c hc hlt=>by rw[List.mem_singleton] at hc;omega)
 have gP:(N.put M3.next (.cells ([i64 (b:Int),i64 w].set 1 (.val (.int .i64 (i:Int)))) true)).get M3.next=some (.cells [i64 (b:Int),i64 (i:Int)] true):=by rw[aC.get_put,if_pos rfl];rfl
 have goP:(N.put M3.next (.cells ([i64 (b:Int),i64 w].set 1 (.val (.int .i64 (i:Int)))) true)).get bo=some (.map (mG vM unA ol)):=by rw[aC.get_put,if_neg (by omega)];exact goN
 generalize N.put M3.next (.cells ([i64 (b:Int),i64 w].set 1 (.val (.int .i64 (i:Int)))) true)=P at*
 rw[← eAf]
 refine aG dB ?_
 refine aG nW ?_
 rw[bV]
 refine aG hP.lpg ?_
 rw[aJ]
 have hS1seq:=hP.inv.seq
 have hb1:b<nB S1:=by rw[hnb];exact h0.hb
 refine aT (fun e=>?_) (fun e=>?_)
 ·have e:i=nG S:=by
   have:(i:Int)=nG S1:=by simpa using e
   rw[hng] at this
   omega
  subst e
  rw[Nat.sub_self,wP] at hres
  refine (aNi hP hb1 (by omega)).mono ?_
  rintro y N2 ⟨C',m',rfl,hN2,kN2⟩
  rw[hres] at hN2 ⊢
  simp only[i64,aJ]
  rw[eAw] at kN2
  exact⟨C',m',by trivial,eAb hN2,hkP.trans kN2 (fun _ h _=>h) (fun _ h _=>h)⟩
 ·have hilt:i<nG S:=by
   have:¬ (i:Int)=nG S1:=by simpa using e
   rw[hng] at this
   omega
  have hsub:nG S-i=(nG S-(i+1))+1:=by omega
  refine aG (aS (bO gP).2.2) ⟨_,_,rfl,?_⟩
  refine aG (aHB goP hnd hkeys b i) ?_
  rw[cO]
  refine aT (fun hl=>?_) (fun hl=>?_)
  ·have hl:cH S b i=false:=by simpa using hl
   rw[hsub,aH3 hl] at hres
   refine⟨_,by omega,i+1,i,S1,C1,m1,dE (by omega),rfl,hilt,?_,hP,hkP,hres,gP,goP⟩
   refine⟨hclr.inv,hclr.same,hclr.env,hclr.deg,by omega,hclr.lostM,hclr.lost,hclr.blk,hclr.wear,hclr.stay,fun j hj=>?_,fun j hj=>hclr.todo j (by omega),?_⟩
   ·by_cases ej:j=i
    ·subst ej;rw[hclr.todo j (Nat.le_refl _)];exact hl
    ·exact hclr.done j (by omega)
   ·have:cnt (i+1) (cH S b)=cnt i (cH S b):=by rw[dT,hl];simp
    rw[this];exact hclr.to
  ·have hl:cH S b i=true:=by simpa using hl
   obtain⟨c,v,hv⟩:=dG.1 ((hclr.todo i (Nat.le_refl _)).trans hl)
   obtain⟨t,ht1,ht2,ht3,ht4,ht5,ht6,ht7⟩:=aQn h0 hclr hilt hv
   rw[hsub,aIb hl hv.1 ht1] at hres
   have htag:=hclr.inv.tag _ _ _ hv.1
   have hokm:=iT htag.1
   have hcl:=aDV h0 hclr hilt hv ht2 ht3 ht4 ht5 ht6 ht7
   have huse:aP S1 t<nG S1:=by rw[hng];have:=sM i (cH S b);omega
   refine bE fun K55 hK55=>?_
   have key55:∀ (N2:aC),FR A' N2 S1 C1 m1→aD P N2 []→K55 (t:Int) N2:=by
    intro N2 hN2 kN2
    rw[hK55]
    clear hK55
    have gN2:=kN2.get hP.wf gP (by simp)
    obtain⟨x,hx1,hx2,hx3,hx4⟩:=hN2.ver hv.1
    have lp:∀ N',N'.get M3.next=some (.cells [i64 (b:Int),i64 (i:Int)] true)→aH tb 101 (.ptr M3.next 0) N'=some (bB (b:Int) (i:Int),N'):=fun N' hg=>aS (bO hg).2.2
    have lm:∀ {N':aC},FR A' N' S1 C1 m1→aH tb 96 (.ptr A'.f 6) N'=some (.map A'.mf,N'):=fun hN'=>aS (eB aDl rfl hN'.fl (o:=6) (v:= .map A'.mf) rfl)
    have lk:∀ {N':aC},FR A' N' S1 C1 m1→pV tb 96 (.map A'.mf) (bB (b:Int) (i:Int)) false N'=some (pgA ⟨v.t.k,v.t.p,v.t.s,v.t.e,x⟩,N'):=fun {N'} hN'=>gI vF (show N'.get A'.mf=some (.map (mG vM pgA m1)) from hN'.mf) hN'.nd hx1 false
    refine aG dB ?_
    refine aG jL ?_
    rw[bV]
    refine aG dB ?_
    refine aG aEx ?_
    rw[bV]
    refine aG dB ?_
    refine aG aEx ?_
    rw[bV]
    refine aG hN2.ldp ?_
    refine aG (lm hN2) ?_
    refine aG (lp _ gN2) ⟨_,_,rfl,?_⟩
    refine aG (lk hN2) ⟨_,_,_,_,_,rfl,?_⟩
    refine aG (lm hN2) ?_
    refine aG (lp _ gN2) ⟨_,_,rfl,?_⟩
    refine aG (lk hN2) ⟨_,_,_,_,_,rfl,?_⟩
    refine (sQ hN2 ht2).mono ?_
    rintro y N3 ⟨rfl,kN3⟩
    have hN3:=hN2.post kN3
    have gN3:=kN3.get hN2.wf gN2 (by simp)
    simp only[i64,aJ]
    refine⟨aG (lm hN3) rfl,aG (lp _ gN3) rfl,aG (lk hN3) rfl,aG (lm hN3) rfl,aG (lp _ gN3) rfl,aG (lk hN3) rfl,?_⟩
    have hxN3:aI N3 x v.d:=aO.keep0 hx2 hN2.wf kN3
    refine (aBR hN3 (t:=v.t) ht2 ht4 huse (by omega) (fun s hs=>aFH (by omega)) htag.2.1 htag.2.2.2.1 htag.2.2.2.2 hxN3 hx3 hx4).mono ?_
    rintro y N4 ⟨C',m',rfl,hN4,kN4⟩
    simp only[i64,aJ]
    rw[eAw] at kN4
    have kk:aD M N4 A.wr:=(hkP.trans (kN2.trans0 kN3) (fun _ h _=>h) (by simp)).trans kN4 (fun _ h _=>h) (fun _ h _=>h)
    rcases hcl with⟨hc1,_⟩|⟨hc1,hc2⟩
    ·rw[if_pos hc1] at hres
     refine aT (fun _=>?_) (fun e2=>?_)
     ·rw[hres] at hN4 ⊢
      exact⟨C',m',rfl,eAb hN4,kk⟩
     ·have e2:(lB S1 t v.t v.d).2=0:=by simpa using e2
      exact absurd e2 hc1
    ·rw[if_neg (by rw[hc1];simp)] at hres
     refine aT (fun e2=>?_) (fun _=>?_)
     ·have e2:¬ (lB S1 t v.t v.d).2=0:=by simpa using e2
      exact absurd hc1 e2
     ·refine⟨_,by omega,i+1,i,_,C',m',dE (by omega),rfl,hilt,hc2,hN4,kk,hres,?_,?_⟩
      ·exact kN4.get hN3.wf gN3 h3wr
      ·exact kN4.get hN3.wf ((kN2.trans0 kN3).get hP.wf goP (by simp)) howr
   clear hK55
   refine bE fun K48 hK48=>?_
   have key48:∀ (u:Bool) (N2:aC),FR A' N2 S1 C1 m1→aD P N2 []→(u=true→toX S1 to=cD S1)→(u=false→toX S1 to=to)→K48 u N2:=by
    intro u N2 hN2 kN2 hu1 hu2
    rw[hK48]
    clear hK48
    refine aT (fun e=>?_) (fun e=>?_)
    ·have hfr:cD S1=(t:Int):=(hu1 e).symm.trans ht1
     refine (aGo hN2).mono ?_
     rintro y N3 ⟨rfl,kN3⟩
     refine⟨_,_,rfl,?_⟩
     rw[hfr,decide_eq_true (by omega:(t:Int)≥0)]
     simp only[Bool.not_true,fG]
     exact key55 _ (hN2.post kN3) (kN2.trans0 kN3)
    ·have:to=(t:Int):=(hu2 e).symm.trans ht1
     rw[this]
     exact key55 _ hN2 kN2
   clear hK48
   have hto:=hclr.to
   refine aT (fun e=>⟨trivial,key48 _ _ hP (aD.refl hP.wf) (fun _=>?_) (by simp)⟩) (fun e=>?_)
   ·unfold toX
    rw[if_pos (of_decide_eq_true e)]
   have e:=of_decide_eq_false e
   obtain⟨u,hu⟩:∃ u:Nat,to=u:=⟨to.toNat,by omega⟩
   subst hu
   have hub:u<nB S1:=by
    rcases hto with⟨h1,_⟩|⟨_,h1,_⟩
    ·omega
    ·omega
   have htx:toX S1 (u:Int)=if (bC S1 u||aP S1 u==nG S1)=true then cD S1 else (u:Int):=by
    unfold toX
    rw[if_neg (by omega),Int.toNat_natCast]
   refine (aK7 hP hub).mono ?_
   rintro y N2 ⟨rfl,kN2⟩
   rw[cO]
   have hN2:=hP.post kN2
   refine aT (fun e2=>⟨trivial,key48 _ _ hN2 kN2 (fun _=>by rw[htx,e2];rfl) (by simp)⟩) (fun e2=>?_)
   refine aG dB ?_
   refine aG jL ?_
   rw[bV]
   refine aG dB ?_
   refine aG nW ?_
   rw[bV]
   refine aG hN2.ldp ?_
   refine aG hN2.lpg ?_
   rw[aJ]
   refine (sQ hN2 hub).mono ?_
   rintro y N3 ⟨rfl,kN3⟩
   simp only[i64,aJ]
   have hN3:=hN2.post kN3
   refine⟨aG hN3.lpg rfl,key48 _ _ hN3 (kN2.trans0 kN3) (fun e3=>?_) (fun e3=>?_)⟩
   ·rw[htx,e2,Bool.false_or,if_pos]
    have e3:(aP S1 u:Int)=nG S1:=by simpa using e3
    rw[beq_iff_eq];omega
   ·rw[htx,e2,Bool.false_or,if_neg]
    have e3:¬ (aP S1 u:Int)=nG S1:=by simpa using e3
    rw[beq_iff_eq];omega
end
section
variable {A:bL} {M:aC} {S:Ps} {C:aQ} {m:List iK}
theorem FR.wr_bnd(h:FR A M S C m)(ho:S.ops≤1000000000)(b:Nat)(hb:b<nB S):0≤aZ S b∧aZ S b≤1000000000:=by
 obtain⟨B,X,e1,e2,_⟩:=h.block hb
 have:=h.inv.cnt b X e2
 unfold aZ
 rw[e2]
 simp only
 omega
theorem aH0(k:Nat)(S:Ps):wL (k+1) S=if kY S>S.g.tr then (if (gB S (dR (fun a b=>decide (a<b)) (aZ S) (cV S) (nB S)).toNat).2≠0 then gB S (dR (fun a b=>decide (a<b)) (aZ S) (cV S) (nB S)).toNat else wL k (gB S (dR (fun a b=>decide (a<b)) (aZ S) (cV S) (nB S)).toNat).1) else (S,0):=rfl
theorem aGG(h:FR A M S C m)(h0:Pre S (nB S))(ho:S.ops+1000≤1000000000):
 aB tb.P 79 [.ptr A.f 0] M fun y N=>∃ C' m',y=i64 (mO S).2∧FR A N (mO S).1 C' m'∧aD M N A.wr:=by
 have hg:=h.geo
 refine aPx ?_
 unfold F79
 refine aG dB ?_
 refine aG nW ?_
 rw[bV]
 refine aG h.lbl ?_
 rw[aJ]
 refine bE fun K33 hK33=>?_
 have key33:∀ (N:aC) (S1:Ps) (C1:aQ) (m1:List iK),FR A N S1 C1 m1→aD M N A.wr→mO S=(S1,0)→K33 N:=by
  intro N S1 C1 m1 h1 h2 h3
  rw[hK33,h3]
  exact⟨C1,m1,rfl,h1,h2⟩
 clear hK33
 refine⟨fun z n N=>∃ (k:Nat) (S1:Ps) (C1:aQ) (m1:List iK),z=k∧n=nB S-k∧k≤nB S∧Pre S1 (nB S-k)∧rW S S1∧FR A N S1 C1 m1∧aD M N A.wr∧wL (nB S-k) S1=mO S∧S1.ops≤S.ops+9*k,
  ⟨_,0,S,C,m,rfl,rfl,Nat.zero_le _,h0,rW.refl S,h,aD.refl h.wf,rfl,by omega⟩,?_⟩
 rintro _ z n N ⟨k,S1,C1,m1,rfl,rfl,hk,hpre,henv,hN,hkN,hres,hops⟩
 have hnb:=henv.nB
 refine aT (fun e=>?_) (fun e=>?_)
 ·have hlt:k<nB S:=Int.ofNat_lt.1 (of_decide_eq_true e)
  have hsub:nB S-k=(nB S-(k+1))+1:=by omega
  rw[hsub,aH0] at hres
  refine (aDh hN).mono ?_
  rintro y M13 ⟨hy,k13,fy⟩
  have h13:=hN.post k13
  refine (tQ h13 (is:=cV S1) (wR aRz fun N' b hb _ hN'=>aDg hN' hb)).mono ?_
  rintro x M15 ⟨hx,k15,fx⟩
  have h15:=h13.post k15
  have hy15:=(hy.keep0 k13.wf k15).at
  refine aG dB ?_
  refine aG nW ?_
  rw[bV]
  refine aG h15.ltr ?_
  rw[aJ]
  refine (aRX h15 (h15.wr_bnd (by omega)) hy15 hx.at S1.g.tr).mono ?_
  rintro r M23 ⟨rfl,rfl⟩
  rw[cO]
  refine aT (fun e2=>?_) (fun e2=>?_)
  ·have e2:¬ kY S1>S1.g.tr:=by simpa using e2
   rw[if_neg e2] at hres
   exact key33 _ S1 C1 m1 h15 (hkN.trans (k13.trans0 k15) (fun _ h _=>h) (by simp)) hres.symm
  ·have e2:kY S1>S1.g.tr:=by simpa using e2
   rw[if_pos e2] at hres
   refine (aHo M23 y x _ _ hy15 hx.at (by rw[iS,kX]) (by rw[iS];omega)).mono ?_
   rintro r M26 ⟨rfl,rfl⟩
   rw[iS,rD _ S1 _ _ _ (Nat.le_refl _)]
   simp only[i64,aJ]
   have hm:=bP.1 hpre.inv.may
   have hp0:0≤dR (fun a b=>decide (a<b)) (aZ S1) (cV S1) (nB S1):=by
    by_cases hn:dR (fun a b=>decide (a<b)) (aZ S1) (cV S1) (nB S1)<0
    ·unfold kY at e2
     simp only[hn,if_true] at e2
     omega
    ·omega
   obtain⟨hp1,hp2⟩:=oS hp0
   unfold cV at hp2
   simp only[Bool.not_eq_true'] at hp2
   obtain⟨b,hb⟩:∃ b:Nat,dR (fun a b=>decide (a<b)) (aZ S1) (cV S1) (nB S1)=b:=⟨_,(Int.toNat_of_nonneg hp0).symm⟩
   have hbe:dR (fun a b=>decide (a<b)) (aZ S1) (fun b=> !bC S1 b) (nB S1)=b:=hb
   rw[hb] at hres hp1 ⊢
   rw[hbe] at hp2
   rw[Int.toNat_natCast] at hres hp2
   have hpo:=hpre.ops
   have hcp:qL S1 b:=⟨hpre.inv,by omega,hp2,hpre.lost,hpre.phi,by omega⟩
   have hcq:=tN hcp
   refine (aHs h15 hcp).mono ?_
   rintro r M29 ⟨C',m',rfl,h29,k29⟩
   simp only[i64,aJ]
   have kk:aD M M29 A.wr:=(hkN.trans (k13.trans0 k15) (fun _ h _=>h) (by simp)).trans k29 (fun _ h _=>h) (fun _ h _=>h)
   refine aT (fun e3=>?_) (fun e3=>?_)
   ·have e3:(gB S1 b).2≠0:=by simpa using e3
    rw[if_pos e3] at hres
    rw[hres] at h29 ⊢
    exact⟨C',m',rfl,h29,kk⟩
   ·have e3:(gB S1 b).2=0:=by simpa using e3
    rw[if_neg (by rw[e3];simp)] at hres
    have hco:=hcq.ops
    rcases hcq.code with⟨_,c2,c3,c4,_⟩|⟨c1,_⟩
    ·refine⟨_,by omega,k+1,_,C',m',dE (by omega),rfl,hlt,⟨hcq.inv,by rw[hcq.env.g];exact c3,by rw[hcq.env.g];have:=hpre.phi;omega,?_⟩,henv.trans hcq.env,h29,kk,hres,?_⟩
     ·have:=h15.geo;omega
     ·have:=h15.geo;omega
    ·rw[e3] at c1;cases c1
 ·have hge:¬ (k:Int)<nB S:=of_decide_eq_false e
  have:k=nB S:=by omega
  subst this
  rw[Nat.sub_self] at hres
  exact key33 _ S1 C1 m1 hN hkN hres.symm
theorem aIc(h:FR A M S C m)(h0:Pre S (nB S+1))(hno:∀ b,b<nB S→cX S b=false)(hf:(kG S:Int)≤eV S)(ho:S.ops+2000≤1000000000):
 aB tb.P 175 [.ptr A.f 0] M fun y N=>∃ C' m',y=i64 (cP S).2∧FR A N (cP S).1 C' m'∧aD M N A.wr:=by
 have hg:=h.geo
 have hop0:=h0.ops
 obtain⟨v1,v2,v3,v4⟩:=aBE (S:=S) ⟨h0.inv,h0.lost,h0.phi,by omega⟩ hno hf
 have hres:cP S=if (gB S (iH S).toNat).2≠0 then gB S (iH S).toNat else mO (gB S (iH S).toNat).1:=by
  unfold cP
  rw[if_neg (by omega),if_neg (by omega)]
 obtain⟨b,hb⟩:∃ b:Nat,iH S=b:=⟨_,(Int.toNat_of_nonneg v1).symm⟩
 rw[hb,Int.toNat_natCast] at hres v3 v4
 rw[hb] at v2
 refine aNA ?_
 unfold F175
 refine bE fun M1 hM1=>?_
 have e1:M1=M.new (.cells [.ptr A.f 0] true):=hM1
 have k1:aD M M1 []:=by rw[e1];exact aD.new h.wf _
 have g1:M1.get M.next=some (.cells [.ptr A.f 0] true):=by rw[e1];exact get_new _ _
 clear hM1 e1
 have h1:=h.post k1
 have lq:∀ N,N.get M.next=some (.cells [.ptr A.f 0] true)→aH tb 58 (.ptr M.next 0) N=some (.ptr A.f 0,N):=fun N hg=>aS (eB aFe rfl hg rfl)
 refine aG (lq _ g1) ?_
 refine (aNj h1).mono ?_
 rintro y M4 ⟨hy,k4,fy⟩
 have h4:=h1.post k4
 have g4:=k4.get k1.wf g1 (by simp)
 refine aG (lq _ g4) ?_
 refine aG (lq _ g4) ?_
 refine (aDh h4).mono ?_
 rintro x M8 ⟨hx,k8,fx⟩
 have h8:=h4.post k8
 have g8:=k8.get k4.wf g4 (by simp)
 refine⟨aG (lq _ g8) rfl,?_⟩
 refine (tQ h8 (is:=jR S) (wR (a:=[]) (cs:=[.ptr M.next 0]) aSe fun N' b hb hk hN'=>aPN hN' (hk.get h8.wf g8 (by simp)) hb)).mono ?_
 rintro z M11 ⟨hz,k11,fz⟩
 have h11:=h8.post k11
 have g11:=k11.get k8.wf g8 (by simp)
 have hy11:lV M11 y ((vN (dF S) (nB S)).map i64):=aO.keep0 (aO.keep0 hy k4.wf k8) k8.wf k11
 refine (aQe M11 (by omega) hy11 (hx.keep0 k8.wf k11).at hz.at).mono ?_
 rintro r M13 ⟨rfl,rfl⟩
 have hvic:eK (dF S) (aZ S) (jR S) (nB S)=b:=hb
 rw[hvic]
 simp only[i64,aJ]
 have K13:aD M M13 []:=((k1.trans0 k4).trans0 k8).trans0 k11
 refine bE fun K28 hK28=>?_
 have key28:K28 false:=by
  rw[hK28]
  refine aT (fun e=>by cases e) (fun _=>?_)
  refine aG (lq _ g11) ?_
  have hcp:qL S b:=⟨h0.inv,by omega,by unfold jR cV at v3;simp only[Bool.and_eq_true,Bool.not_eq_true'] at v3;exact v3.1,h0.lost,h0.phi,by omega⟩
  have hcq:=tN hcp
  refine (aHs h11 hcp).mono ?_
  rintro r M31 ⟨C',m',rfl,h31,k31⟩
  simp only[i64,aJ]
  have g31:=k31.get h11.wf g11 (fun hm=>by have:=h.lt _ hm;omega)
  have kk:aD M M31 A.wr:=(K13.mono (S':=A.wr) (by simp)).trans k31 (fun _ h _=>h) (fun _ h _=>h)
  refine aT (fun e3=>?_) (fun e3=>?_)
  ·have e3:(gB S b).2≠0:=by simpa using e3
   rw[if_pos e3] at hres
   rw[hres]
   exact⟨C',m',rfl,h31,kk⟩
  ·have e3:(gB S b).2=0:=by simpa using e3
   rw[if_neg (by rw[e3];simp)] at hres
   rw[hres]
   refine aG (lq _ g31) ?_
   have hco:=hcq.ops
   rcases hcq.code with⟨_,c2,c3,c4,_⟩|⟨c1,_⟩
   ·refine (aGG h31 ⟨hcq.inv,by rw[hcq.env.g];exact c3,by rw[hcq.env.g];have:=h0.phi;omega,by rw[hcq.env.nB];omega⟩ (by omega)).mono ?_
    rintro r M35 ⟨C2,m2,rfl,h35,k35⟩
    simp only[i64,aJ]
    exact⟨C2,m2,by trivial,h35,kk.trans k35 (fun _ h _=>h) (fun _ h _=>h)⟩
   ·rw[e3] at c1;cases c1
 clear hK28
 refine aT (fun e=>?_) (fun e=>?_)
 ·have:=of_decide_eq_true e
  omega
 ·have hlv:(vN (dF S) (nB S)).getD b 0=dF S b:=by
   unfold vN
   have:b<nB S:=by omega
   simp[this]
  obtain⟨p,o,a1,a2,a3⟩:=nM hy11 (i:=b) (by unfold vN;simp;omega)
  rw[hlv] at a3
  refine aG (a1 _) ?_
  rw[bV]
  refine aG a3 ?_
  rw[aJ]
  refine aG (lq _ g11) ?_
  refine aG dB ?_
  refine aG nW ?_
  rw[bV]
  refine aG h11.lpg ?_
  rw[aJ]
  have:((dF S b:Int)==(nG S:Int))=false:=by
   cases e:((dF S b:Int)==(nG S:Int)) with
   | false=>rfl
   | true=>rw[beq_iff_eq] at e;omega
  rw[this]
  exact key28
end
def oX(S:Ps):Int:=if (decide (cK (cX S) (nB S)<0)&&decide ((kG S:Int)>eV S))=true then cD S else cK (cX S) (nB S)
theorem aIv(k:Nat)(S:Ps):aEA (k+1) S=if oX S≥0 then (S,oX S,0) else (if (cP S).2≠0 then ((cP S).1, -1,(cP S).2) else aEA k (cP S).1):=rfl
theorem aSt{S:Ps}(h:Pre S 0)(hp:rX S):0≤oX S:=by
 unfold oX
 have hph:=rF S
 have hlost:=h.lost
 obtain⟨f1,f2⟩:=lC (cX S) (nB S)
 by_cases hn:cK (cX S) (nB S)<0
 ·have h3:3+S.g.sp≤phi S:=by
   rcases hp with⟨b,hb,hob⟩|hp
   ·have:=f1 hn b hb
    rw[this] at hob;cases hob
   ·exact hp
  obtain⟨g1,g2,g3⟩:=mP (S:=S) (by omega)
  have hc:(decide (cK (cX S) (nB S)<0)&&decide ((kG S:Int)>eV S))=true:=by
   rw[Bool.and_eq_true,decide_eq_true_eq,decide_eq_true_eq]
   unfold eV
   exact⟨hn,by omega⟩
  rw[if_pos hc]
  exact g1
 ·have hc:¬ ((decide (cK (cX S) (nB S)<0)&&decide ((kG S:Int)>eV S))=true):=by
   rw[Bool.and_eq_true,decide_eq_true_eq]
   exact fun h=>hn h.1
  rw[if_neg hc]
  omega
theorem aSc{S:Ps}(h:Pre S 0)(hn:¬ oX S≥0):(∀ b,b<nB S→cX S b=false)∧(kG S:Int)≤eV S:=by
 unfold oX at hn
 have hph:=rF S
 have hlost:=h.lost
 obtain⟨f1,f2⟩:=lC (cX S) (nB S)
 by_cases hc:(decide (cK (cX S) (nB S)<0)&&decide ((kG S:Int)>eV S))=true
 ·rw[if_pos hc] at hn
  rw[Bool.and_eq_true,decide_eq_true_eq,decide_eq_true_eq] at hc
  unfold eV at hc
  obtain⟨g1,_⟩:=mP (S:=S) (by omega)
  omega
 ·rw[if_neg hc] at hn
  rw[Bool.and_eq_true,decide_eq_true_eq,decide_eq_true_eq] at hc
  have h1:cK (cX S) (nB S)<0:=by omega
  exact⟨f1 h1,by
   by_cases h2:(kG S:Int)>eV S
   ·exact absurd ⟨h1,h2⟩ hc
   ·omega⟩
theorem vH{is js:Nat→Bool}:∀ {n:Nat},(∀ k,k<n→is k=js k)→cK is n=cK js n
 | 0,_=>rfl
 | n+1,h=>by rw[cK,cK,vH fun k hk=>h k (by omega),h n (by omega)]
section
variable {A:bL} {M:aC} {S:Ps} {C:aQ} {m:List iK}
def aFQ(r:Ps×Int×Int):AV:=if r.2.2=0 then .tup [bB r.2.1 (aP r.1 r.2.1.toNat:Int),i64 0] else .tup [bB 0 0,i64 r.2.2]
theorem aN4(h:FR A M S C m)(h0:Pre S (nB S+1))(ho:S.ops+3000≤1000000000):
 aB tb.P 135 [.ptr A.f 0] M fun y N=>∃ C' m',y=aFQ (bA S)∧FR A N (bA S).1 C' m'∧aD M N A.wr:=by
 have hg:=h.geo
 have hop0:=h0.ops
 have hpost:=aFG h0
 have hk2:2≤nB S*nG S:=by
  have:8*4≤nB S*nG S:=Nat.mul_le_mul (by omega) (by omega)
  omega
 have hmax:nB S*nG S≤160:=by
  have:nB S*nG S≤20*8:=Nat.mul_le_mul (by omega) (by omega)
  omega
 refine aLY ?_
 unfold F135
 refine bE fun M1 hM1=>?_
 have e1:M1=M.new (.cells [.ptr A.f 0] true):=hM1
 have k1:aD M M1 []:=by rw[e1];exact aD.new h.wf _
 have g1:M1.get M.next=some (.cells [.ptr A.f 0] true):=by rw[e1];exact get_new _ _
 have n1:M1.next=M.next+1:=by rw[e1];rfl
 clear hM1 e1
 refine bE fun M2 hM2=>?_
 have e2:M2=M1.new (.cells [i64 0,i64 0] true):=hM2
 have k2:aD M M2 []:=k1.trans0 (by rw[e2];exact aD.new k1.wf _)
 have g2:M2.get M1.next=some (.cells [i64 0,i64 0] true):=by rw[e2];exact get_new _ _
 have g2':M2.get M.next=some (.cells [.ptr A.f 0] true):=by rw[e2,aC.get_new,if_neg (by omega)];exact g1
 clear hM2 e2
 have hX:=h.aside (T:=[M1.next]) (fun c hc=>by rw[List.mem_singleton] at hc;omega)
 have hwlt:∀ c∈A.wr,c<M.next:=h.lt
 have eA:∃ A':bL,FR A' M S C m∧A'.f=A.f∧A'.p=A.p∧A'.wr=A.wr∧M1.next∈A'.ext∧∀ {N:aC} {S:Ps} {C:aQ} {m:List iK},FR A' N S C m→FR A N S C m:=
  ⟨_,hX,rfl,rfl,rfl,by simp,fun h=>h.back⟩
 obtain⟨A',hX,eAf,eAp,eAw,eAx,eAb⟩:=eA
 have h2:=hX.post k2
 have lq:∀ N,N.get M.next=some (.cells [.ptr A.f 0] true)→aH tb 58 (.ptr M.next 0) N=some (.ptr A'.f 0,N):=fun N hg=>by rw[eAf];exact aS (eB aFe rfl hg rfl)
 refine aG (lq _ g2') ?_
 refine aG dB ?_
 refine aG nW ?_
 rw[bV]
 refine aG h2.lbl ?_
 rw[aJ]
 refine aG (lq _ g2') ?_
 refine aG dB ?_
 refine aG nW ?_
 rw[bV]
 refine aG h2.lpg ?_
 rw[aJ]
 have em:bT .i64 (nB S:Int) (nG S:Int)=((nB S*nG S:Nat):Int):=by
  rw[Int.natCast_mul]
  have:((nB S:Int)*(nG S:Int))=((nB S*nG S:Nat):Int):=by rw[Int.natCast_mul]
  exact aL (by omega) (by omega)
 rw[em]
 have fin:∀ (N:aC) (x y:Int) (e:AV) (S1:Ps) (C1:aQ) (m1:List iK) (K:AV×aC→Prop),FR A' N S1 C1 m1→aD M N A.wr→(∃ cs,N.get M1.next=some (.cells cs true)∧cs.length=2)→(∀ N',FR A N' S1 C1 m1→aD M N' A.wr→aA (fO tb [.c 101 (.ptr M1.next 0),.v e] N') (fun x'=>x'= .tup [bB x y,e])→K (eY,N'))→aA (cL tb 101 (.ptr M1.next 0) (bB x y) N) K:=by
  rintro N x y e S1 C1 m1 K hN hk ⟨cs,hg,hl⟩ hK
  refine aG (fR x y hg hl) ?_
  have kp:aD N (N.put M1.next (.cells [i64 x,i64 y] true)) [M1.next]:=aD.put hN.wf (hN.wf _ _ hg) _
  have h1wr:M1.next∉A.wr:=fun hm=>by have:=hwlt _ hm;omega
  refine hK _ (eAb (hN.keepX kp fun c hc=>?_)) (hk.trans kp (fun _ h _=>h) (fun c hc hlt=>by rw[List.mem_singleton] at hc;omega)) ?_
  ·rw[List.mem_singleton] at hc
   subst hc
   exact⟨eAx,by rw[eAw];exact h1wr⟩
  ·exact aG (aCe (by rw[aC.get_put,if_pos rfl])) rfl
 refine⟨fun z n N=>∃ (k:Nat) (S1:Ps) (C1:aQ) (m1:List iK),z=k∧n=2-k∧FR A' N S1 C1 m1∧aD M N A.wr∧aEA (nB S*nG S-k) S1=bA S∧N.get M.next=some (.cells [.ptr A.f 0] true)∧(∃ cs,N.get M1.next=some (.cells cs true)∧cs.length=2)∧((k=0∧S1=S)∨(k=1∧rX S1∧Pre S1 0∧nB S1=nB S)),
  ⟨_,0,S,C,m,rfl,rfl,h2,k2.mono (by simp),rfl,g2',⟨_,g2,rfl⟩,.inl ⟨rfl,rfl⟩⟩,?_⟩
 rintro _ z n N ⟨k,S1,C1,m1,rfl,rfl,hN,hkN,hres,gN,gN',hkS⟩
 have hk1:k≤1:=by rcases hkS with⟨h,_⟩|⟨h,_⟩ <;> omega
 have hnb:nB S1=nB S:=by rcases hkS with⟨_,rfl⟩|⟨_,_,_,h⟩;exact rfl;exact h
 have hpre1:Pre S1 0:=by
  rcases hkS with⟨_,rfl⟩|⟨_,_,h,_⟩
  ·exact⟨h0.inv,h0.lost,h0.phi,by omega⟩
  ·exact h
 rw[decide_eq_true (by omega:(k:Int)<((nB S*nG S:Nat):Int)),jF]
 have hsub:nB S*nG S-k=(nB S*nG S-(k+1))+1:=by omega
 rw[hsub,aIv] at hres
 refine aG (lq _ gN) ?_
 have gNf:∀ N',aD N N' []→N'.get M.next=some (.cells [.ptr A'.f 0] true):=fun N' hk=>by rw[eAf];exact hk.get hN.wf gN (by simp)
 refine (tQ hN (is:=cX S1) (wR (a:=[]) (cs:=[.ptr M.next 0]) aRD fun N' b hb hk hN'=>aRi hN' (gNf N' hk) hb)).mono ?_
 rintro x M24 ⟨hx,k24,fx⟩
 have h24:=hN.post k24
 refine (aNh M24 hx.at (by rw[kX];have:=h24.geo;omega)).mono ?_
 rintro r M26 ⟨rfl,rfl⟩
 rw[kX,vH (js:=cX S1) fun j hj=>aCB _ hj]
 simp only[i64,aJ]
 have g24:=k24.get hN.wf gN (by simp)
 have g24':∃ cs,M26.get M1.next=some (.cells cs true)∧cs.length=2:=by
  obtain⟨cs,h1,h2⟩:=gN'
  exact⟨cs,k24.get hN.wf h1 (by simp),h2⟩
 have hk24:aD M M26 A.wr:=hkN.trans k24 (fun _ h _=>h) (by simp)
 refine bE fun K48 hK48=>?_
 have key48:∀ (z:Int) (N2:aC),aD M26 N2 []→z=oX S1→K48 z N2:=by
  intro z N2 kN2 hz
  rw[hK48,hz]
  clear hK48
  have hN2:=h24.post kN2
  have gN2:=kN2.get h24.wf g24 (by simp)
  have gN2':∃ cs,N2.get M1.next=some (.cells cs true)∧cs.length=2:=by
   obtain⟨cs,h1,h2⟩:=g24'
   exact⟨cs,kN2.get h24.wf h1 (by simp),h2⟩
  have hkN2:aD M N2 A.wr:=hk24.trans kN2 (fun _ h _=>h) (by simp)
  refine aT (fun e=>?_) (fun e=>?_)
  ·have e:=of_decide_eq_true e
   rw[if_pos e] at hres
   rw[← hres] at hpost ⊢
   rcases hpost.code with⟨_,_,_,q1,q2,_⟩|⟨q,_⟩
   rotate_left
   ·cases q
   obtain⟨o,hoo⟩:∃ o:Nat,oX S1=o:=⟨_,(Int.toNat_of_nonneg e).symm⟩
   refine aG (lq _ gN2) ?_
   refine aG dB ?_
   refine aG jL ?_
   rw[bV]
   refine aG hN2.ldp ?_
   have q2:oX S1<nB S1:=q2
   rw[hoo] at q2 ⊢
   refine (sQ hN2 (b:=o) (by omega)).mono ?_
   rintro r N3 ⟨rfl,kN3⟩
   simp only[i64,aJ]
   refine fin N3 (o:Int) (aP S1 o:Int) (i64 0) S1 C1 m1 _ (hN2.post kN3) (hkN2.trans kN3 (fun _ h _=>h) (by simp)) ?_ ?_
   ·obtain⟨cs,h1,h2⟩:=gN2'
    exact⟨cs,kN3.get hN2.wf h1 (by simp),h2⟩
   ·intro N4 h4 hk4 hres4
    unfold aA at hres4 ⊢
    cases he:fO tb [.c 101 (.ptr M1.next 0),.v (i64 0)] N4 with
    | none=>rw[he] at hres4;exact hres4.elim
    | some v=>
      rw[he] at hres4
      simp only[i64] at he
      rw[he]
      refine⟨C1,m1,?_,h4,hk4⟩
      unfold aFQ
      rw[if_pos rfl]
      have:v= .tup [bB (o:Int) (aP S1 o:Int),i64 0]:=hres4
      rw[this]
      rfl
  ·have e:=of_decide_eq_false e
   rw[if_neg e] at hres
   obtain⟨q1,q2⟩:=aSc hpre1 e
   rcases hkS with⟨hk0,rfl⟩|⟨hk0,hprog,_,_⟩
   rotate_left
   ·exact absurd (aSt hpre1 hprog) (by omega)
   obtain⟨cp,cpr⟩:=aGP h0 q1 q2
   refine aG (lq _ gN2) ?_
   refine (aIc hN2 h0 q1 q2 (by omega)).mono ?_
   rintro r M62 ⟨C',m',rfl,h62,k62⟩
   rw[eAw] at k62
   simp only[i64,aJ]
   have hwr1:M1.next∉A.wr:=fun hm=>by have:=hwlt _ hm;omega
   have hwr0:M.next∉A.wr:=fun hm=>by have:=hwlt _ hm;omega
   have kk:aD M M62 A.wr:=hkN2.trans k62 (fun _ h _=>h) (fun _ h _=>h)
   have g62':∃ cs,M62.get M1.next=some (.cells cs true)∧cs.length=2:=by
    obtain⟨cs,h1,h2⟩:=gN2'
    exact⟨cs,k62.get hN2.wf h1 hwr1,h2⟩
   refine aT (fun e3=>?_) (fun e3=>?_)
   ·have e3:(cP S1).2≠0:=by simpa using e3
    rw[if_pos e3] at hres
    rw[← hres]
    refine fin M62 0 0 (i64 (cP S1).2) _ C' m' _ h62 kk g62' ?_
    intro N4 h4 hk4 hres4
    unfold aA at hres4 ⊢
    cases he:fO tb [.c 101 (.ptr M1.next 0),.v (i64 (cP S1).2)] N4 with
    | none=>rw[he] at hres4;exact hres4.elim
    | some v=>
      rw[he] at hres4
      simp only[i64] at he
      rw[he]
      refine⟨C',m',?_,h4,hk4⟩
      unfold aFQ
      rw[if_neg e3]
      exact hres4
   ·have e3:(cP S1).2=0:=by simpa using e3
    rw[if_neg (by rw[e3];simp)] at hres
    have hcop:=cp.ops
    rcases cp.code with⟨_,c2,c3,c4,_⟩|⟨c1,_⟩
    ·refine⟨_,by omega,k+1,_,C',m',dE (by omega),rfl,h62,kk,hres,k62.get hN2.wf gN2 hwr0,g62',.inr ⟨by omega,cpr e3,⟨cp.inv,by rw[cp.env.g];exact c3,by rw[cp.env.g];have:=h0.phi;omega,by omega⟩,cp.env.nB⟩⟩
    ·rw[e3] at c1;cases c1
 clear hK48
 refine bE fun K40 hK40=>?_
 have key40:∀ (t:Bool) (N2:aC),aD M26 N2 []→t=(decide (cK (cX S1) (nB S1)<0)&&decide ((kG S1:Int)>eV S1))→K40 t N2:=by
  intro t N2 kN2 ht
  rw[hK40]
  clear hK40
  have hox:oX S1=if t=true then cD S1 else cK (cX S1) (nB S1):=by rw[ht];rfl
  refine aT (fun e=>?_) (fun e=>?_)
  ·rw[if_pos e] at hox
   refine aG (lq _ (kN2.get h24.wf g24 (by simp))) ?_
   refine (aGo (h24.post kN2)).mono ?_
   rintro r N3 ⟨rfl,kN3⟩
   exact⟨_,_,rfl,key48 _ _ (kN2.trans0 kN3) hox.symm⟩
  ·rw[if_neg (by rw[e];simp)] at hox
   exact key48 _ _ kN2 hox.symm
 clear hK40
 refine aT (fun e=>?_) (fun e=>⟨trivial,key40 _ _ (aD.refl h24.wf) (by rw[e];rfl)⟩)
 refine aG (lq _ g24) ?_
 refine aG (lq _ g24) ?_
 refine aG (lq _ g24) ?_
 refine (aIY h24 (is:=fD S1) (wR aJL fun N' b hb _ hN'=>aFa hN' hb)).mono ?_
 rintro r M32 ⟨rfl,k32⟩
 simp only[i64,aJ]
 have h32:=h24.post k32
 refine⟨aG (lq _ (k32.get h24.wf g24 (by simp))) rfl,?_⟩
 refine (aD6 h32).mono ?_
 rintro r M36 ⟨rfl,k36⟩
 simp only[i64,aJ]
 exact key40 _ _ (k32.trans0 k36) (by rw[e];rfl)
end
end Go.Proofs.YteaogiidncpofaaGreat
