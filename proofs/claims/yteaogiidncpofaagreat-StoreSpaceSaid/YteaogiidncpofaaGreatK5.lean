import Derived.Test.YteaogiidncpofaaGreatK3
import Derived.Test.YteaogiidncpofaaGreatK4
set_option linter.unusedSimpArgs false
set_option linter.unusedVariables false
set_option linter.unusedSectionVars false
set_option maxRecDepth 100000
namespace Go.Proofs.YteaogiidncpofaaGreat
open Go.AM
section
variable {A:bL} {M:aC} {S:Ps} {C:aQ} {m:List iK}
theorem aMx(S:Ps)(t:Tg)(d:List (BitVec 8)):gL S t d=if (bA S).2.2≠0 then ((bA S).1,(bA S).2.2) else lB (bA S).1 (bA S).2.1.toNat { t with e:=(bA S).1.now } d:=rfl
theorem aOv(h:FR A M S C m)(h0:Pre S (nB S+1))(ho:S.ops+3000≤1000000000){t:Tg}{x:AV}{d:List (BitVec 8)}
 (hok:∀ s:Int,0≤s∧s≤4294967295→wD d t.k t.p s S.now=true) (hd:(d.length:Int)=S.g.by') (hp:t.k≠3→t.p<eL S.g) (he:S.now≤S.ep) (hx:aI M x d) (hone:x.one=true) (hxa:∀ c,aN x c→c∉A.av):
 aB tb.P 111 [.ptr A.f 0,tgA t,x] M fun y N=>∃ C' m',y=i64 (gL S t d).2∧FR A N (gL S t d).1 C' m'∧aD M N A.wr:=by
 have hg:=h.geo
 have hpost:=aFG h0
 have hop:=hpost.ops
 refine aN1 ?_
 unfold F111
 refine⟨_,_,_,_,rfl,?_⟩
 refine bE fun M5 hM5=>?_
 have e5:M5=M.new (.cells (jV t) true):=hM5
 have k5:aD M M5 []:=by rw[e5];exact aD.new h.wf _
 have g5:M5.get M.next=some (.cells (jV t) true):=by rw[e5];exact get_new _ _
 clear hM5 e5
 have hwlt:∀ c∈A.wr,c<M.next:=h.lt
 have hwr:M.next∉A.wr:=fun hm=>by have:=hwlt _ hm;omega
 have eA:∃ A':bL,FR A' M S C m∧A'.f=A.f∧A'.wr=A.wr∧M.next∈A'.ext∧(∀ {N:aC} {S:Ps} {C:aQ} {m:List iK},FR A' N S C m→FR A N S C m)∧∀ c,aN x c→c∉A'.av:=
  ⟨_,h.aside (T:=[M.next]) (fun c hc=>by rw[List.mem_singleton] at hc;omega),rfl,rfl,by simp,fun h=>h.back,fun c hc hm=>by
   simp only[bL.av,List.mem_append,List.mem_singleton] at hm
   have hlt:=aO.blk_lt hx h.wf hc
   rcases hm with hm|hm|hm
   ·exact hxa c hc (by simp only[bL.av,List.mem_append];exact .inl hm)
   ·omega
   ·exact hxa c hc (by simp only[bL.av,List.mem_append];exact .inr hm)⟩
 obtain⟨A',hX,eAf,eAw,eAx,eAb,eAd⟩:=eA
 have h5:=hX.post k5
 rw[← eAf]
 refine (aN4 h5 h0 ho).mono ?_
 rintro y M7 ⟨C1,m1,rfl,h7,k7⟩
 rw[eAw] at k7
 have g7:=k7.get k5.wf g5 hwr
 have K7:aD M M7 A.wr:=(k5.mono (S':=A.wr) (by simp)).trans k7 (fun _ h _=>h) (fun _ h _=>h)
 rw[aMx]
 have box:∀ (a c:Int),∃ M12:aC,M7.new (.cells [i64 0,i64 0] true)=M7.new (.cells [i64 0,i64 0] true)∧cL tb 101 (.ptr M7.next 0) (bB a c) (M7.new (.cells [i64 0,i64 0] true))=some (eY,M12)∧aD M7 M12 []∧M12.get M7.next=some (.cells [i64 a,i64 c] true):=fun a c=>by
  have k11:aD M7 (M7.new (.cells [i64 0,i64 0] true)) []:=aD.new h7.wf _
  exact⟨_,rfl,fR a c (get_new _ _) rfl,xD k11 (Nat.le_refl _) (Nat.lt_succ_self _) _,by rw[aC.get_put,if_pos rfl]⟩
 by_cases hc0:(bA S).2.2=0
 ·rw[if_neg (by rw[hc0];simp)]
  have hpl:aFQ (bA S)= .tup [bB (bA S).2.1 (aP (bA S).1 (bA S).2.1.toNat:Int),i64 0]:=by unfold aFQ;rw[if_pos hc0]
  rw[hpl]
  rcases hpost.code with⟨_,p2,p3,q1,q2,q3,q4,_⟩|⟨q,_⟩
  rotate_left
  ·rw[hc0] at q;cases q
  obtain⟨o,hoo⟩:∃ o:Nat,(bA S).2.1=o:=⟨_,(Int.toNat_of_nonneg q1).symm⟩
  rw[hoo] at q2 q3 q4 ⊢
  rw[Int.toNat_natCast] at q3 q4 ⊢
  refine⟨_,_,_,rfl,?_⟩
  refine bE fun M11 hM11=>?_
  obtain⟨M12,_,b1,b2,b3⟩:=box (o:Int) (aP (bA S).1 o:Int)
  rw[show M11=M7.new (.cells [i64 0,i64 0] true) from hM11]
  refine aG b1 ?_
  simp only[bne_self_eq_false,fG]
  have h12:=h7.post b2
  have g12:=b2.get h7.wf g7 (by simp)
  have fa8:∀ N,cG tb 99 (.ptr A'.f 0) 8 N=some (.ptr A'.f 12,N):=fun N=>bW (by unfold eZf;rw[aBw];rfl)
  refine aG dB ?_
  refine aG (fa8 _) ?_
  rw[bV]
  refine aG (aS (eB dX rfl h12.fl (o:=12) (v:=i64 (bA S).1.now) rfl)) ?_
  simp only[i64,aJ]
  refine aG (oF (dK dX rfl rfl g12 (by simp[jV]))) ?_
  have hset:(jV t).set 3 (.val (.int .i64 (bA S).1.now))=jV { t with e:=(bA S).1.now }:=rfl
  rw[hset]
  have hn12:M.next<M12.next:=h12.wf _ _ g12
  have kp:aD M12 (M12.put M.next (.cells (jV { t with e:=(bA S).1.now }) true)) [M.next]:=aD.put h12.wf hn12 _
  have h19:=h12.keepX kp fun c hc=>by
   rw[List.mem_singleton] at hc
   subst hc
   exact⟨eAx,by rw[eAw];exact hwr⟩
  have g19:(M12.put M.next (.cells (jV { t with e:=(bA S).1.now }) true)).get M.next=some (.cells (jV { t with e:=(bA S).1.now }) true):=by rw[aC.get_put,if_pos rfl]
  have n7:M.next<M7.next:=h7.wf _ _ g7
  have b3':(M12.put M.next (.cells (jV { t with e:=(bA S).1.now }) true)).get M7.next=some (.cells [i64 (o:Int),i64 (aP (bA S).1 o:Int)] true):=by rw[aC.get_put,if_neg (by omega)];exact b3
  have K19:aD M (M12.put M.next (.cells (jV { t with e:=(bA S).1.now }) true)) A.wr:=(K7.trans b2 (fun _ h _=>h) (by simp)).trans kp (fun _ h _=>h) (fun c hc hlt=>by rw[List.mem_singleton] at hc;omega)
  generalize M12.put M.next (.cells (jV { t with e:=(bA S).1.now }) true)=M19 at*
  refine aG (aS (bO b3').2.2) ⟨_,_,rfl,?_⟩
  refine aG (aS (hU g19).2.2.2.2) ⟨_,_,_,_,rfl,?_⟩
  have hnow:(bA S).1.now=S.now:=hpost.env.now
  have hgg:(bA S).1.g=S.g:=hpost.env.g
  have hx19:aI M19 x d:=aO.keep hx h.wf K19 fun c hc hm=>hxa c hc (bL.wr_av hm)
  refine (aBR h19 (t:={ t with e:=(bA S).1.now }) (by omega) q3 q4 (by omega) (fun s hs=>by simp only;rw[hnow];exact hok s hs) (by rw[hgg];exact hd) (by rw[hgg];exact hp) (by simp only;rw[hnow,hpost.env.ep];exact he) hx19 hone eAd).mono ?_
  rintro y N ⟨C2,m2,rfl,hN,kN⟩
  rw[eAw] at kN
  simp only[i64,aJ]
  exact⟨C2,m2,by trivial,eAb hN,K19.trans kN (fun _ h _=>h) (fun _ h _=>h)⟩
 ·rw[if_pos hc0]
  have hpl:aFQ (bA S)= .tup [bB 0 0,i64 (bA S).2.2]:=by unfold aFQ;rw[if_neg hc0]
  rw[hpl]
  refine⟨_,_,_,rfl,?_⟩
  refine bE fun M11 hM11=>?_
  obtain⟨M12,_,b1,b2,b3⟩:=box 0 0
  rw[show M11=M7.new (.cells [i64 0,i64 0] true) from hM11]
  refine aG b1 ?_
  refine aT (fun _=>?_) (fun e=>?_)
  ·exact⟨C1,m1,rfl,eAb (h7.post b2),K7.trans b2 (fun _ h _=>h) (by simp)⟩
  ·have e:(bA S).2.2=0:=by simpa using e
   exact absurd e hc0
end
set_option maxRecDepth 100000
structure aOk (S:Ps) (t:Tg) (d:List (BitVec 8)) (r:Ps×Int):Prop where
 inv:eW r.1
 env:rW S r.1
 ops:S.ops≤r.1.ops∧r.1.ops≤S.ops+9*(nB S+1)+1
 lostM:∀ c,bC S c=true→bC r.1 c=true
 code:(r.2=0∧r.1.deg=S.deg∧(dD r.1:Int)≤S.g.sp∧2+S.g.sp≤phi r.1∧∃ (S1:Ps) (o:Nat),jE S S1∧rW S S1∧eW S1∧o<S1.x.length∧r.1=bM S1 o { t with e:=S.now } d)∨
  (r.2=12∧r.1.deg=true∧S.g.sp<(dD r.1:Int)∧(jE S r.1∨∃ (S1:Ps) (o:Nat),jE S S1∧rW S S1∧eW S1∧o<S1.x.length∧r.1={ bM S1 o { t with e:=S.now } d with deg:=true }))
theorem aJ8(S:Ps)(t:Tg)(d:List (BitVec 8)):gL S t d=if (bA S).2.2≠0 then ((bA S).1,(bA S).2.2) else lB (bA S).1 (bA S).2.1.toNat { t with e:=(bA S).1.now } d:=rfl
theorem aFu{S:Ps}(h:Pre S (nB S+1)){t:Tg}{d:List (BitVec 8)}(hok:∀ s:Int,0≤s∧s≤4294967295→wD d t.k t.p s S.now=true)(hd:(d.length:Int)=S.g.by')(hp:t.k≠3→t.p<eL S.g)(he:S.now≤S.ep):aOk S t d (gL S t d):=by
 have hpl:=aFG h
 have hop:=hpl.ops
 have hop0:=h.ops
 have hseq:=hpl.inv.seq
 rw[aJ8]
 rcases hpl.code with⟨c1,c2,c3,q1,q2,q3,q4,q5⟩|⟨c1,c2,c3⟩
 ·rw[if_neg (by rw[c1];simp)]
  obtain⟨o,hoo⟩:∃ o:Nat,(bA S).2.1=o:=⟨_,(Int.toNat_of_nonneg q1).symm⟩
  rw[hoo] at q2 q3 q4 q5 ⊢
  rw[Int.toNat_natCast] at q3 q4 q5 ⊢
  have hnow:(bA S).1.now=S.now:=hpl.env.now
  have hg:(bA S).1.g=S.g:=hpl.env.g
  rw[hnow]
  have hx:o<(bA S).1.x.length:=by rw[hpl.inv.len];omega
  have hinv:eW (bM (bA S).1 o { t with e:=S.now } d):=hpl.inv.push (t:={ t with e:=S.now }) (by omega) q3 q4 (hok _ (by omega)) (by rw[hg];exact hd) (by rw[hg];exact hp) (by simp only;rw[hpl.env.ep];exact he)
  have henv:rW S (bM (bA S).1 o { t with e:=S.now } d):=hpl.env.trans ⟨rfl,rfl,rfl,rfl⟩
  have hlm:∀ c,bC S c=true→bC (bM (bA S).1 o { t with e:=S.now } d) c=true:=fun c hc=>(xA _ _ c).2 (hpl.lostM c hc)
  have hops:S.ops≤(bM (bA S).1 o { t with e:=S.now } d).ops∧(bM (bA S).1 o { t with e:=S.now } d).ops≤S.ops+9*(nB S+1)+1:=by
   show S.ops≤(bA S).1.ops+1∧(bA S).1.ops+1≤_
   omega
  unfold lB
  rcases sY (bM (bA S).1 o { t with e:=S.now } d) with⟨e,hw⟩|⟨e,hw⟩
  ·rw[e]
   refine⟨hinv,henv,hops,hlm,.inl ⟨rfl,c2,by rw[← henv.g];exact hw,?_,_,o,hpl.same,hpl.env,hpl.inv,hx,rfl⟩⟩
   have hphi:=aD9 (S:=(bA S).1) (b:=o) (by omega) hx { t with e:=S.now } d
   rw[hg] at q5
   show 2+S.g.sp≤(phi (bM (bA S).1 o { t with e:=S.now } d):Int)
   rcases q5 with⟨u1,u2⟩|⟨u1,u2⟩
   ·have hfl:xE (bA S).1 o=false:=by
     unfold xE
     rw[q3,Bool.false_or]
     simp;omega
    rw[hfl] at hphi
    simp only[Bool.false_eq_true,if_false] at hphi
    split at hphi <;> omega
   ·have hfl:xE (bA S).1 o=true:=by
     unfold xE
     rw[q3,Bool.false_or,u1]
     rfl
    rw[hfl] at hphi
    simp only[if_true] at hphi
    split at hphi <;> omega
  ·rw[e]
   exact⟨hinv.deg true,henv.trans ⟨rfl,rfl,rfl,rfl⟩,hops,hlm,.inr ⟨rfl,rfl,by rw[← henv.g];exact hw,.inr ⟨_,o,hpl.same,hpl.env,hpl.inv,hx,rfl⟩⟩⟩
 ·rw[if_pos (by rw[c1];simp)]
  exact⟨hpl.inv,hpl.env,⟨hop.1,by show (bA S).1.ops≤_;omega⟩,hpl.lostM,.inr ⟨c1,c2,c3,.inl hpl.same⟩⟩
theorem aEo{S:Ps}{b:Nat}(hb:b<S.x.length){t:Tg}(hk:t.k≠3)(d:List (BitVec 8)):bK (bM S b t d)=bK S:=by
 obtain⟨h1,h2,h3⟩:=eT S
 refine vI (fun b' i' u hu hk'=>?_) h2 ?_
 ·rw[aX hb] at hu
  split at hu
  ·injection hu with hu
   subst hu
   exact absurd hk' hk
  ·exact h1 _ _ _ hu hk'
 ·refine h3.imp id fun⟨b',i',u,hu,hk',e⟩=>⟨b',i',u,?_,hk',e⟩
  rw[aX hb,if_neg]
  ·exact hu
  ·rintro⟨rfl,rfl⟩
   have:=cQ hu;omega
theorem aLi{S:Ps}(hs:aFp S){b:Nat}(hb:b<S.x.length){t:Tg}(hk:t.k≠3)(hp:0≤t.p)(he:t.e=S.now)(hn:bK S<S.now)(d:List (BitVec 8))(c:Int×Bool)(b' i':Nat)(u:sD):
 jX (bM S b t d) c b' i' u↔(if c=(t.p,true) then b'=b∧i'=aP S b∧u=⟨{ t with s:=S.seq+1 },d⟩ else jX S c b' i' u):=by
 have hl:=aEo hb hk d
 have hc:∀ v,eE (bM S b t d) v=eE S v:=fun v=>by unfold eE;rw[hl];rfl
 have hct:∀ s:Int,eE S { t with s:=s }=some (t.p,true):=fun s=>by
  unfold eE lN
  simp only
  rw[if_neg hk,if_pos (by omega),if_pos he]
 have hold:∀ b1 i1 w,bI S b1 i1=some w→¬ (b1=b∧i1=aP S b):=fun b1 i1 w hw hh=>by
  have:=cQ hw
  rw[hh.1] at this
  omega
 have hclass:∀ {w:sD},eE S w.t=some (t.p,true)→w.t.e=S.now:=fun {w} hw=>by
  unfold eE lN at hw
  by_cases h3:w.t.k=3
  ·rw[if_pos h3] at hw
   injection hw with hw
   injection hw with h1 h2
   omega
  ·rw[if_neg h3] at hw
   by_cases h4:w.t.e>bK S
   ·rw[if_pos h4] at hw
    by_cases h5:w.t.e=S.now
    ·exact h5
    ·rw[if_neg h5] at hw;cases hw
   ·rw[if_neg h4] at hw
    injection hw with hw
    injection hw with _ hw
    cases hw
 unfold jX
 simp only[hc]
 by_cases e:c=(t.p,true)
 ·subst e
  rw[if_pos rfl]
  constructor
  ·rintro⟨h1,h2,h3⟩
   have h4:=h3 b (aP S b) ⟨{ t with s:=S.seq+1 },d⟩ (by rw[aX hb,if_pos ⟨rfl,rfl⟩]) (hct _)
   rw[aX hb] at h1
   split at h1
   ·rename_i hh
    injection h1 with h1
    exact⟨hh.1,hh.2,h1.symm⟩
   ·exfalso
    have h5:=hclass h2
    have h6:=hs.le _ _ _ h1
    rw[cN] at h4
    simp only at h4
    omega
  ·rintro⟨rfl,rfl,rfl⟩
   refine⟨by rw[aX hb,if_pos ⟨rfl,rfl⟩],hct _,fun b1 i1 w hw hcw=>?_⟩
   rw[aX hb] at hw
   split at hw
   ·injection hw with hw
    subst hw
    rw[cN];right;exact⟨rfl,Int.le_refl _⟩
   ·have h5:=hclass hcw
    have h6:=hs.le _ _ _ hw
    rw[cN]
    simp only
    omega
 ·rw[if_neg e]
  constructor
  ·rintro⟨h1,h2,h3⟩
   rw[aX hb] at h1
   split at h1
   ·injection h1 with h1
    subst h1
    have:=(hct (S.seq+1)).symm.trans h2
    injection this with this
    exact absurd this.symm e
   ·refine⟨h1,h2,fun b1 i1 w hw hcw=>h3 b1 i1 w ?_ hcw⟩
    rw[aX hb,if_neg (hold _ _ _ hw)]
    exact hw
  ·rintro⟨h1,h2,h3⟩
   refine⟨by rw[aX hb,if_neg (hold _ _ _ h1)];exact h1,h2,fun b1 i1 w hw hcw=>?_⟩
   rw[aX hb] at hw
   split at hw
   ·injection hw with hw
    subst hw
    have:=(hct (S.seq+1)).symm.trans hcw
    injection this with this
    exact absurd this.symm e
   ·exact h3 b1 i1 w hw hcw
theorem aMm{S:Ps}(hs:aFp S){b:Nat}(hb:b<S.x.length){t:Tg}(hk:t.k≠3)(hp:0≤t.p)(he:t.e=S.now)(hn:bK S<S.now)(d:List (BitVec 8))(c:Int×Bool)(k p e:Int)(d':List (BitVec 8)):
 tL (bM S b t d) c k p e d'↔(if c=(t.p,true) then k=t.k∧p=t.p∧e=t.e∧d'=d else tL S c k p e d'):=by
 unfold tL
 simp only[aLi hs hb hk hp he hn d]
 by_cases h:c=(t.p,true)
 ·rw[if_pos h]
  simp only[h,if_true]
  constructor
  ·rintro⟨_,_,v,⟨rfl,rfl,rfl⟩,rfl,rfl,rfl,rfl⟩
   exact⟨rfl,rfl,rfl,rfl⟩
  ·rintro⟨rfl,rfl,rfl,rfl⟩
   exact⟨_,_,_,⟨rfl,rfl,rfl⟩,rfl,rfl,rfl,rfl⟩
 ·rw[if_neg h]
  simp only[h,if_false]
structure xX (S:Ps):Prop where
 inv:eW S
 now:S.now=bK S+1
 ep:S.ep=S.now
theorem aEF{S:Ps}(h:xX S){b:Nat}(hb:b<S.x.length){t:Tg}(hk:t.k=3)(he:t.e=S.now)(d:List (BitVec 8)):bK (bM S b t d)=S.now:=by
 obtain⟨h1,h2,h3⟩:=eT S
 have h4:=h.now
 refine vI (fun b' i' u hu hk'=>?_) (by omega) (.inr ⟨b,aP S b,⟨{ t with s:=S.seq+1 },d⟩,by rw[aX hb,if_pos ⟨rfl,rfl⟩],hk,he⟩)
 rw[aX hb] at hu
 split at hu
 ·injection hu with hu
  subst hu
  show t.e≤_
  omega
 ·have:=h1 _ _ _ hu hk'
  omega
theorem aI8{S:Ps}(h:xX S){b:Nat}(hb:b<S.x.length){t:Tg}(hk:t.k=3)(he:t.e=S.now)(d:List (BitVec 8)){p:Int}(hp:0≤p)(b' i':Nat)(u:sD):
 jX (bM S b t d) (p,false) b' i' u↔jX S (p,true) b' i' u∨((∀ b1 i1 w,¬ jX S (p,true) b1 i1 w)∧jX S (p,false) b' i' u):=by
 have hl:=aEF h hb hk he d
 have hnow:=h.now
 have hep:=h.ep
 have htag:=fun b i v hv=>(h.inv.tag b i v hv).2.2.2.2
 have hold:∀ b1 i1 w,bI S b1 i1=some w→¬ (b1=b∧i1=aP S b):=fun b1 i1 w hw hh=>by
  have:=cQ hw
  rw[hh.1] at this
  omega
 have c':∀ w:Tg,w.e≤S.now→(eE (bM S b t d) w=some (p,false)↔w.k≠3∧w.p=p):=fun w hw=>by
  unfold eE lN
  rw[hl]
  by_cases h3:w.k=3
  ·rw[if_pos h3]
   simp[h3]
   omega
  ·rw[if_neg h3,if_neg (by omega)]
   simp[h3]
 have cF:∀ w:Tg,w.e≤S.now→(eE S w=some (p,false)↔w.k≠3∧w.p=p∧w.e≤bK S):=fun w hw=>by
  unfold eE lN
  by_cases h3:w.k=3
  ·rw[if_pos h3]
   simp[h3]
   omega
  ·rw[if_neg h3]
   by_cases h4:w.e>bK S
   ·rw[if_pos h4]
    split
    ·simp;omega
    ·simp;omega
   ·rw[if_neg h4]
    simp[h3]
    omega
 have cT:∀ w:Tg,w.e≤S.now→(eE S w=some (p,true)↔w.k≠3∧w.p=p∧w.e=S.now):=fun w hw=>by
  unfold eE lN
  by_cases h3:w.k=3
  ·rw[if_pos h3]
   simp[h3]
   omega
  ·rw[if_neg h3]
   by_cases h4:w.e>bK S
   ·rw[if_pos h4,if_pos (by omega)]
    simp[h3]
    omega
   ·rw[if_neg h4]
    simp
    omega
 have verp:∀ b1 i1 w,bI (bM S b t d) b1 i1=some w→w.t.e≤S.now∧(w.t.k≠3→bI S b1 i1=some w):=fun b1 i1 w hw=>by
  rw[aX hb] at hw
  split at hw
  ·injection hw with hw
   subst hw
   exact⟨by show t.e≤_;omega,fun hk'=>absurd hk hk'⟩
  ·exact⟨by have:=htag _ _ _ hw;omega,fun _=>hw⟩
 have vers:∀ b1 i1 w,bI S b1 i1=some w→bI (bM S b t d) b1 i1=some w∧w.t.e≤S.now:=fun b1 i1 w hw=>⟨by rw[aX hb,if_neg (hold _ _ _ hw)];exact hw,by have:=htag _ _ _ hw;omega⟩
 constructor
 ·rintro⟨h1,h2,h3⟩
  obtain⟨e1,e2⟩:=verp _ _ _ h1
  obtain⟨k3,kp⟩:=(c' u.t e1).1 h2
  have h1':=e2 k3
  by_cases hf:u.t.e=S.now
  ·left
   refine⟨h1',(cT u.t e1).2 ⟨k3,kp,hf⟩,fun b1 i1 w hw hcw=>?_⟩
   obtain⟨w1,w2⟩:=vers _ _ _ hw
   obtain⟨w3,w4,_⟩:=(cT w.t w2).1 hcw
   exact h3 _ _ _ w1 ((c' w.t w2).2 ⟨w3,w4⟩)
  ·right
   refine⟨fun b1 i1 w hw=>?_,h1',(cF u.t e1).2 ⟨k3,kp,by omega⟩,fun b1 i1 w hw hcw=>?_⟩
   ·obtain⟨w1,w2⟩:=vers _ _ _ hw.1
    obtain⟨w3,w4,w5⟩:=(cT w.t w2).1 hw.2.1
    have:=h3 _ _ _ w1 ((c' w.t w2).2 ⟨w3,w4⟩)
    rw[cN] at this
    omega
   ·obtain⟨w1,w2⟩:=vers _ _ _ hw
    obtain⟨w3,w4,_⟩:=(cF w.t w2).1 hcw
    exact h3 _ _ _ w1 ((c' w.t w2).2 ⟨w3,w4⟩)
 ·rintro (⟨h1,h2,h3⟩|⟨hno,h1,h2,h3⟩)
  ·obtain⟨w1,w2⟩:=vers _ _ _ h1
   obtain⟨k3,kp,ke⟩:=(cT u.t w2).1 h2
   refine⟨w1,(c' u.t w2).2 ⟨k3,kp⟩,fun b1 i1 w hw hcw=>?_⟩
   obtain⟨e1,e2⟩:=verp _ _ _ hw
   obtain⟨m3,mp⟩:=(c' w.t e1).1 hcw
   have hw':=e2 m3
   by_cases hf:w.t.e=S.now
   ·exact h3 _ _ _ hw' ((cT w.t e1).2 ⟨m3,mp,hf⟩)
   ·rw[cN];omega
  ·obtain⟨w1,w2⟩:=vers _ _ _ h1
   obtain⟨k3,kp,ke⟩:=(cF u.t w2).1 h2
   refine⟨w1,(c' u.t w2).2 ⟨k3,kp⟩,fun b1 i1 w hw hcw=>?_⟩
   obtain⟨e1,e2⟩:=verp _ _ _ hw
   obtain⟨m3,mp⟩:=(c' w.t e1).1 hcw
   have hw':=e2 m3
   by_cases hf:w.t.e=S.now
   ·obtain⟨b2,i2,v2,hb2⟩:=aC8 hw' ((cT w.t e1).2 ⟨m3,mp,hf⟩)
    exact absurd hb2 (hno _ _ _)
   ·exact h3 _ _ _ hw' ((cF w.t e1).2 ⟨m3,mp,by omega⟩)
theorem aLA{S:Ps}(h:xX S){b:Nat}(hb:b<S.x.length){t:Tg}(hk:t.k=3)(he:t.e=S.now)(d:List (BitVec 8)){p:Int}(hp:0≤p)(k q e:Int)(d':List (BitVec 8)):
 tL (bM S b t d) (p,false) k q e d'↔tL S (p,true) k q e d'∨((∀ k q e d',¬ tL S (p,true) k q e d')∧tL S (p,false) k q e d'):=by
 unfold tL
 simp only[aI8 h hb hk he d hp]
 constructor
 ·rintro⟨b1,i1,v,h1|⟨h1,h2⟩,h3⟩
  ·exact .inl ⟨b1,i1,v,h1,h3⟩
  ·refine .inr ⟨?_,b1,i1,v,h2,h3⟩
   rintro k q e d' ⟨b2,i2,w,h4,_⟩
   exact h1 _ _ _ h4
 ·rintro (⟨b1,i1,v,h1,h3⟩|⟨h1,b1,i1,v,h2,h3⟩)
  ·exact⟨b1,i1,v,.inl h1,h3⟩
  ·exact⟨b1,i1,v,.inr ⟨fun b2 i2 w hw=>h1 _ _ _ _ ⟨b2,i2,w,hw,rfl,rfl,rfl,rfl⟩,h2⟩,h3⟩
abbrev bZ:=List (BitVec 8)
def fW(g:eF):bZ:=List.replicate g.by'.toNat 0#8
def iP(P:Int→Option (Option bZ))(B:Int→Option bZ)(z:bZ)(n:Nat):Option (Tg×bZ):=match P n with
 | some (some d)=>some (⟨1,n,0,0⟩,d)
 | some none=>if (B n).isSome=true then some (⟨2,n,0,0⟩,z) else none
 | none=>none
def gU(ac:Nat→Option (Tg×bZ)):Nat→Nat→Ps→Ps×Int
 | 0,_,S=>(S,0)
 | k+1,n,S=>match ac n with
   | none=>gU ac k (n+1) S
   | some (t,d)=>if (gL S t d).2≠0 then gL S t d else gU ac k (n+1) (gL S t d).1
def qH:Tg:=⟨3,0,0,0⟩
def lH(S:Ps)(ac:Nat→Option (Tg×bZ)):Ps×Int:=
 if (gU ac (nB S*nG S) 0 S).2≠0 then gU ac (nB S*nG S) 0 S else gL (gU ac (nB S*nG S) 0 S).1 qH (fW S.g)
def bG(S:Ps):Ps:={ S with ep:=S.ep+1,now:=S.ep+1 }
def kL(S:Ps)(ac:Nat→Option (Tg×bZ)):Ps×Int:=
 if (lH (bG S) ac).2≠0 then ({ (lH (bG S) ac).1 with now:=0 },(lH (bG S) ac).2) else mO { (lH (bG S) ac).1 with now:=0 }
theorem aNd{S:Ps}{x:Int}{t:Tg}{p:Int}:eE { S with now:=x } t=some (p,false)↔eE S t=some (p,false):=by
 have hl:bK { S with now:=x }=bK S:=rfl
 unfold eE lN
 rw[hl]
 by_cases h3:t.k=3
 ·rw[if_pos h3,if_pos h3]
 ·rw[if_neg h3,if_neg h3]
  by_cases h4:t.e>bK S
  ·rw[if_pos h4,if_pos h4]
   constructor
   ·intro h;split at h <;> simp at h
   ·intro h;split at h <;> simp at h
  ·rw[if_neg h4,if_neg h4]
theorem aCD{S:Ps}{x:Int}{p k q e:Int}{d:bZ}:tL { S with now:=x } (p,false) k q e d↔tL S (p,false) k q e d:=by
 unfold tL jX
 simp only[aNd]
 exact Iff.rfl
def eH(S:Ps)(B:Int→Option bZ):Prop:=∀ p:Int,0≤p→∀ d,B p=some d↔∃ e,tL S (p,false) 1 p e d
theorem eH.same{S S':Ps}{B:Int→Option bZ}(h:eH S B)(hs:jE S S'):eH S' B:=fun p hp d=>by
 rw[h p hp d]
 exact⟨fun⟨e,he⟩=>⟨e,(hs.has _ _ _ _ _).2 he⟩,fun⟨e,he⟩=>⟨e,(hs.has _ _ _ _ _).1 he⟩⟩
theorem eH.now{S:Ps}{B:Int→Option bZ}(h:eH S B)(x:Int):eH { S with now:=x } B:=fun p hp d=>by
 rw[h p hp d]
 exact⟨fun⟨e,he⟩=>⟨e,aCD.2 he⟩,fun⟨e,he⟩=>⟨e,aCD.1 he⟩⟩
theorem eH.deg{S:Ps}{B:Int→Option bZ}(h:eH S B)(x:Bool):eH { S with deg:=x } B:=h.same (jE.deg S x)
def jO(P:Int→Option (Option bZ))(B:Int→Option bZ)(n:Int):Option bZ:=match P n with
 | some x=>x
 | none=>B n
structure aA1 (g:eF) (P:Int→Option (Option bZ)):Prop where
 rng:∀ n x,P n=some x→0≤n∧n<eL g
 len:∀ n d,P n=some (some d)→(d.length:Int)=g.by'
structure tY (S:Ps):Prop where
 inv:eW S
 now:S.now=0
 ep:S.ep=bK S
 lost:(dD S:Int)≤S.g.sp
 phi:2+S.g.sp≤phi S
def dQ(S:Ps):Int:=9*(nB S+1)+1
structure Pts (S0:Ps) (ac:Nat→Option (Tg×bZ)) (n:Nat) (S:Ps):Prop where
 und:xX S
 env:rW S0 S
 deg:S.deg=S0.deg
 lost:(dD S:Int)≤S.g.sp
 phi:2+S.g.sp≤phi S
 ops:S0.ops≤S.ops∧S.ops≤S0.ops+dQ S0*n
 last:bK S=bK S0
 lostM:∀ c,bC S0 c=true→bC S c=true
 old:∀ p k q e d,0≤p→(tL S (p,false) k q e d↔tL S0 (p,false) k q e d)
 new:∀ p k q e d,0≤p→(tL S (p,true) k q e d↔∃ t,p<n∧ac p.toNat=some (t,d)∧k=t.k∧q=p∧e=S0.now)
structure aBK (g:eF) (now:Int) (ac:Nat→Option (Tg×bZ)):Prop where
 k:∀ n t d,ac n=some (t,d)→(t.k=1∨t.k=2)∧t.p=n∧(n:Int)<eL g∧(d.length:Int)=g.by'
theorem tR{g:eF}(hg:dV g=true){now:Int}(hn:0≤now∧now≤16777215){k p:Int}{d:bZ}(hk:(k=1∨k=2)∧0≤p∧p<eL g∨k=3∧p=0)(hd:(d.length:Int)=g.by')(s:Int)(hs:0≤s∧s≤4294967295):wD d k p s now=true:=by
 have hm:=bP.1 hg
 obtain⟨_,h2⟩:=vD hg
 have h3:(g.bl-g.sp-3)*g.pg≤20*8:=Int.mul_le_mul (by omega) (by omega) (by omega) (by omega)
 refine aFH ⟨by omega,by omega,by omega,by omega,by omega,fun _=>by omega,by omega,by omega,by omega,by omega⟩
structure aRO (S0 S:Ps):Prop where
 inv:eW S
 env:rW S0 S
 deg:S.deg=true
 lost:S.g.sp<(dD S:Int)
theorem aAj{S S1:Ps}(h:xX S)(hs:jE S S1)(he:rW S S1)(hi:eW S1):xX S1:=⟨hi,by rw[hs.now,hs.last];exact h.now,by rw[he.ep,hs.now];exact h.ep⟩
theorem aDM{S0 S:Ps}{ac:Nat→Option (Tg×bZ)}{n:Nat}(h:Pts S0 ac n S)(hac:aBK S0.g S0.now ac)(hn:0≤S0.now∧S0.now≤16777215)(hops:S0.ops+dQ S0*161+1000≤4294967295)(hn160:n<160){t:Tg}{d:bZ}(hat:ac n=some (t,d)):
 ((gL S t d).2=0∧Pts S0 ac (n+1) (gL S t d).1)∨
 ((gL S t d).2=12∧aRO S0 (gL S t d).1∧bK (gL S t d).1=bK S0∧(S0.ops≤(gL S t d).1.ops∧(gL S t d).1.ops≤S0.ops+dQ S0*(n+1))∧∀ p k q e d',0≤p→(tL (gL S t d).1 (p,false) k q e d'↔tL S0 (p,false) k q e d')):=by
 obtain⟨k1,k2,k3,k4⟩:=hac.k n t d hat
 have hnb:=h.env.nB
 have hg:=h.env.g
 have hnow:=h.env.now
 have hop:=h.ops
 have hge:=h.und.inv.geo
 have hK:dQ S0*(n+1:Nat)=dQ S0*n+dQ S0:=by rw[Int.natCast_add,Int.mul_add];omega
 have hK0:dQ S0=9*(nB S0+1)+1:=rfl
 have hKn:dQ S0*n≤dQ S0*160:=Int.mul_le_mul_of_nonneg_left (by omega) (by omega)
 have hpre:Pre S (nB S+1):=⟨h.und.inv,h.lost,h.phi,by omega⟩
 have hok:∀ s:Int,0≤s∧s≤4294967295→wD d t.k t.p s S.now=true:=fun s hs=>tR (g:=S.g) h.und.inv.may (by rw[hnow];exact hn) (.inl ⟨k1,by omega,by rw[hg];omega⟩) (by rw[hg];exact k4) s hs
 have hp:=aFu hpre hok (by rw[hg];exact k4) (fun _=>by rw[hg,k2];exact k3) (by rw[h.und.ep];omega)
 have hpop:=hp.ops
 have hne3:t.k≠3:=by omega
 have hp0:0≤t.p:=by omega
 have key:∀ (S1:Ps) (o:Nat),jE S S1→rW S S1→eW S1→o<S1.x.length→
  (bK (bM S1 o { t with e:=S.now } d)=bK S0)∧
  (∀ p k q e d',0≤p→(tL (bM S1 o { t with e:=S.now } d) (p,false) k q e d'↔tL S0 (p,false) k q e d'))∧
  (∀ p k q e d',0≤p→(tL (bM S1 o { t with e:=S.now } d) (p,true) k q e d'↔∃ t',p<(n+1:Nat)∧ac p.toNat=some (t',d')∧k=t'.k∧q=p∧e=S0.now)):=by
  intro S1 o hs he hi ho
  have hu1:=aAj h.und hs he hi
  have hn1:S.now=S1.now:=hs.now.symm
  have hlt:bK S1<S1.now:=by have:=hu1.now;omega
  have hh:=aMm hi.sq ho (t:={ t with e:=S.now }) hne3 hp0 hn1 hlt d
  refine⟨(aEo ho (t:={ t with e:=S.now }) hne3 d).trans (hs.last.trans h.last),fun p k q e d' hp=>?_,fun p k q e d' hp=>?_⟩
  ·rw[hh,if_neg (by intro e;injection e with _ e;cases e),hs.has,h.old _ _ _ _ _ hp]
  ·rw[hh]
   by_cases hpn:p=n
   ·have hpt:((p,true):Int×Bool)=(t.p,true):=by rw[k2,hpn]
    rw[if_pos hpt]
    constructor
    ·rintro⟨rfl,rfl,rfl,rfl⟩
     refine⟨t,by omega,?_,rfl,by show t.p=p;omega,hnow⟩
     rw[hpn,Int.toNat_natCast];exact hat
    ·rintro⟨t',_,e1,e2,e3,e4⟩
     rw[hpn,Int.toNat_natCast,hat] at e1
     injection e1 with e1
     injection e1 with e1 e1'
     subst e1 e1'
     exact⟨e2,by show q=t.p;omega,by rw[e4,← hnow],rfl⟩
   ·rw[if_neg (by intro e;injection e with e _;exact hpn (e.trans k2)),hs.has,h.new _ _ _ _ _ hp]
    constructor
    ·rintro⟨t',h1,h2⟩
     exact⟨t',by omega,h2⟩
    ·rintro⟨t',h1,h2⟩
     exact⟨t',by omega,h2⟩
 rcases hp.code with⟨c1,c2,c3,c4,S1,o,hs,he,hi,ho,hr⟩|⟨c1,c2,c3,hr⟩
 ·left
  obtain⟨a1,a2,a3⟩:=key S1 o hs he hi ho
  rw[← hr] at a1 a2 a3
  refine⟨c1,⟨hp.inv,by rw[hp.env.now,a1,hnow];have:=h.und.now;rw[hnow,h.last] at this;exact this,by rw[hp.env.ep,hp.env.now];exact h.und.ep⟩,h.env.trans hp.env,c2.trans h.deg,by rw[hp.env.g];exact c3,by rw[hp.env.g];exact c4,⟨by omega,by rw[hK];rw[hnb] at hpop;omega⟩,a1,fun c hc=>hp.lostM c (h.lostM c hc),a2,a3⟩
 ·right
  refine⟨c1,⟨hp.inv,h.env.trans hp.env,c2,by rw[hp.env.g];exact c3⟩,?_⟩
  have hops':S0.ops≤(gL S t d).1.ops∧(gL S t d).1.ops≤S0.ops+dQ S0*(n+1):=by
   have:dQ S0*((n:Int)+1)=dQ S0*n+dQ S0:=by rw[Int.mul_add];omega
   rw[this];rw[hnb] at hpop;omega
  rcases hr with hr|⟨S1,o,hs,he,hi,ho,hr⟩
  ·exact⟨hr.last.trans h.last,hops',fun p k q e d' hp=>by rw[hr.has,h.old _ _ _ _ _ hp]⟩
  ·obtain⟨a1,a2,a3⟩:=key S1 o hs he hi ho
   have hd:=jE.deg (bM S1 o { t with e:=S.now } d) true
   refine⟨?_,hops',fun p k q e d' hp=>?_⟩
   ·rw[hr];exact hd.last.trans a1
   ·rw[hr,hd.has,a2 _ _ _ _ _ hp]
theorem Pts.skip{S0 S:Ps}{ac:Nat→Option (Tg×bZ)}{n:Nat}(h:Pts S0 ac n S)(hat:ac n=none):Pts S0 ac (n+1) S:=by
 have hK0:dQ S0=9*(nB S0+1)+1:=rfl
 have hK:dQ S0*(n+1:Nat)=dQ S0*n+dQ S0:=by rw[Int.natCast_add,Int.mul_add];omega
 have hop:=h.ops
 refine⟨h.und,h.env,h.deg,h.lost,h.phi,⟨hop.1,by rw[hK];omega⟩,h.last,h.lostM,h.old,fun p k q e d hp=>?_⟩
 rw[h.new _ _ _ _ _ hp]
 constructor
 ·rintro⟨t,h1,h2⟩
  exact⟨t,by omega,h2⟩
 ·rintro⟨t,h1,h2,h3⟩
  refine⟨t,?_,h2,h3⟩
  by_cases e:p=n
  ·rw[e,Int.toNat_natCast,hat] at h2;cases h2
  ·omega
theorem yY{S0:Ps}{ac:Nat→Option (Tg×bZ)}(hac:aBK S0.g S0.now ac)(hn:0≤S0.now∧S0.now≤16777215)(hops:S0.ops+dQ S0*161+1000≤4294967295):∀ (k n:Nat) (S:Ps),k+n≤160→Pts S0 ac n S→
 ((gU ac k n S).2=0∧Pts S0 ac (k+n) (gU ac k n S).1)∨
 ((gU ac k n S).2=12∧aRO S0 (gU ac k n S).1∧bK (gU ac k n S).1=bK S0∧(S0.ops≤(gU ac k n S).1.ops∧(gU ac k n S).1.ops≤S0.ops+dQ S0*(k+n:Nat))∧∀ p k' q e d',0≤p→(tL (gU ac k n S).1 (p,false) k' q e d'↔tL S0 (p,false) k' q e d'))
 | 0,n,S,_,h=> .inl ⟨rfl,by rw[Nat.zero_add];exact h⟩
 | k+1,n,S,hk,h=>by
   have hadd:k+1+n=k+(n+1):=by omega
   rw[hadd,gU]
   cases hat:ac n with
   | none=>exact yY hac hn hops k (n+1) S (by omega) (h.skip hat)
   | some td=>
     obtain⟨t,d⟩:=td
     simp only
     rcases aDM h hac hn hops (by omega) hat with⟨c,hp⟩|⟨c,hf,hl,ho,hh⟩
     ·rw[if_neg (by rw[c];simp)]
      exact yY hac hn hops k (n+1) _ (by omega) hp
     ·rw[if_pos (by rw[c];simp)]
      have hK0:dQ S0=9*(nB S0+1)+1:=rfl
      have hm:dQ S0*((n:Int)+1)≤dQ S0*((k+(n+1):Nat):Int):=Int.mul_le_mul_of_nonneg_left (by omega) (by omega)
      exact .inr ⟨c,hf,hl,⟨ho.1,by omega⟩,hh⟩
theorem pL{g:eF}(h:dV g=true):((fW g).length:Int)=g.by':=by
 have:=bP.1 h
 unfold fW
 rw[List.length_replicate]
 omega
theorem aFw{g:eF}(hg:dV g=true){now:Int}{P:Int→Option (Option bZ)}{B:Int→Option bZ}(hP:aA1 g P):aBK g now (iP P B (fW g)):=by
 refine⟨fun n t d h=>?_⟩
 unfold iP at h
 split at h
 ·rename_i d' e
  injection h with h
  injection h with h1 h2
  subst h1 h2
  have:=hP.rng n _ e
  exact⟨.inl rfl,rfl,this.2,hP.len n _ e⟩
 ·rename_i e
  split at h
  ·injection h with h
   injection h with h1 h2
   subst h1 h2
   have:=hP.rng n _ e
   exact⟨.inr rfl,rfl,this.2,pL hg⟩
  ·cases h
 ·cases h
theorem tY.begin{S:Ps}{ac:Nat→Option (Tg×bZ)}(h:tY S):xX (bG S)∧Pts (bG S) ac 0 (bG S):=by
 have hl:bK (bG S)=bK S:=rfl
 have hep:=h.ep
 have h0:=(eT S).2.1
 have hu:xX (bG S):=⟨⟨h.inv.may,h.inv.len,h.inv.pgs,⟨h.inv.sq.le,h.inv.sq.one⟩,fun b i v hv=>by
  obtain⟨a1,a2,a3,a4,a5⟩:=h.inv.tag b i v hv
  exact⟨a1,a2,a3,a4,by show v.t.e≤S.ep+1;omega⟩,h.inv.bad,h.inv.seq,h.inv.cnt⟩,by rw[hl];show S.ep+1=_;omega,rfl⟩
 refine⟨hu,hu,rW.refl _,rfl,h.lost,h.phi,⟨Int.le_refl _,by simp⟩,rfl,fun _ h=>h,fun _ _ _ _ _ _=>Iff.rfl,fun p k q e d hp=>⟨?_,fun⟨t,h1,_⟩=>by omega⟩⟩
 rintro⟨b,i,v,hb,_⟩
 have hv:bI S b i=some v:=hb.1
 have he:=(h.inv.tag b i v hv).2.2.2.2
 have hc:=hb.2.1
 unfold eE lN at hc
 rw[hl] at hc
 by_cases h3:v.t.k=3
 ·rw[if_pos h3] at hc
  injection hc with hc
  injection hc with hc _
  omega
 ·rw[if_neg h3,if_neg (by omega)] at hc
  injection hc with hc
  injection hc with _ hc
  cases hc
theorem eH.rng{S:Ps}{B:Int→Option bZ}(h:eH S B)(hi:eW S){p:Int}(hp:0≤p){d:bZ}(hb:B p=some d):p<eL S.g∧(d.length:Int)=S.g.by':=by
 obtain⟨e,b,i,v,hv,h1,h2,h3,h4⟩:=(h p hp d).1 hb
 obtain⟨_,a2,_,a4,_⟩:=hi.tag b i v hv.1
 rw[h4] at a2
 exact⟨by have:=a4 (by omega);omega,a2⟩
theorem mH{S:Ps}{p k q e:Int}{d:bZ}:tL (bG S) (p,false) k q e d↔tL S (p,false) k q e d:=aCD (S:={ S with ep:=S.ep+1 }) (x:=S.ep+1)
structure aPr (S:Ps) (P:Int→Option (Option bZ)) (B:Int→Option bZ) (r:Ps×Int):Prop where
 env:r.1.g=S.g∧r.1.fs=S.fs
 inv:eW r.1
 now:r.1.now=0
 ops:S.ops≤r.1.ops∧r.1.ops≤S.ops+dQ S*(nB S*nG S+1:Nat)+9*nB S
 code:(r.2=0∧tY r.1∧r.1.deg=S.deg∧r.1.ep=S.ep+1∧eH r.1 (jO P B))∨
  (r.2=12∧r.1.deg=true∧S.g.sp<(dD r.1:Int)∧(eH r.1 B∨eH r.1 (jO P B)))
theorem aKu{S:Ps}{P:Int→Option (Option bZ)}{B:Int→Option bZ}(h:tY S)(hB:eH S B)(hP:aA1 S.g P)(hops:S.ops+dQ S*162+2000≤4294967295)(hep:S.ep+1≤16777215):
 aPr S P B (kL S (iP P B (fW S.g))):=by
 have hge:=h.inv.geo
 have hnp:nB S*nG S≤160:=by
  have:nB S*nG S≤20*8:=Nat.mul_le_mul (by omega) (by omega)
  omega
 have hK0:dQ S=9*(nB S+1)+1:=rfl
 have hKb:dQ (bG S)=dQ S:=rfl
 have hnbb:nB (bG S)=nB S:=rfl
 have hngb:nG (bG S)=nG S:=rfl
 have hl0:=(eT S).2.1
 have hseq:=h.inv.seq
 have hnow:0≤(bG S).now∧(bG S).now≤16777215:=⟨by show 0≤S.ep+1;have:=h.ep;omega,hep⟩
 have hac:aBK (bG S).g (bG S).now (iP P B (fW S.g)):=aFw h.inv.may hP
 have hall:=yY hac hnow (by rw[hKb];show S.ops+_+_≤_;omega) (nB S*nG S) 0 (bG S) (by omega) (h.begin (ac:=iP P B (fW S.g))).2
 rw[Nat.add_zero] at hall
 have hmulK:dQ S*((nB S*nG S+1:Nat):Int)=dQ S*((nB S*nG S:Nat):Int)+dQ S:=by rw[Int.natCast_add,Int.mul_add];omega
 have hmulB:dQ S*((nB S*nG S:Nat):Int)≤dQ S*160:=Int.mul_le_mul_of_nonneg_left (by omega) (by omega)
 unfold kL lH
 rw[hnbb,hngb]
 have hgb:(bG S).g=S.g:=rfl
 rw[hgb]
 rcases hall with⟨c,hp⟩|⟨c,hf,hl,ho,hh⟩
 rotate_left
 ·
  have hne:(gU (iP P B (fW S.g)) (nB S*nG S) 0 (bG S)).2≠0:=by rw[c];simp
  rw[if_pos hne,if_pos hne]
  have hopsF:S.ops≤(gU (iP P B (fW S.g)) (nB S*nG S) 0 (bG S)).1.ops∧(gU (iP P B (fW S.g)) (nB S*nG S) 0 (bG S)).1.ops≤S.ops+dQ S*((nB S*nG S+1:Nat):Int)+9*nB S:=by
   have h1:S.ops≤(gU (iP P B (fW S.g)) (nB S*nG S) 0 (bG S)).1.ops:=ho.1
   have h2:(gU (iP P B (fW S.g)) (nB S*nG S) 0 (bG S)).1.ops≤S.ops+dQ S*((nB S*nG S:Nat):Int):=ho.2
   rw[hmulK]
   omega
  have hlst:S.g.sp<(dD (gU (iP P B (fW S.g)) (nB S*nG S) 0 (bG S)).1:Int):=by
   have:=hf.lost
   rw[hf.env.g] at this
   exact this
  refine⟨⟨hf.env.g,hf.env.fs⟩,⟨hf.inv.may,hf.inv.len,hf.inv.pgs,⟨hf.inv.sq.le,hf.inv.sq.one⟩,hf.inv.tag,hf.inv.bad,hf.inv.seq,hf.inv.cnt⟩,rfl,?_,.inr ⟨c,hf.deg,hlst,.inl ?_⟩⟩
  ·exact hopsF
  ·refine eH.now (fun p hp d=>?_) 0
   rw[hB p hp d]
   exact⟨fun⟨e,he⟩=>⟨e,(hh _ _ _ _ _ hp).2 (mH.2 he)⟩,fun⟨e,he⟩=>⟨e,mH.1 ((hh _ _ _ _ _ hp).1 he)⟩⟩
 generalize hR:(gU (iP P B (fW S.g)) (nB S*nG S) 0 (bG S)).1=R at*
 rw[if_neg (show ¬ ((gU (iP P B (fW S.g)) (nB S*nG S) 0 (bG S)).2≠0) by rw[c];simp)]
 have hnbR:nB R=nB S:=hp.env.nB
 have hgR:R.g=S.g:=hp.env.g
 have hnowR:R.now=S.ep+1:=hp.env.now
 have hopR:=hp.ops
 rw[hKb] at hopR
 have hopR':S.ops≤R.ops∧R.ops≤S.ops+dQ S*((nB S*nG S:Nat):Int):=hopR
 have hpre:Pre R (nB R+1):=⟨hp.und.inv,hp.lost,hp.phi,by omega⟩
 have hok:∀ s:Int,0≤s∧s≤4294967295→wD (fW S.g) qH.k qH.p s R.now=true:=fun s hs=>tR (g:=S.g) h.inv.may (by rw[hnowR];exact hnow) (.inr ⟨rfl,rfl⟩) (pL h.inv.may) s hs
 have hpost:=aFu hpre hok (by rw[hgR];exact pL h.inv.may) (fun hk=>absurd rfl hk) (by rw[hp.und.ep];exact Int.le_refl _)
 have hpop:=hpost.ops
 have key:∀ (S1:Ps) (o:Nat),jE R S1→rW R S1→eW S1→o<S1.x.length→
  bK (bM S1 o { qH with e:=R.now } (fW S.g))=R.now∧eH (bM S1 o { qH with e:=R.now } (fW S.g)) (jO P B):=by
  intro S1 o hs he hi ho
  have hu1:=aAj hp.und hs he hi
  have hn1:R.now=S1.now:=hs.now.symm
  refine⟨(aEF hu1 ho (t:={ qH with e:=R.now }) rfl hn1 _).trans hs.now,fun p hp0 d=>?_⟩
  have hc:=fun k q e d'=>aLA hu1 ho (t:={ qH with e:=R.now }) rfl hn1 (fW S.g) hp0 k q e d'
  simp only[hc,hs.has]
  have hnew:=fun k q e d'=>hp.new p k q e d' hp0
  have hold:=fun k q e d'=>hp.old p k q e d' hp0
  have hlt:∀ x,P p=some x→p<((nB S*nG S:Nat):Int):=fun x hx=>by
   have h1:=hP.rng p x hx
   obtain⟨_,h2⟩:=vD h.inv.may
   have h3:(S.g.bl-S.g.sp-3)*S.g.pg≤S.g.bl*S.g.pg:=Int.mul_le_mul_of_nonneg_right (by have:=bP.1 h.inv.may;omega) (by omega)
   rw[hge.1,hge.2.1,← Int.natCast_mul] at h3
   rw[hge.1,hge.2.1] at h2
   omega
  have hpn:((p.toNat:Nat):Int)=p:=Int.toNat_of_nonneg hp0
  have hBS:∀ d,B p=some d↔∃ e,tL (bG S) (p,false) 1 p e d:=fun d=>by
   rw[hB p hp0 d]
   exact⟨fun⟨e,he⟩=>⟨e,mH.2 he⟩,fun⟨e,he⟩=>⟨e,mH.1 he⟩⟩
  unfold jO
  cases hPp:P p with
  | none=>
    have hact:iP P B (fW S.g) p.toNat=none:=by unfold iP;rw[hpn,hPp]
    have hno:∀ k q e d',¬ tL R (p,true) k q e d':=fun k q e d' hx=>by
     obtain⟨t,_,h2,_⟩:=(hnew k q e d').1 hx
     rw[hact] at h2;cases h2
    simp only
    rw[hBS d]
    constructor
    ·rintro⟨e,he⟩
     exact⟨e,.inr ⟨hno,(hold _ _ _ _).2 he⟩⟩
    ·rintro⟨e,h1|⟨_,h2⟩⟩
     ·exact absurd h1 (hno _ _ _ _)
     ·exact⟨e,(hold _ _ _ _).1 h2⟩
  | some x=>
    have hpl:=hlt x hPp
    cases x with
    | some dd=>
      have hact:iP P B (fW S.g) p.toNat=some (⟨1,p,0,0⟩,dd):=by unfold iP;rw[hpn,hPp]
      simp only
      constructor
      ·intro h1
       injection h1 with h1
       subst h1
       exact⟨(bG S).now,.inl ((hnew _ _ _ _).2 ⟨_,hpl,hact,rfl,rfl,rfl⟩)⟩
      ·rintro⟨e,h1|⟨h1,_⟩⟩
       ·obtain⟨t,_,h2,_⟩:=(hnew _ _ _ _).1 h1
        rw[hact] at h2
        injection h2 with h2
        injection h2 with _ h2
        rw[h2]
       ·exact absurd ((hnew _ _ _ _).2 ⟨_,hpl,hact,rfl,rfl,rfl⟩) (h1 _ _ _ _)
    | none=>
      simp only
      constructor
      ·intro h1;cases h1
      ·rintro⟨e,h1|⟨h1,h2⟩⟩
       ·exfalso
        obtain⟨t,_,h2,h3,_⟩:=(hnew _ _ _ _).1 h1
        unfold iP at h2
        rw[hpn,hPp] at h2
        simp only at h2
        split at h2
        ·injection h2 with h2
         injection h2 with h2 _
         subst h2
         simp at h3
        ·cases h2
       ·exfalso
        have h3:=(hold _ _ _ _).1 h2
        have hBp:B p=some d:=(hBS d).2 ⟨e,h3⟩
        have hact:iP P B (fW S.g) p.toNat=some (⟨2,p,0,0⟩,fW S.g):=by unfold iP;rw[hpn,hPp,hBp];rfl
        exact absurd ((hnew _ _ _ _).2 ⟨_,hpl,hact,rfl,rfl,rfl⟩) (h1 _ _ _ _)
 rcases hpost.code with⟨c1,c2,c3,c4,S1,o,hs,he,hi,ho,hr⟩|⟨c1,c2,c3,hr⟩
 ·obtain⟨a1,a2⟩:=key S1 o hs he hi ho
  rw[← hr] at a1 a2
  rw[if_neg (by rw[c1];simp)]
  have hgQ:=hpost.env.g.trans hgR
  have hfsQ:=hpost.env.fs.trans hp.env.fs
  have hnbQ:=hpost.env.nB.trans hnbR
  have hepQ:=hpost.env.ep.trans (hp.und.ep.trans hnowR)
  have hinvQ:=hpost.inv
  clear hpost hr
  generalize (gL R qH (fW S.g)).1=Q at*
  have hi0:eW { Q with now:=0 }:=⟨hinvQ.may,hinvQ.len,hinvQ.pgs,⟨hinvQ.sq.le,hinvQ.sq.one⟩,hinvQ.tag,hinvQ.bad,hinvQ.seq,hinvQ.cnt⟩
  have hlev:=aFc (nB S) { Q with now:=0 } ⟨hi0,by show (dD Q:Int)≤Q.g.sp;rw[hgQ,← hgR];exact c3,by show 2+Q.g.sp≤(phi Q:Int);rw[hgQ,← hgR];exact c4,by show Q.ops+_+_≤_;omega⟩
  have hlv:mO { Q with now:=0 }=wL (nB S) { Q with now:=0 }:=by unfold mO;rw[show nB { Q with now:=0 }=nB S from hnbQ]
  rw[hlv]
  have hlop:=hlev.ops
  have hlop':Q.ops≤(wL (nB S) { Q with now:=0 }).1.ops∧(wL (nB S) { Q with now:=0 }).1.ops≤Q.ops+9*nB S:=hlop
  have hlast0:bK { Q with now:=0 }=S.ep+1:=by show bK Q=_;rw[a1,hnowR]
  refine⟨⟨hlev.env.g.trans hgQ,hlev.env.fs.trans hfsQ⟩,hlev.inv,hlev.env.now,⟨by omega,by rw[hmulK];rw[hnbR] at hpop;omega⟩,?_⟩
  have hsp:(wL (nB S) { Q with now:=0 }).1.g.sp=R.g.sp:=by
   rw[hlev.env.g]
   show Q.g.sp=_
   rw[hgQ,hgR]
  rcases hlev.code with⟨d1,d2,d3,d4,_⟩|⟨d1,d2,d3⟩
  ·have d4:phi Q≤phi (wL (nB S) { Q with now:=0 }).1:=d4
   refine .inl ⟨d1,⟨hlev.inv,hlev.env.now,?_,by rw[hlev.env.g];exact d3,by rw[hsp];omega⟩,d2.trans (c2.trans hp.deg),hlev.env.ep.trans hepQ,(a2.now 0).same hlev.same⟩
   rw[hlev.env.ep,hlev.same.last,hlast0]
   exact hepQ
  ·exact .inr ⟨d1,d2,by have d3:Q.g.sp<((dD (wL (nB S) { Q with now:=0 }).1:Nat):Int):=d3;have h9:Q.g.sp=S.g.sp:=(by rw[hgQ]);omega,.inr ((a2.now 0).same hlev.same)⟩
 ·rw[if_pos (by rw[c1];simp)]
  refine⟨⟨hpost.env.g.trans hgR,hpost.env.fs.trans hp.env.fs⟩,⟨hpost.inv.may,hpost.inv.len,hpost.inv.pgs,⟨hpost.inv.sq.le,hpost.inv.sq.one⟩,hpost.inv.tag,hpost.inv.bad,hpost.inv.seq,hpost.inv.cnt⟩,rfl,⟨by show S.ops≤(gL R qH (fW S.g)).1.ops;omega,by show (gL R qH (fW S.g)).1.ops≤_;rw[hmulK];rw[hnbR] at hpop;omega⟩,.inr ⟨c1,c2,by rw[hgR] at c3;exact c3,?_⟩⟩
  rcases hr with hr|⟨S1,o,hs,he,hi,ho,hr⟩
  ·left
   refine eH.now (fun p hp0 d=>?_) 0
   rw[hB p hp0 d]
   exact⟨fun⟨e,he⟩=>⟨e,(hr.has _ _ _ _ _).2 ((hp.old _ _ _ _ _ hp0).2 (mH.2 he))⟩,fun⟨e,he⟩=>⟨e,mH.1 ((hp.old _ _ _ _ _ hp0).1 ((hr.has _ _ _ _ _).1 he))⟩⟩
  ·right
   obtain⟨a1,a2⟩:=key S1 o hs he hi ho
   rw[hr]
   exact (a2.deg true).now 0
def jW:AV:= .val (.slice none 0 0)
theorem iB:MT 75 3 25 i64 (fun x:AV=>x) jW:=by
 obtain⟨ti,h1,h2⟩:=aPy
 refine⟨⟨ti,_,_,h1,h2,dX,gG,rfl⟩,fun a b=>?_,fun a=>?_,fun a=>⟨_,rfl,by simp[pY,eR]⟩⟩
 ·rw[yZ]
  by_cases h:a=b
  ·simp[h]
  ·have:(a==b)=false:=by simpa using h
   rw[this];simp[h]
 ·unfold gR;rw[dX]
def PgS(M:aC)(A:bL)(x:AV)(d:bZ):Prop:=aI M x d∧(∃ b o n c e,x= .sl b o n c e)∧∀ c,aN x c→c∉A.av
theorem PgS.one{M:aC}{A:bL}{x:AV}{d:bZ}(h:PgS M A x d):x.one=true:=by
 obtain⟨_,⟨b,o,n,c,e,rfl⟩,_⟩:=h
 rfl
theorem PgS.keep{M N:aC}{A:bL}{x:AV}{d:bZ}{T:List Nat}(h:PgS M A x d)(hw:M.WF)(hk:aD M N T)(hT:∀ c∈T,c∈A.av):PgS N A x d:=
 ⟨aO.keep h.1 hw hk fun c hc hm=>h.2.2 c hc (hT c hm),h.2.1,h.2.2⟩
structure jY (M:aC) (A:bL) (b:Nat) (pm:List (Int×AV)) (P:Int→Option (Option bZ)):Prop where
 get:M.get b=some (.map (mG i64 (fun x:AV=>x) pm))
 nd:(pm.map (·.1)).Nodup
 ent:∀ q∈pm,(q.2=jW∧P q.1=some none)∨∃ d,P q.1=some (some d)∧PgS M A q.2 d
 cov:∀ n x,P n=some x→∃ q∈pm,q.1=n
theorem jY.keep{M N:aC}{A:bL}{b:Nat}{pm:List (Int×AV)}{P:Int→Option (Option bZ)}{T:List Nat}(h:jY M A b pm P)(hw:M.WF)(hk:aD M N T)(hb:b∉T)(hT:∀ c∈T,c∈A.av):jY N A b pm P:=
 ⟨hk.get hw h.get hb,h.nd,fun q hq=>(h.ent q hq).imp id fun⟨d,h1,h2⟩=>⟨d,h1,h2.keep hw hk hT⟩,h.cov⟩
theorem jY.none{M:aC}{A:bL}{b:Nat}{pm:List (Int×AV)}{P:Int→Option (Option bZ)}(h:jY M A b pm P){n:Int}(hn:P n=none):pV tb 75 (.map b) (i64 n) true M=some (.tup [jW,.val (.bool false)],M):=
 aAX iB h.get (fun q hq e=>by
  rcases h.ent q hq with⟨_,h1⟩|⟨d,h1,_⟩
  ·rw[e,hn] at h1;cases h1
  ·rw[e,hn] at h1;cases h1) true
theorem jY.nil{M:aC}{A:bL}{b:Nat}{pm:List (Int×AV)}{P:Int→Option (Option bZ)}(h:jY M A b pm P){n:Int}(hn:P n=some Option.none):pV tb 75 (.map b) (i64 n) true M=some (.tup [jW,.val (.bool true)],M):=by
 obtain⟨⟨n',x⟩,hq,rfl⟩:=h.cov n _ hn
 rcases h.ent _ hq with⟨h1,_⟩|⟨d,h1,_⟩
 ·rw[← h1];exact gI iB h.get h.nd hq true
 ·rw[hn] at h1;cases h1
theorem jY.some{M:aC}{A:bL}{b:Nat}{pm:List (Int×AV)}{P:Int→Option (Option bZ)}(h:jY M A b pm P){n:Int}{d:bZ}(hn:P n=some (some d)):∃ x,pV tb 75 (.map b) (i64 n) true M=Option.some (.tup [x,.val (.bool true)],M)∧PgS M A x d:=by
 obtain⟨⟨n',x⟩,hq,rfl⟩:=h.cov n _ hn
 rcases h.ent _ hq with⟨_,h1⟩|⟨d',h1,h2⟩
 ·rw[hn] at h1;cases h1
 ·rw[hn] at h1
  injection h1 with h1
  injection h1 with h1
  subst h1
  exact⟨x,gI iB h.get h.nd hq true,h2⟩
def lW(P:Int→Option (Option bZ))(n:Int)(x:Option bZ)(k:Int):Option (Option bZ):=if k=n then some x else P k
theorem jY.put{M:aC}{A:bL}{b:Nat}{pm:List (Int×AV)}{P:Int→Option (Option bZ)}(h:jY M A b pm P)(hw:M.WF)(hb:b∈A.av)(n:Int)(x:AV)(o:Option bZ)(hx:(x=jW∧o=Option.none)∨∃ d,o=Option.some d∧PgS M A x d):
 ∃ pm',eMU tb 75 (.map b) (i64 n) x M=Option.some (eY,M.put b (.map (mG i64 (fun x:AV=>x) pm')))∧jY (M.put b (.map (mG i64 (fun x:AV=>x) pm'))) A b pm' (lW P n o)∧pm'.length≤pm.length+1:=by
 obtain⟨pm',h1,h2,h3,h4⟩:=aEb iB h.get h.nd n x
 have hk:aD M (M.put b (.map (mG i64 (fun x:AV=>x) pm'))) [b]:=aD.put hw (hw _ _ h.get) _
 have hT:∀ c∈[b],c∈A.av:=fun c hc=>by rw[List.mem_singleton] at hc;rw[hc];exact hb
 refine⟨pm',h1,⟨by rw[aC.get_put,if_pos rfl],h2,fun q hq=>?_,fun k y hk'=>?_⟩,h4⟩
 ·rcases (h3 q).1 hq with rfl|⟨hq,hne⟩
  ·unfold lW
   simp only[if_true]
   rcases hx with⟨rfl,rfl⟩|⟨d,rfl,hd⟩
   ·exact .inl ⟨rfl,rfl⟩
   ·exact .inr ⟨d,rfl,hd.keep hw hk hT⟩
  ·unfold lW
   rw[if_neg hne]
   exact (h.ent q hq).imp id fun⟨d,e1,e2⟩=>⟨d,e1,e2.keep hw hk hT⟩
 ·unfold lW at hk'
  by_cases e:k=n
  ·exact⟨(n,x),(h3 _).2 (.inl rfl),e.symm⟩
  ·rw[if_neg e] at hk'
   obtain⟨q,hq,e1⟩:=h.cov k y hk'
   exact⟨q,(h3 _).2 (.inr ⟨hq,by rw[e1];exact e⟩),e1⟩
structure FM (A:bL) (M:aC) (S:Ps) (P:Int→Option (Option bZ)) (B:Int→Option bZ):Prop where
 fr:∃ C m,FR A M S C m
 pend:∃ pm,jY M A A.mp pm P
 base:∃ bm,jY M A A.mb bm (fun n=>(B n).map some)
 stale:M.get A.ms=some (.map [])
section
variable {A:bL} {M:aC} {S:Ps} {P:Int→Option (Option bZ)} {B:Int→Option bZ}
theorem bL.maps{A:bL}(h:A.all.Nodup):(A.mb∉A.wr∧A.mp∉A.wr∧A.ms∉A.wr)∧A.mb≠A.mp∧A.mb≠A.ms∧A.mp≠A.ms:=by
 unfold bL.all at h
 simp only[List.nodup_cons,List.mem_cons,not_or] at h
 obtain⟨⟨h1,h2,h3,h4,h5⟩,⟨h6,h7,h8,h9⟩,⟨h10,h11,h12⟩,⟨h13,h14⟩,h15,h16⟩:=h
 unfold bL.wr
 simp only[List.mem_cons,not_or]
 exact⟨⟨⟨fun e=>h2 e.symm,fun e=>h6 e.symm,h12⟩,⟨fun e=>h3 e.symm,fun e=>h7 e.symm,h14⟩,fun e=>h4 e.symm,fun e=>h8 e.symm,h15⟩,h10,h11,h13⟩
theorem FM.wf(h:FM A M S P B):M.WF:=by obtain⟨C,m,hr⟩:=h.fr;exact hr.wf
theorem FM.dis(h:FM A M S P B):A.all.Nodup:=by obtain⟨C,m,hr⟩:=h.fr;exact hr.dis
theorem gW:A.mp∈A.av∧A.mb∈A.av∧A.ms∈A.av:=by simp[bL.av,bL.all]
theorem FM.step{N:aC}{S':Ps}(h:FM A M S P B)(hk:aD M N A.wr)(hr:∃ C m,FR A N S' C m):FM A N S' P B:=by
 obtain⟨⟨n1,n2,n3⟩,_⟩:=bL.maps h.dis
 obtain⟨pm,hp⟩:=h.pend
 obtain⟨bm,hb⟩:=h.base
 exact⟨hr,⟨pm,hp.keep h.wf hk n2 fun c hc=>bL.wr_av hc⟩,⟨bm,hb.keep h.wf hk n1 fun c hc=>bL.wr_av hc⟩,hk.get h.wf h.stale n3⟩
theorem FM.post{N:aC}(h:FM A M S P B)(hk:aD M N []):FM A N S P B:=by
 obtain⟨C,m,hr⟩:=h.fr
 exact h.step (hk.mono (by simp)) ⟨C,m,hr.post hk⟩
theorem FM.keepX{N:aC}{T:List Nat}(h:FM A M S P B)(hk:aD M N T)(hT:∀ c∈T,c∈A.ext∧c∉A.all):FM A N S P B:=by
 obtain⟨C,m,hr⟩:=h.fr
 obtain⟨pm,hp⟩:=h.pend
 obtain⟨bm,hb⟩:=h.base
 have hw:∀ c∈T,c∉A.wr:=fun c hc hm=>(hT c hc).2 (by
  simp only[bL.wr,bL.all,List.mem_cons] at hm ⊢
  rcases hm with hm|hm|hm
  ·exact .inl hm
  ·exact .inr (.inl hm)
  ·exact .inr (.inr (.inr (.inr (.inr hm)))))
 have hv:∀ c∈T,c∈A.av:=fun c hc=>by simp only[bL.av,List.mem_append];exact .inr (hT c hc).1
 have ha:A.mp∉T∧A.mb∉T∧A.ms∉T:=⟨fun e=>(hT _ e).2 (by simp[bL.all]),fun e=>(hT _ e).2 (by simp[bL.all]),fun e=>(hT _ e).2 (by simp[bL.all])⟩
 exact⟨⟨C,m,hr.keepX hk fun c hc=>⟨(hT c hc).1,hw c hc⟩⟩,⟨pm,hp.keep h.wf hk ha.1 hv⟩,⟨bm,hb.keep h.wf hk ha.2.1 hv⟩,hk.get h.wf h.stale ha.2.2⟩
theorem FM.flA(h:FM A M S P B):M.get A.f=some (.cells (jZ (dZ A S)) true):=by obtain⟨C,m,hr⟩:=h.fr;exact hr.fl
theorem aAC{f:Nat}{M:aC}:cG tb 99 (.ptr f 0) 4 M=some (.ptr f 8,M):=bW (by unfold eZf;rw[aBw];rfl)
theorem aGF{f:Nat}{M:aC}:cG tb 99 (.ptr f 0) 3 M=some (.ptr f 7,M):=bW (by unfold eZf;rw[aBw];rfl)
theorem aOT{f:Nat}{M:aC}:cG tb 99 (.ptr f 0) 5 M=some (.ptr f 9,M):=bW (by unfold eZf;rw[aBw];rfl)
theorem aJi{f:Nat}{M:aC}:cG tb 99 (.ptr f 0) 9 M=some (.ptr f 13,M):=(oB f).2.2.2.2.2.2
theorem FM.lmp(h:FM A M S P B):aH tb 75 (.ptr A.f 8) M=some (.map A.mp,M):=aS (eB sJ rfl h.flA (o:=8) (v:= .map A.mp) rfl)
theorem FM.lmb(h:FM A M S P B):aH tb 75 (.ptr A.f 7) M=some (.map A.mb,M):=aS (eB sJ rfl h.flA (o:=7) (v:= .map A.mb) rfl)
theorem FM.lms(h:FM A M S P B):aH tb 97 (.ptr A.f 9) M=some (.map A.ms,M):=aS (eB aIz rfl h.flA (o:=9) (v:= .map A.ms) rfl)
theorem FM.ldg(h:FM A M S P B):aH tb 4 (.ptr A.f 13) M=some (.val (.bool S.deg),M):=aS (eB ty4 rfl h.flA (o:=13) (v:=bv S.deg) rfl)
theorem aJj{b o n c:Nat}{e:Option Nat}{M:aC}{xo yo:Operand}:cZ tb .eql 25 xo yo (.sl b o n c e) jW M=some (.val (.bool false),M):=cB (by kernel_rfl)
theorem aR9{b o n c:Nat}{e:Option Nat}{M:aC}{xo yo:Operand}:cZ tb .neq 25 xo yo (.sl b o n c e) jW M=some (.val (.bool true),M):=cB (by kernel_rfl)
theorem aDi{M:aC}{xo yo:Operand}:cZ tb .eql 25 xo yo jW jW M=some (.val (.bool true),M):=cB (by kernel_rfl)
theorem aNw{M:aC}{xo yo:Operand}:cZ tb .neq 25 xo yo jW jW M=some (.val (.bool false),M):=cB (by kernel_rfl)
theorem aLn(h:FM A M S P B)(n:Int):aB tb.P 75 [.ptr A.f 0,i64 n] M fun y N=>N=M∧((jO P B n=none∧y= .tup [jW,.val (.bool false)])∨∃ x d,jO P B n=some d∧y= .tup [x,.val (.bool true)]∧PgS M A x d):=by
 obtain⟨pm,hp⟩:=h.pend
 obtain⟨bm,hb⟩:=h.base
 refine aO7 ?_
 unfold F75
 simp only[i64,aJ]
 refine aG dB ?_
 refine aG aAC ?_
 rw[bV]
 refine aG h.lmp ?_
 unfold jO
 cases hP:P n with
 | none=>
   refine aG (hp.none hP) ⟨_,_,rfl,?_⟩
   rw[fG]
   refine aG dB ?_
   refine aG aGF ?_
   rw[bV]
   refine aG h.lmb ?_
   cases hB:B n with
   | none=>exact aG (hb.none (by rw[hB];rfl)) ⟨_,_,rfl,(by first|trivial|rfl),.inl ⟨rfl,rfl⟩⟩
   | some d=>
     obtain⟨x,h1,h2⟩:=hb.some (n:=n) (d:=d) (by rw[hB];rfl)
     exact aG h1 ⟨_,_,rfl,(by first|trivial|rfl),.inr ⟨x,d,rfl,rfl,h2⟩⟩
 | some o=>
   cases o with
   | none=>
     refine aG (hp.nil hP) ⟨_,_,rfl,?_⟩
     rw[jF]
     refine aG aNw ?_
     rw[cO]
     exact⟨(by first|trivial|rfl),.inl ⟨rfl,rfl⟩⟩
   | some d=>
     obtain⟨x,h1,h2⟩:=hp.some hP
     refine aG h1 ⟨_,_,rfl,?_⟩
     rw[jF]
     obtain⟨b,o,c1,c2,e,rfl⟩:=h2.2.1
     refine aG aR9 ?_
     rw[cO]
     exact⟨(by first|trivial|rfl),.inr ⟨_,d,rfl,rfl,h2⟩⟩
theorem aJc(h:FM A M S P B){z:Int}(hz:0≤z∧z<eL S.g):aB tb.P 74 [.ptr A.f 0,i64 z] M fun y N=>y=i64 0∧aD M N []:=by
 obtain⟨C,m,hr⟩:=h.fr
 have:=aMu M h.wf A.f (dZ A S) A.p C hr.flat z
 have e:aFW C z=0:=by
  unfold aFW
  rw[hr.rel.calm.off,hr.rel.g,if_neg (by simp),if_pos hz]
 rw[e] at this
 exact this
theorem aQX(h:FM A M S P B){z:Int}(hz:0≤z∧z<eL S.g)(hlen:∀ d,jO P B z=some d→0<d.length∧d.length≤1000):
 aB tb.P 45 [.ptr A.f 0,i64 z] M fun y N=>aD M N []∧((jO P B z=none∧y= .tup [jW,i64 4])∨∃ x d,jO P B z=some d∧y= .tup [x,i64 0]∧Gr N x d∧∀ c,aN x c→M.next≤c):=by
 refine aQ8 ?_
 unfold F45
 simp only[i64,aJ]
 refine (aJc h hz).mono ?_
 rintro y N ⟨rfl,hk⟩
 simp only[i64,aJ]
 have hN:=h.post hk
 simp only[bne_self_eq_false,fG]
 refine (aLn hN z).mono ?_
 rintro y N2 ⟨rfl,⟨h1,rfl⟩|⟨x,d,h1,rfl,h2⟩⟩
 ·refine⟨_,_,rfl,?_⟩
  simp only[Bool.not_false,jF]
  exact⟨hk,.inl ⟨h1,rfl⟩⟩
 ·refine⟨_,_,rfl,?_⟩
  simp only[Bool.not_true,fG]
  obtain⟨l1,l2⟩:=hlen d h1
  refine (nN N2 hN.wf x d h2.1 l1 (by omega)).mono ?_
  rintro y N3 ⟨g1,g2,g3⟩
  exact⟨hk.trans0 g2,.inr ⟨y,d,h1,rfl,g1,fun c hc=>Nat.le_trans hk.nxt (g3 c hc)⟩⟩
theorem FM.setP(h:FM A M S P B){pm:List (Int×AV)}{P':Int→Option (Option bZ)}(hp:jY (M.put A.mp (.map (mG i64 (fun x:AV=>x) pm))) A A.mp pm P'):FM A (M.put A.mp (.map (mG i64 (fun x:AV=>x) pm))) S P' B∧aD M (M.put A.mp (.map (mG i64 (fun x:AV=>x) pm))) [A.mp]:=by
 obtain⟨⟨n1,n2,n3⟩,n4,n5,n6⟩:=bL.maps h.dis
 obtain⟨C,m,hr⟩:=h.fr
 obtain⟨bm,hb⟩:=h.base
 obtain⟨pm0,hp0⟩:=h.pend
 have hk:aD M (M.put A.mp (.map (mG i64 (fun x:AV=>x) pm))) [A.mp]:=aD.put h.wf (h.wf _ _ hp0.get) _
 refine⟨⟨⟨C,m,hr.keepS hk fun c hc=>?_⟩,⟨pm,hp⟩,⟨bm,hb.keep h.wf hk (by simp[n4]) fun c hc=>?_⟩,by rw[aC.get_put,if_neg (fun e=>n6 e.symm)];exact h.stale⟩,hk⟩
 ·rw[List.mem_singleton] at hc
  subst hc
  refine⟨n2,fun hm=>hr.fsx _ hm gW.1,fun q hq hm=>?_⟩
  obtain⟨_,_,_,_,_,_,_,_,e6⟩:=hr.lnk q hq
  exact e6 _ hm gW.1
 ·rw[List.mem_singleton] at hc
  rw[hc];exact gW.1
theorem Gr.pg{N:aC}{A:bL}{x:AV}{d:bZ}(h:Gr N x d)(h0:0<d.length)(hf:∀ c,aN x c→c∉A.av):PgS N A x d:=by
 refine⟨h.at,?_,hf⟩
 rcases h with⟨_,rfl⟩|⟨b,h1,_⟩
 ·simp at h0
 ·exact⟨_,_,_,_,_,h1⟩
theorem FM.av_lt(h:FM A M S P B)(hext:∀ c∈A.ext,c<M.next):∀ c∈A.av,c<M.next:=by
 obtain⟨C,m,hr⟩:=h.fr
 obtain⟨pm,hp⟩:=h.pend
 obtain⟨bm,hb⟩:=h.base
 intro c hc
 simp only[bL.av,bL.all,List.mem_append,List.mem_cons] at hc
 rcases hc with (rfl|rfl|rfl|rfl|rfl|hc)|hc
 ·exact h.wf _ _ hr.fl
 ·exact h.wf _ _ hr.mf
 ·exact h.wf _ _ hb.get
 ·exact h.wf _ _ hp.get
 ·exact h.wf _ _ h.stale
 ·exact hr.lt c (by simp[bL.wr,hc])
 ·exact hext c hc
theorem aMq(h:FM A M S P B)(hext:∀ c∈A.ext,c<M.next){z:Int}(hz:0≤z∧z<eL S.g){w:AV}{d:bZ}(hw:aI M w d)(hd:(d.length:Int)=S.g.by')(h0:0<d.length∧d.length≤1000):
 aB tb.P 47 [.ptr A.f 0,i64 z,w] M fun y N=>(S.deg=false→y=i64 0∧FM A N S (lW P z (some d)) B∧aD M N [A.mp])∧(S.deg=true→y=i64 13∧aD M N []):=by
 refine aPJ ?_
 unfold F47
 simp only[i64,aJ]
 refine (aJc h hz).mono ?_
 rintro y N ⟨rfl,hk⟩
 simp only[i64,aJ]
 have hN:=h.post hk
 simp only[bne_self_eq_false,fG]
 have hwN:aI N w d:=aO.keep0 hw h.wf hk
 refine aG (iO hwN.len) ?_
 simp only[aJ]
 refine aG dB ?_
 refine aG nW ?_
 rw[bV]
 refine aG (aS (eB dX rfl hN.flA (o:=3) (v:=i64 S.g.by') rfl)) ?_
 simp only[i64,aJ]
 rw[hd]
 simp only[bne_self_eq_false,fG]
 refine aG dB ?_
 refine aG aJi ?_
 rw[bV]
 refine aG hN.ldg ?_
 rw[cO]
 refine aT (fun e=>⟨fun e'=>(by rw[e] at e';cases e'),fun _=>⟨(by first|trivial|rfl),hk⟩⟩) (fun e=>?_)
 refine aG dB ?_
 refine aG aAC ?_
 rw[bV]
 refine aG hN.lmp ?_
 refine (nN N hN.wf w d hwN h0.1 (by omega)).mono ?_
 rintro x N2 ⟨g1,g2,g3⟩
 have hN2:=hN.post g2
 refine⟨aG hN2.lmp rfl,?_⟩
 obtain⟨pm,hp⟩:=hN2.pend
 have hav:=h.av_lt hext
 obtain⟨pm',p1,p2,_⟩:=hp.put hN2.wf gW.1 z x (some d) (.inr ⟨d,rfl,Gr.pg g1 h0.1 fun c hc hm=>by have h1:=g3 c hc;have h2:=hav c hm;have h3:=hk.nxt;omega⟩)
 refine aG p1 ?_
 obtain⟨q1,q2⟩:=hN2.setP p2
 exact⟨fun _=>⟨(by first|trivial|rfl),q1,(hk.trans0 g2).trans q2 (by simp) (fun _ h _=>h)⟩,fun e'=>(by rw[e] at e';cases e')⟩
theorem aQF(h:FM A M S P B){z:Int}(hz:0≤z∧z<eL S.g):
 aB tb.P 49 [.ptr A.f 0,i64 z] M fun y N=>(S.deg=true→y=i64 13∧aD M N [])∧(S.deg=false→jO P B z=none→y=i64 4∧aD M N [])∧(S.deg=false→jO P B z≠none→y=i64 0∧FM A N S (lW P z none) B∧aD M N [A.mp]):=by
 refine aQO ?_
 unfold F49
 simp only[i64,aJ]
 refine (aJc h hz).mono ?_
 rintro y N ⟨rfl,hk⟩
 simp only[i64,aJ]
 have hN:=h.post hk
 simp only[bne_self_eq_false,fG]
 refine aG dB ?_
 refine aG aJi ?_
 rw[bV]
 refine aG hN.ldg ?_
 rw[cO]
 refine aT (fun e=>⟨fun _=>⟨(by first|trivial|rfl),hk⟩,fun e'=>(by rw[e] at e';cases e'),fun e'=>(by rw[e] at e';cases e')⟩) (fun e=>?_)
 refine (aLn hN z).mono ?_
 rintro y N2 ⟨rfl,⟨h1,rfl⟩|⟨x,d,h1,rfl,h2⟩⟩
 ·refine⟨_,_,rfl,?_⟩
  simp only[Bool.not_false,jF]
  exact⟨fun e'=>(by rw[e] at e';cases e'),fun _ _=>⟨(by first|trivial|rfl),hk⟩,fun _ hne=>absurd h1 hne⟩
 ·refine⟨_,_,rfl,?_⟩
  simp only[Bool.not_true,fG]
  refine aG dB ?_
  refine aG aAC ?_
  rw[bV]
  refine aG hN.lmp ?_
  obtain⟨pm,hp⟩:=hN.pend
  obtain⟨pm',p1,p2,_⟩:=hp.put hN.wf gW.1 z jW none (.inl ⟨rfl,rfl⟩)
  refine aG p1 ?_
  obtain⟨q1,q2⟩:=hN.setP p2
  exact⟨fun e'=>(by rw[e] at e';cases e'),fun _ hno=>(by rw[h1] at hno;cases hno),fun _ _=>⟨(by first|trivial|rfl),q1,hk.trans q2 (by simp) (fun _ h _=>h)⟩⟩
def pgN(f:Int→Option bZ)(n:Nat):List Int:=((List.range n).map fun i:Nat=>(i:Int)).filter fun i=>(f i).isSome
theorem aEM(f:Int→Option bZ)(n:Nat):pgN f (n+1)=pgN f n++(if (f n).isSome=true then[(n:Int)] else[]):=by
 unfold pgN
 rw[List.range_succ,List.map_append,List.filter_append]
 congr 1
 simp only[List.map_cons,List.map_nil,List.filter_cons,List.filter_nil]
theorem aHc(f:Int→Option bZ)(n:Nat):(pgN f n).length≤n:=by
 unfold pgN
 have:=List.length_filter_le (fun i=>(f i).isSome) ((List.range n).map fun i:Nat=>(i:Int))
 simpa using this
theorem aLU(h:FM A M S P B):aB tb.P 48 [.ptr A.f 0] M fun y N=>nK N y ((pgN (jO P B) (eL S.g).toNat).map i64)∧aD M N []∧∀ c,aN y c→M.next≤c:=by
 obtain⟨C,m,hr⟩:=h.fr
 refine aPP ?_
 unfold F48
 obtain⟨l1,l2⟩:=vD hr.inv.may
 have hm:=bP.1 hr.inv.may
 have l3:(S.g.bl-S.g.sp-3)*S.g.pg≤20*8:=Int.mul_le_mul (by omega) (by omega) (by omega) (by omega)
 have hlog:=aH6 M h.wf A.f (dZ A S) A.p C hr.flat
 rw[hr.rel.g] at hlog
 refine hlog.mono ?_
 rintro y M2 ⟨rfl,hk2⟩
 obtain⟨L,hL⟩:∃ L:Nat,eL S.g=L:=⟨(eL S.g).toNat,by omega⟩
 rw[hL]
 simp only[i64,aJ,Int.toNat_natCast]
 have h2:=h.post hk2
 refine⟨fun x i n Q=>∃ j:Nat,i=j∧n=L-j∧j≤L∧aD M Q []∧nK Q x ((pgN (jO P B) j).map i64)∧∀ c,aN x c→M.next≤c,⟨_,0,rfl,rfl,Nat.zero_le _,hk2,.inl ⟨rfl,rfl⟩,fun c hc=>hc.elim⟩,?_⟩
 rintro _ x i n Q ⟨j,rfl,rfl,hj,hk,hx,fx⟩
 refine aT (fun hlt=>?_) (fun hge=>?_)
 ·have hlt:j<L:=Int.ofNat_lt.1 (of_decide_eq_true hlt)
  have hQ:=h.post hk
  refine bE fun K hK=>?_
  refine (aLn hQ (j:Int)).mono ?_
  rintro y N2 ⟨rfl,⟨h1,rfl⟩|⟨x',d,h1,rfl,_⟩⟩
  ·refine⟨_,_,rfl,?_⟩
   rw[fG,hK]
   refine⟨_,by omega,j+1,dE (by omega),rfl,hlt,hk,?_,fx⟩
   rw[aEM,h1]
   simpa using hx
  ·refine⟨_,_,rfl,?_⟩
   rw[jF,hK]
   clear hK
   refine bE fun M21 hM21=>?_
   subst hM21
   have hpl:=aHc (jO P B) j
   obtain⟨x2,N',g1,g2,g3,g4⟩:=nK.grow uY dX rfl (by decide) hk.wf hx (i64 (j:Int)) rfl (by rw[List.length_map];omega)
   refine aG g1 ?_
   have e:(pgN (jO P B) (j+1)).map i64=(pgN (jO P B) j).map i64++[i64 (j:Int)]:=by
    rw[aEM,h1]
    simp
   rw[← e] at g2
   refine⟨_,by omega,j+1,dE (by omega),rfl,hlt,iE hk g3 fx,g2,fun c hc=>?_⟩
   have:=g4 c hc
   have:=hk.nxt
   omega
 ·have hge:¬ (j:Int)<(L:Int):=of_decide_eq_false hge
  have:j=L:=by omega
  subst this
  exact⟨hx,hk,fx⟩
end
theorem aH5{ac:Nat→Option (Tg×bZ)}{k n:Nat}{S:Ps}(h:ac n=none):gU ac (k+1) n S=gU ac k (n+1) S:=by rw[gU,h]
theorem aHX{ac:Nat→Option (Tg×bZ)}{k n:Nat}{S:Ps}{t:Tg}{d:bZ}(h:ac n=some (t,d)):gU ac (k+1) n S=if (gL S t d).2≠0 then gL S t d else gU ac k (n+1) (gL S t d).1:=by rw[gU,h]
section
variable {A:bL} {M:aC} {S:Ps} {P:Int→Option (Option bZ)} {B:Int→Option bZ}
theorem aRZ(M:aC){n:Nat}(hn:n≤1000):cU tb 25 (.val (.int .i64 (n:Int))) (.val (.int .i64 (n:Int))) M=some (.sl M.next 0 n n none,M.new (.cells (dH (List.replicate n 0#8)) true)):=by
 unfold cU
 rw[gG]
 have h1:decide (0≤(n:Int))=true:=by simp
 have h2:decide ((n:Int)≤(n:Int))=true:=by simp
 have h3:decide (((1:Nat):Int)*(n:Int)≤281474976710656)=true:=by
  rw[decide_eq_true_eq];omega
 have h4:decide ((n:Int)<4611686018427387904)=true:=by
  rw[decide_eq_true_eq];omega
 simp only[vK,h1,h2,h4,cond_true,Int.toNat_natCast]
 rw[h3,cond_true]
 have e:repA n (ofVs [.int .u8 0])=dH (List.replicate n 0#8):=by
  have:=oD (AV.val (.int .u8 0)) n
  rw[show dH (List.replicate n 0#8)=List.replicate n (AV.val (.int .u8 0)) by unfold dH;rw[List.map_replicate];rfl]
  exact this
 rw[e]
theorem aRa(h:FM A M S P B)(hext:∀ c∈A.ext,c<M.next)(h0:Pts S (iP P B (fW S.g)) 0 S)(hac:aBK S.g S.now (iP P B (fW S.g)))(hn:0≤S.now∧S.now≤16777215)(hops:S.ops+dQ S*163+5000≤1000000000):
 aB tb.P 78 [.ptr A.f 0] M fun y N=>y=i64 (lH S (iP P B (fW S.g))).2∧FM A N (lH S (iP P B (fW S.g))).1 P B∧aD M N A.wr:=by
 obtain⟨C0,m0,hr0⟩:=h.fr
 have hg:=hr0.geo
 have hm:=bP.1 hr0.inv.may
 have hnp:nB S*nG S≤160:=by
  have:nB S*nG S≤20*8:=Nat.mul_le_mul (by omega) (by omega)
  omega
 have hK0:dQ S=9*(nB S+1)+1:=rfl
 have hav:=h.av_lt hext
 refine aQs ?_
 unfold F78
 refine aG dB ?_
 refine aG nW ?_
 rw[bV]
 obtain⟨L,hL⟩:∃ L:Nat,S.g.by'=L:=⟨S.g.by'.toNat,by omega⟩
 refine aG (aS (eB dX rfl h.flA (o:=3) (v:=i64 S.g.by') rfl)) ?_
 rw[hL]
 simp only[i64,aJ]
 refine aG (aRZ M (n:=L) (by omega)) ?_
 have hz:fW S.g=List.replicate L 0#8:=by unfold fW;rw[hL];rfl
 have k7:aD M (M.new (.cells (dH (List.replicate L 0#8)) true)) []:=aD.new h.wf _
 have g7:(M.new (.cells (dH (List.replicate L 0#8)) true)).get M.next=some (.cells (dH (List.replicate L 0#8)) true):=get_new _ _
 generalize M.new (.cells (dH (List.replicate L 0#8)) true)=M7 at*
 have h7:=h.post k7
 have hav7:∀ c∈A.av,c<M.next:=hav
 have nonePg:∀ N,N.get M.next=some (.cells (dH (List.replicate L 0#8)) true)→PgS N A (.sl M.next 0 L L none) (fW S.g):=fun N hg=>by
  refine⟨?_,⟨_,_,_,_,_,rfl⟩,fun c hc hm=>?_⟩
  ·rw[hz]
   refine⟨by simp,.inr ⟨M.next,0,L,none,by simp,⟨by simp,.inl rfl⟩,.inr ⟨_,_,hg,by simp,by rw[List.drop_zero,List.take_of_length_le (by simp)]⟩⟩⟩
  ·obtain⟨_,hc⟩:=hc
   have:=hav7 c hm
   omega
 have hwr:M.next∉A.wr:=fun hm=>by have:=hav7 _ (bL.wr_av hm);omega
 refine aG dB ?_
 refine aG nW ?_
 rw[bV]
 refine aG dB ?_
 refine aG nW ?_
 rw[bV]
 obtain⟨C7,m7,hr7⟩:=h7.fr
 refine aG hr7.lbl ?_
 rw[aJ]
 refine aG hr7.lpg ?_
 rw[aJ]
 have em:bT .i64 (nB S:Int) (nG S:Int)=((nB S*nG S:Nat):Int):=by
  rw[Int.natCast_mul]
  have:((nB S:Int)*(nG S:Int))=((nB S*nG S:Nat):Int):=by rw[Int.natCast_mul]
  exact aL (by omega) (by omega)
 rw[em]
 refine⟨fun z n N=>∃ (i:Nat) (S1:Ps),z=i∧n=nB S*nG S-i∧i≤nB S*nG S∧Pts S (iP P B (fW S.g)) i S1∧FM A N S1 P B∧aD M N A.wr∧gU (iP P B (fW S.g)) (nB S*nG S-i) i S1=gU (iP P B (fW S.g)) (nB S*nG S) 0 S∧N.get M.next=some (.cells (dH (List.replicate L 0#8)) true),
  ⟨_,0,S,rfl,rfl,Nat.zero_le _,h0,h7,k7.mono (by simp),rfl,g7⟩,?_⟩
 rintro _ z n N ⟨i,S1,rfl,rfl,hi,hpts,hN,hkN,hres,gN⟩
 have hnb:=hpts.env.nB
 have hgS:=hpts.env.g
 have hop1:=hpts.ops
 have hKi:dQ S*(i:Int)≤dQ S*160:=Int.mul_le_mul_of_nonneg_left (by omega) (by omega)
 have hpre:Pre S1 (nB S1+1):=⟨hpts.und.inv,hpts.lost,hpts.phi,by omega⟩
 obtain⟨C1,m1,hr1⟩:=hN.fr
 refine aT (fun e=>?_) (fun e=>?_)
 ·
  have hlt:i<nB S*nG S:=Int.ofNat_lt.1 (of_decide_eq_true e)
  have hsub:nB S*nG S-i=(nB S*nG S-(i+1))+1:=by omega
  obtain⟨pm,hp⟩:=hN.pend
  obtain⟨bm,hb⟩:=hN.base
  refine bE fun K71 hK71=>?_
  have key71:∀ (N2:aC) (S2:Ps),aD M N2 A.wr→FM A N2 S2 P B→Pts S (iP P B (fW S.g)) (i+1) S2→gU (iP P B (fW S.g)) (nB S*nG S-(i+1)) (i+1) S2=gU (iP P B (fW S.g)) (nB S*nG S) 0 S→N2.get M.next=some (.cells (dH (List.replicate L 0#8)) true)→K71 N2:=by
   intro N2 S2 a1 a2 a3 a4 a5
   rw[hK71]
   exact⟨_,by omega,i+1,S2,dE (by omega),rfl,hlt,a3,a2,a1,a4,a5⟩
  clear hK71
  have skip:∀ N2,aD N N2 []→iP P B (fW S.g) i=none→K71 N2:=fun N2 k2 ha=>by
   rw[hsub,aH5 ha] at hres
   exact key71 N2 S1 (hkN.trans k2 (fun _ h _=>h) (by simp)) (hN.post k2) (hpts.skip ha) hres (k2.get hN.wf gN (by simp))
  have putIt:∀ (N2:aC) (t:Tg) (x:AV) (d:bZ) (K:AV→aC→Prop),aD N N2 []→iP P B (fW S.g) i=some (t,d)→PgS N2 A x d→
   (∀ (y:AV) (N3:aC),y=i64 (gL S1 t d).2→FM A N3 (gL S1 t d).1 P B→aD M N3 A.wr→N3.get M.next=some (.cells (dH (List.replicate L 0#8)) true)→K y N3)→aB tb.P 111 [.ptr A.f 0,tgA t,x] N2 K:=by
   intro N2 t x d K k2 ha hx hK
   obtain⟨b1,b2,b3,b4⟩:=hac.k i t d ha
   have hnow:=hpts.env.now
   have h2:=hr1.post k2
   refine (aOv h2 hpre (by omega) (t:=t) (x:=x) (d:=d) (fun s hs=>tR (g:=S.g) hr0.inv.may (by rw[hnow];exact hn) (.inl ⟨b1,by omega,by omega⟩) b4 s hs) (by rw[hgS];exact b4) (fun _=>by rw[hgS,b2];exact b3) (by rw[hpts.und.ep];exact Int.le_refl _) hx.1 hx.one hx.2.2).mono ?_
   rintro y N3 ⟨C',m',rfl,h3,k3⟩
   exact hK _ N3 rfl ((hN.post k2).step k3 ⟨C',m',h3⟩) ((hkN.trans k2 (fun _ h _=>h) (by simp)).trans k3 (fun _ h _=>h) (fun _ h _=>h)) (k3.get h2.wf (k2.get hN.wf gN (by simp)) hwr)
  have aJo:∀ (t:Tg) (d:bZ) (N3:aC),iP P B (fW S.g) i=some (t,d)→FM A N3 (gL S1 t d).1 P B→aD M N3 A.wr→N3.get M.next=some (.cells (dH (List.replicate L 0#8)) true)→
   aE ((gL S1 t d).2 != 0) (i64 (gL S1 t d).2=i64 (lH S (iP P B (fW S.g))).2∧FM A N3 (lH S (iP P B (fW S.g))).1 P B∧aD M N3 A.wr) (K71 N3):=by
   intro t d N3 ha a1 a2 a3
   rw[hsub,aHX ha] at hres
   have hst:=aDM hpts hac hn (by omega) (by omega) ha
   refine aT (fun e=>?_) (fun e=>?_)
   ·have e:(gL S1 t d).2≠0:=by simpa using e
    rw[if_pos e] at hres
    unfold lH
    rw[← hres,if_pos e]
    exact⟨rfl,a1,a2⟩
   ·have e:(gL S1 t d).2=0:=by simpa using e
    rw[if_neg (by rw[e];simp)] at hres
    rcases hst with⟨_,hp'⟩|⟨c,_⟩
    ·exact key71 N3 _ a2 a1 hp' hres a3
    ·rw[e] at c;cases c
  refine aG dB ?_
  refine aG aAC ?_
  rw[bV]
  refine aG hN.lmp ?_
  have lookB:∃ (x:AV),pV tb 75 (.map A.mb) (i64 (i:Int)) true N=some (.tup [x,.val (.bool (B i).isSome)],N):=by
   cases hB:B i with
   | none=>exact⟨jW,hb.none (by rw[hB];rfl)⟩
   | some d=>
     obtain⟨x,h1,_⟩:=hb.some (n:=i) (d:=d) (by rw[hB];rfl)
     exact⟨x,h1⟩
  obtain⟨xb,hlb⟩:=lookB
  have lookP:∃ (x:AV),pV tb 75 (.map A.mp) (i64 (i:Int)) true N=some (.tup [x,.val (.bool (P i).isSome)],N)∧(P i=none∨(P i=some none∧x=jW)∨∃ d,P i=some (some d)∧PgS N A x d):=by
   cases hP:P i with
   | none=>exact⟨jW,hp.none hP,.inl rfl⟩
   | some o=>
     cases o with
     | none=>exact⟨jW,hp.nil hP,.inr (.inl ⟨rfl,rfl⟩)⟩
     | some d=>
       obtain⟨x,h1,h2⟩:=hp.some hP
       exact⟨x,h1,.inr (.inr ⟨d,rfl,h2⟩)⟩
  obtain⟨xp,hlp,hpx⟩:=lookP
  refine aG hlp ⟨_,_,rfl,?_⟩
  refine aG dB ?_
  refine aG aGF ?_
  rw[bV]
  refine aG hN.lmb ?_
  refine aG hlb ⟨_,_,rfl,?_⟩
  refine bE fun K42 hK42=>?_
  have key42:∀ x41:AV,(P i=none∨(P i=some none∧x41=jW)∨∃ d,P i=some (some d)∧PgS N A x41 d)→K42 x41:=by
   intro x41 hx41
   rw[hK42]
   clear hK42
   refine bE fun M43 hM43=>?_
   have e43:M43=N.new (.cells [i64 0,i64 0,i64 0,i64 0] true):=hM43
   have k43:aD N M43 []:=by rw[e43];exact aD.new hN.wf _
   have g43:M43.get N.next=some (.cells [i64 0,i64 0,i64 0,i64 0] true):=by rw[e43];exact get_new _ _
   have n43:M43.next=N.next+1:=by rw[e43];rfl
   clear hM43 e43
   refine aG (xS ⟨1,i,0,0⟩ g43 rfl) ?_
   have k44:aD N (M43.put N.next (.cells (jV ⟨1,i,0,0⟩) true)) []:=xD k43 (Nat.le_refl _) (by omega) _
   generalize hM44:M43.put N.next (.cells (jV ⟨1,i,0,0⟩) true)=M44 at*
   have g44:M44.get N.next=some (.cells (jV ⟨1,i,0,0⟩) true):=by rw[← hM44,aC.get_put,if_pos rfl]
   have n44:M44.next=N.next+1:=by rw[← hM44];exact n43
   clear hM44
   have h44:=hN.post k44
   refine bE fun K61 hK61=>?_
   have key61:∀ (t:Tg) (x:AV) (d:bZ) (N2:aC),aD N N2 []→N2.get N.next=some (.cells (jV t) true)→iP P B (fW S.g) i=some (t,d)→PgS N2 A x d→K61 x N2:=by
    intro t x d N2 k2 g2 ha hx
    rw[hK61]
    clear hK61
    refine aG (aS (aB2 g2)) ⟨_,_,_,_,rfl,?_⟩
    refine putIt N2 t x d _ k2 ha hx ?_
    rintro y N3 rfl a1 a2 a3
    simp only[i64,aJ]
    exact aJo t d N3 ha a1 a2 a3
   clear hK61
   refine bE fun K55 hK55=>?_
   have key55t:iP P B (fW S.g) i=none→K55 true:=by
    intro ha
    rw[hK55]
    dsimp only
    rw[jF]
    exact skip _ k44 ha
   have key55f:(P i=some none∧x41=jW∧(B i).isSome=true∨∃ d,P i=some (some d)∧PgS N A x41 d)→K55 false:=by
    intro hc
    rw[hK55]
    dsimp only
    rw[fG]
    clear hK55
    rcases hc with⟨hP,rfl,hB⟩|⟨d,hP,hd⟩
    ·refine aG aDi ?_
     rw[cO,jF]
     refine aG (oF (dK dX rfl rfl g44 (by simp[jV]))) ?_
     have ha:iP P B (fW S.g) i=some (⟨2,i,0,0⟩,fW S.g):=by unfold iP;rw[hP];simp[hB]
     have k45:aD N (M44.put N.next (.cells ((jV ⟨1,i,0,0⟩).set 0 (.val (.int .i64 2))) true)) []:=xD k44 (Nat.le_refl _) (by omega) _
     refine key61 ⟨2,i,0,0⟩ _ (fW S.g) _ k45 (by rw[aC.get_put,if_pos rfl];rfl) ha (nonePg _ (k45.get hN.wf gN (by simp)))
    ·have ha:iP P B (fW S.g) i=some (⟨1,i,0,0⟩,d):=by unfold iP;rw[hP]
     obtain⟨b,o,c1,c2,e',rfl⟩:=hd.2.1
     refine aG aJj ?_
     rw[cO,fG]
     exact key61 ⟨1,i,0,0⟩ _ d _ k44 g44 ha (hd.keep hN.wf k44 (by simp))
   clear hK55
   refine aG dB ?_
   refine aG aOT ?_
   rw[bV]
   refine aG h44.lms ?_
   have hst:pV tb 97 (.map A.ms) (.val (.int .i64 (i:Int))) false M44=some (.val (.bool false),M44):=by
    have:=aIQ (l:=[]) h44.stale (i:Int)
    have h2:=oU this
    simp only[List.not_mem_nil,decide_false] at h2
    exact h2
   refine aG hst ?_
   rw[cO]
   simp only[Bool.not_false,jF]
   rcases hx41 with hP|⟨hP,rfl⟩|⟨d,hP,hd⟩
   ·rw[hP]
    simp only[Option.isSome_none,Bool.not_false,jF]
    exact key55t (by unfold iP;rw[hP])
   ·rw[hP]
    simp only[Option.isSome_some,Bool.not_true,fG]
    refine aG aDi ?_
    rw[cO,jF]
    cases hB:(B i).isSome with
    | true=>
      simp only[Bool.not_true]
      exact key55f (.inl ⟨hP,rfl,hB⟩)
    | false=>
      simp only[Bool.not_false]
      exact key55t (by unfold iP;rw[hP];simp[hB])
   ·rw[hP]
    simp only[Option.isSome_some,Bool.not_true,fG]
    obtain⟨b,o,c1,c2,e',rfl⟩:=hd.2.1
    refine aG aJj ?_
    rw[cO,fG]
    exact key55f (.inr ⟨d,hP,hd⟩)
  clear hK42
  cases hPs:(P i).isSome with
  | false=>
    have hP:P i=none:=by
     cases hq:P i with
     | none=>rfl
     | some v=>rw[hq] at hPs;cases hPs
    simp only[Bool.not_false,jF]
    exact key42 _ (.inl hP)
  | true=>
    simp only[Bool.not_true,fG]
    exact key42 _ hpx
 ·
  have hge:¬ (i:Int)<((nB S*nG S:Nat):Int):=of_decide_eq_false e
  have:i=nB S*nG S:=by omega
  subst this
  rw[Nat.sub_self] at hres
  have hres:(S1,(0:Int))=gU (iP P B (fW S.g)) (nB S*nG S) 0 S:=hres
  have hnow:=hpts.env.now
  have hx:=nonePg N gN
  refine (aOv hr1 hpre (by omega) (t:=qH) (d:=fW S.g) (fun s hs=>tR (g:=S.g) hr0.inv.may (by rw[hnow];exact hn) (.inr ⟨rfl,rfl⟩) (pL hr0.inv.may) s hs) (by rw[hgS];exact pL hr0.inv.may) (fun hk=>absurd rfl hk) (by rw[hpts.und.ep];exact Int.le_refl _) hx.1 hx.one hx.2.2).mono ?_
  rintro y N3 ⟨C',m',rfl,h3,k3⟩
  simp only[i64,aJ]
  unfold lH
  rw[← hres]
  simp only[ne_eq,not_true_eq_false,if_false]
  exact⟨by trivial,hN.step k3 ⟨C',m',h3⟩,hkN.trans k3 (fun _ h _=>h) (fun _ h _=>h)⟩
end
theorem eW.ep{S:Ps}(h:eW S)(x y:Int)(hx:S.ep≤x):eW { S with ep:=x,now:=y }:=
 ⟨h.may,h.len,h.pgs,⟨h.sq.le,h.sq.one⟩,fun b i v hv=>by
  obtain⟨a1,a2,a3,a4,a5⟩:=h.tag b i v hv
  exact⟨a1,a2,a3,a4,by show v.t.e≤x;omega⟩,h.bad,h.seq,h.cnt⟩
section
variable {A:bL} {M:aC} {S:Ps} {C:aQ} {m:List iK} {P:Int→Option (Option bZ)} {B:Int→Option bZ}
theorem aJ3{S:Ps}{P:Int→Option (Option bZ)}{B:Int→Option bZ}(h:tY S)(hP:aA1 S.g P)(hops:S.ops+dQ S*162+2000≤4294967295)(hep:S.ep+1≤16777215)(hc:(lH (bG S) (iP P B (fW S.g))).2=0):
 Pre { (lH (bG S) (iP P B (fW S.g))).1 with now:=0 } (nB S)∧nB (lH (bG S) (iP P B (fW S.g))).1=nB S∧(lH (bG S) (iP P B (fW S.g))).1.ops≤S.ops+dQ S*161:=by
 have hge:=h.inv.geo
 have hnp:nB S*nG S≤160:=by
  have:nB S*nG S≤20*8:=Nat.mul_le_mul (by omega) (by omega)
  omega
 have hK0:dQ S=9*(nB S+1)+1:=rfl
 have hKb:dQ (bG S)=dQ S:=rfl
 have hnbb:nB (bG S)=nB S:=rfl
 have hngb:nG (bG S)=nG S:=rfl
 have hl0:=(eT S).2.1
 have hnow:0≤(bG S).now∧(bG S).now≤16777215:=⟨by show 0≤S.ep+1;have:=h.ep;omega,hep⟩
 have hac:aBK (bG S).g (bG S).now (iP P B (fW S.g)):=aFw h.inv.may hP
 have hall:=yY hac hnow (by rw[hKb];show S.ops+_+_≤_;omega) (nB S*nG S) 0 (bG S) (by omega) (h.begin (ac:=iP P B (fW S.g))).2
 rw[Nat.add_zero] at hall
 have hmulB:dQ S*((nB S*nG S:Nat):Int)≤dQ S*160:=Int.mul_le_mul_of_nonneg_left (by omega) (by omega)
 have hgb:(bG S).g=S.g:=rfl
 unfold lH at hc ⊢
 rw[hnbb,hngb,hgb] at hc ⊢
 rcases hall with⟨c,hp⟩|⟨c,_⟩
 rotate_left
 ·rw[if_pos (show (gU (iP P B (fW S.g)) (nB S*nG S) 0 (bG S)).2≠0 by rw[c];simp),c] at hc
  cases hc
 have hne:¬ ((gU (iP P B (fW S.g)) (nB S*nG S) 0 (bG S)).2≠0):=by rw[c];simp
 rw[if_neg hne] at hc ⊢
 generalize (gU (iP P B (fW S.g)) (nB S*nG S) 0 (bG S)).1=R at*
 have hnbR:nB R=nB S:=hp.env.nB
 have hgR:R.g=S.g:=hp.env.g
 have hnowR:R.now=S.ep+1:=hp.env.now
 have hopR:S.ops≤R.ops∧R.ops≤S.ops+dQ S*((nB S*nG S:Nat):Int):=hp.ops
 have hpre:Pre R (nB R+1):=⟨hp.und.inv,hp.lost,hp.phi,by omega⟩
 have hok:∀ s:Int,0≤s∧s≤4294967295→wD (fW S.g) qH.k qH.p s R.now=true:=fun s hs=>tR (g:=S.g) h.inv.may (by rw[hnowR];exact hnow) (.inr ⟨rfl,rfl⟩) (pL h.inv.may) s hs
 have hpost:=aFu hpre hok (by rw[hgR];exact pL h.inv.may) (fun hk=>absurd rfl hk) (by rw[hp.und.ep];exact Int.le_refl _)
 have hpop:=hpost.ops
 rw[hnbR] at hpop
 rcases hpost.code with⟨c1,c2,c3,c4,_⟩|⟨c1,_⟩
 ·refine⟨⟨hpost.inv.ep _ 0 (Int.le_refl _),?_,?_,?_⟩,hpost.env.nB.trans hnbR,by omega⟩
  ·show (dD (gL R qH (fW S.g)).1:Int)≤(gL R qH (fW S.g)).1.g.sp
   rw[hpost.env.g];exact c3
  ·show 2+(gL R qH (fW S.g)).1.g.sp≤(phi (gL R qH (fW S.g)).1:Int)
   rw[hpost.env.g];exact c4
  ·show (gL R qH (fW S.g)).1.ops+_+_≤_
   omega
 ·rw[hc] at c1;cases c1
theorem aII(h:FR A M S C m)(hl:(dD S:Int)≤S.g.sp)(hp:2+S.g.sp≤phi S):aB tb.P 77 [.ptr A.f 0] M fun y N=>y=i64 0∧aD M N []:=by
 have hg:=h.geo
 have hph:=rF S
 refine aQi ?_
 unfold F77
 refine aG dB ?_
 refine aG nW ?_
 rw[bV]
 refine aG h.lbl ?_
 rw[aJ]
 refine bE fun K37 hK37=>?_
 refine⟨fun z n N=>z=0∧N=M,⟨0,rfl,rfl⟩,?_⟩
 rintro _ z n N ⟨rfl,rfl⟩
 rw[decide_eq_true (by omega:(0:Int)<(nB S:Int)),jF]
 refine bE fun K34 hK34=>?_
 refine (aIY h (is:=fD S) (wR aJL fun N' b hb _ hN'=>aFa hN' hb)).mono ?_
 rintro r M32 ⟨rfl,k32⟩
 simp only[i64,aJ]
 refine (aD6 (h.post k32)).mono ?_
 rintro r M36 ⟨rfl,k36⟩
 simp only[i64,aJ]
 have:(cnt (nB S) (fD S):Int)≥eV S:=by
  have:kG S=cnt (nB S) (fD S):=rfl
  unfold eV
  omega
 rw[decide_eq_true this,jF,hK37]
 exact⟨by first|trivial|rfl,k32.trans0 k36⟩
theorem aMy{b:Nat}{es:List (AV×AV)}(hg:M.get b=some (.map es)):cE tb false 75 (.map b) M=some (.val (.int .i64 (es.length:Int)),M):=by
 obtain⟨ti,h1,h2⟩:=aPy
 refine iO ?_
 unfold bD
 rw[h1]
 simp only[h2]
 have he:gX M (.map b)=some es:=by unfold gX;simp only;rw[hg]
 rw[he]
 rfl
theorem aHu{b:Nat}{es:List (AV×AV)}{t:TypeId}{ti:TI}(ht:tb.ty.get t=some ti)(hg:M.get b=some (.map es)):aNM tb t (.map b) M=some (.tup [],M.put b (.map [])):=by
 unfold aNM uF
 rw[ht]
 simp only[hg]
 rfl
theorem aEH{b:Nat}{pm:List (Int×AV)}{P:Int→Option (Option bZ)}(h:jY M A b pm P)(hw:M.WF)(hb:b∈A.av){n:Int}{x:Option bZ}(hn:P n=some x):
 ∃ pm',aL8 tb 75 (.map b) (i64 n) M=some (.tup [],M.put b (.map (mG i64 (fun x:AV=>x) pm')))∧jY (M.put b (.map (mG i64 (fun x:AV=>x) pm'))) A b pm' (fun k=>if k=n then none else P k):=by
 obtain⟨⟨n',v⟩,hq,rfl⟩:=h.cov n _ hn
 obtain⟨pre,post,e,e1,e2⟩:=kO h.nd hq
 obtain⟨ti,h1,h2⟩:=aPy
 have hk:aD M (M.put b (.map (mG i64 (fun x:AV=>x) (pre++post)))) [b]:=aD.put hw (hw _ _ h.get) _
 have hT:∀ c∈[b],c∈A.av:=fun c hc=>by rw[List.mem_singleton] at hc;rw[hc];exact hb
 refine⟨pre++post,?_,by rw[aC.get_put,if_pos rfl],?_,fun q hq'=>?_,fun k y hk'=>?_⟩
 ·unfold aL8 qS
  rw[h1]
  simp only[h2]
  rw[dX,h.get,e]
  simp only
  have hko:gR tb 60 3 (i64 n')=true:=iB.ok n'
  rw[hko,uD iB pre post 0 e1]
  simp only[cond_true,Option.map_some,Nat.zero_add]
  congr 4
  unfold mG
  rw[List.map_append,List.map_cons,List.eraseIdx_append_of_length_le (by simp)]
  simp
 ·have:=h.nd
  rw[e] at this
  rw[List.map_append,List.map_cons] at this
  rw[List.map_append]
  exact List.Nodup.sublist (List.Sublist.append_left (List.sublist_cons_self _ _) _) this
 ·have hqm:q∈pm:=by rw[e];rw[List.mem_append] at hq' ⊢;exact hq'.imp id fun h=>by simp[h]
  have hne:q.1≠n':=by
   rw[List.mem_append] at hq'
   exact hq'.elim (e1 q) (e2 q)
  simp only[if_neg hne]
  exact (h.ent q hqm).imp id fun⟨d,a1,a2⟩=>⟨d,a1,a2.keep hw hk hT⟩
 ·simp only at hk'
  by_cases ek:k=n'
  ·rw[if_pos ek] at hk';cases hk'
  ·rw[if_neg ek] at hk'
   obtain⟨q,hq',a1⟩:=h.cov k y hk'
   rw[e,List.mem_append,List.mem_cons] at hq'
   rcases hq' with hq'|rfl|hq'
   ·exact⟨q,by simp[hq'],a1⟩
   ·exact absurd a1.symm ek
   ·exact⟨q,by simp[hq'],a1⟩
theorem FM.setS(h:FM A M S P B){S':Ps}(hx:S'.x=S.x)(hg:S'.g=S.g)(hf:S'.fs=S.fs)(ho:S'.ops=S.ops)(hi:eW S'):
 FM A (M.put A.f (.cells (jZ (dZ A S')) true)) S' P B∧aD M (M.put A.f (.cells (jZ (dZ A S')) true)) A.wr:=by
 obtain⟨C,m,hr⟩:=h.fr
 obtain⟨a1,a2⟩:=hr.setF hx hg hf ho hi
 have hk:aD M (M.put A.f (.cells (jZ (dZ A S')) true)) A.wr:=a2.mono fun c hc _=>by rw[List.mem_singleton] at hc;subst hc;simp[bL.wr]
 exact⟨h.step hk ⟨C,m,a1⟩,hk⟩
def bL.mw(A:bL):List Nat:=A.mp::A.mb::A.ms::A.wr
theorem aMn(h:FM A M S P B)(hext:∀ c∈A.ext,c<M.next)(hq:tY S)(hP:aA1 S.g P)(hd:S.deg=false)(hops:S.ops+dQ S*165+8000≤1000000000)(hep:S.ep+1≤16777215):
 aB tb.P 50 [.ptr A.f 0] M fun y N=>((∀ n,P n=none)→y=i64 0∧FM A N S P B∧aD M N A.mw)∧
  (¬ (∀ n,P n=none)→y=i64 (kL S (iP P B (fW S.g))).2∧aD M N A.mw∧
   ((kL S (iP P B (fW S.g))).2=0→FM A N (kL S (iP P B (fW S.g))).1 (fun _=>none) (jO P B))∧((kL S (iP P B (fW S.g))).2≠0→FM A N (kL S (iP P B (fW S.g))).1 P B∨FM A N (kL S (iP P B (fW S.g))).1 (fun _=>none) (jO P B))):=by
 obtain⟨C,m,hr⟩:=h.fr
 obtain⟨pm,hp⟩:=h.pend
 have hgeo:=hr.geo
 have hK0:dQ S=9*(nB S+1)+1:=rfl
 have hwm:∀ c∈A.wr,c∈A.mw:=fun c hc=>by simp[bL.mw,hc]
 obtain⟨⟨w1,w2,w3⟩,w4,w5,w6⟩:=bL.maps h.dis
 have hav:=h.av_lt hext
 refine aP8 ?_
 unfold F50
 refine aG tS ?_
 rw[cO,fG]
 refine aG dB ?_
 refine aG jL ?_
 rw[bV]
 refine aG hr.ldp ?_
 refine (aLJ M h.wf A.p C hr.chip).mono ?_
 rintro y N ⟨rfl,rfl⟩
 rw[hr.rel.calm.off]
 simp only[cO,Bool.not_false,Bool.not_true,fG]
 refine aG dB ?_
 refine aG aJi ?_
 rw[bV]
 refine aG h.ldg ?_
 rw[cO,hd,fG]
 refine (aC6 hr).mono ?_
 have hw0:jI S=(S,0):=by unfold jI;rw[if_pos hq.lost]
 rw[hw0]
 rintro y M18 ⟨rfl,hr18,k18⟩
 simp only[i64,aJ]
 have K18:aD N M18 A.wr:=k18.mono fun c hc _=>by rw[List.mem_singleton] at hc;subst hc;simp[bL.wr]
 have h18:=h.step K18 ⟨C,m,hr18⟩
 have hp18:=hp.keep h.wf K18 w2 fun c hc=>bL.wr_av hc
 refine bE fun K28 hK28=>?_
 have key28t:(∀ n,P n=none)→K28 true:=by
  intro hno
  rw[hK28]
  dsimp only
  rw[jF]
  exact⟨fun _=>⟨by first|trivial|rfl,h18,K18.mono fun c hc _=>hwm c hc⟩,fun hn=>absurd hno hn⟩
 have key28f:¬ (∀ n,P n=none)→K28 false:=by
  intro hne
  rw[hK28]
  dsimp only
  rw[fG]
  clear hK28 key28t
  refine (aII hr18 hq.lost hq.phi).mono ?_
  rintro y M30 ⟨rfl,k30⟩
  simp only[i64,aJ]
  simp only[bne_self_eq_false,fG]
  have h30:=h18.post k30
  have fa7:∀ N,cG tb 99 (.ptr A.f 0) 7 N=some (.ptr A.f 11,N):=fun N=>bW (by unfold eZf;rw[aBw];rfl)
  have fa8:∀ N,cG tb 99 (.ptr A.f 0) 8 N=some (.ptr A.f 12,N):=fun N=>bW (by unfold eZf;rw[aBw];rfl)
  have hep0:0≤S.ep:=by rw[hq.ep];exact (eT S).2.1
  refine aG dB ?_
  refine aG (fa7 _) ?_
  rw[bV]
  refine aG (aS (eB dX rfl h30.flA (o:=11) (v:=i64 S.ep) rfl)) ?_
  simp only[i64,aJ]
  refine aG dB ?_
  refine aG (fa7 _) ?_
  rw[bV,ib (by omega)]
  refine aG (oF (dK dX rfl rfl h30.flA (by simp[jZ]))) ?_
  obtain⟨h42,k42⟩:=h30.setS (S':={ S with ep:=S.ep+1,now:=S.now }) rfl rfl rfl rfl (hq.inv.ep (S.ep+1) S.now (by omega))
  have es1:(jZ (dZ A S)).set 11 (.val (.int .i64 (S.ep+1)))=jZ (dZ A { S with ep:=S.ep+1,now:=S.now }):=rfl
  rw[es1]
  generalize M30.put A.f (.cells (jZ (dZ A { S with ep:=S.ep+1,now:=S.now })) true)=M42 at*
  refine aG dB ?_
  refine aG (fa7 _) ?_
  rw[bV]
  refine aG (aS (eB dX rfl h42.flA (o:=11) (v:=i64 (S.ep+1)) rfl)) ?_
  simp only[i64,aJ]
  refine aG dB ?_
  refine aG (fa8 _) ?_
  rw[bV]
  refine aG (oF (dK dX rfl rfl h42.flA (by simp[jZ]))) ?_
  obtain⟨h53,k53⟩:=h42.setS (S':=bG S) rfl rfl rfl rfl (hq.inv.ep (S.ep+1) (S.ep+1) (by omega))
  have es2:(jZ (dZ A { S with ep:=S.ep+1,now:=S.now })).set 12 (.val (.int .i64 (S.ep+1)))=jZ (dZ A (bG S)):=rfl
  rw[es2]
  generalize M42.put A.f (.cells (jZ (dZ A (bG S))) true)=M53 at*
  have K53:aD N M53 A.wr:=((K18.trans k30 (fun _ h _=>h) (by simp)).trans k42 (fun _ h _=>h) (fun _ h _=>h)).trans k53 (fun _ h _=>h) (fun _ h _=>h)
  have hext53:∀ c∈A.ext,c<M53.next:=fun c hc=>Nat.lt_of_lt_of_le (hext c hc) K53.nxt
  obtain⟨hund,hpts⟩:=hq.begin (ac:=iP P B (fW S.g))
  refine (aRa h53 hext53 hpts (aFw hq.inv.may hP) ⟨by show 0≤S.ep+1;omega,hep⟩ (by show S.ops+dQ S*163+5000≤_;omega)).mono ?_
  rintro y M55 ⟨rfl,h55,k55⟩
  simp only[i64,aJ]
  have hzer:fW (bG S).g=fW S.g:=rfl
  rw[hzer] at h55 ⊢
  generalize hR:lH (bG S) (iP P B (fW S.g))=R at*
  have hflx:kL S (iP P B (fW S.g))=if R.2≠0 then ({ R.1 with now:=0 },R.2) else mO { R.1 with now:=0 }:=by unfold kL;rw[hR]
  refine aG dB ?_
  refine aG (fa8 _) ?_
  rw[bV]
  obtain⟨C55,m55,hr55⟩:=h55.fr
  refine aG (oF (dK dX rfl rfl h55.flA (by simp[jZ]))) ?_
  obtain⟨h61,k61⟩:=h55.setS (S':={ R.1 with now:=0 }) rfl rfl rfl rfl (hr55.inv.ep R.1.ep 0 (Int.le_refl _))
  have es3:(jZ (dZ A R.1)).set 12 (.val (.int .i64 0))=jZ (dZ A { R.1 with now:=0 }):=rfl
  rw[es3]
  generalize M55.put A.f (.cells (jZ (dZ A { R.1 with now:=0 })) true)=M61 at*
  have K61:aD N M61 A.wr:=(K53.trans k55 (fun _ h _=>h) (fun _ h _=>h)).trans k61 (fun _ h _=>h) (fun _ h _=>h)
  refine aT (fun e=>?_) (fun e=>?_)
  ·have e:R.2≠0:=by simpa using e
   rw[if_pos e] at hflx
   rw[hflx]
   exact⟨fun hno=>absurd hno hne,fun _=>⟨by first|trivial|rfl,K61.mono fun c hc _=>hwm c hc,fun e'=>absurd e' e,fun _=> .inl h61⟩⟩
  ·have e:R.2=0:=by simpa using e
   rw[if_neg (by rw[e];simp)] at hflx
   have hp61:jY M61 A A.mp pm P:=hp.keep h.wf K61 w2 fun c hc=>bL.wr_av hc
   obtain⟨bm,hb61⟩:=h61.base
   obtain⟨C61,m61,hr61⟩:=h61.fr
   have hmpL:A.mp<M61.next:=h61.wf _ _ hp61.get
   refine aG dB ?_
   refine aG aAC ?_
   rw[bV]
   refine aG h61.lmp ?_
   have he:jH M61 (.map A.mp)=some (some A.mp,mG i64 (fun x:AV=>x) pm):=by unfold jH;simp only;rw[hp61.get]
   rw[he,eM]
   have kkill:aD M61 (M61.kill A.mp) [A.mp]:=⟨h61.wf.kill _,Nat.le_refl _,fun c _ hc=>by rw[aC.get_kill,if_neg (by simpa using hc)]⟩
   have hT1:∀ c∈[A.mp],c∈A.av:=fun c hc=>by rw[List.mem_singleton] at hc;rw[hc];exact gW.1
   have hT2:∀ c∈[A.mb],c∈A.av:=fun c hc=>by rw[List.mem_singleton] at hc;rw[hc];exact gW.2.1
   have stepX:∀ {M1 M2:aC} {S1:Ps} {C1:aQ} {m1:List iK} {c0:Nat},FR A M1 S1 C1 m1→aD M1 M2 [c0]→c0∈A.av→c0∉A.wr→FR A M2 S1 C1 m1:=fun {M1 M2 S1 C1 m1 c0} hr1 hk1 h1 h2=>by
    refine hr1.keepS hk1 fun c hc=>?_
    rw[List.mem_singleton] at hc
    subst hc
    refine⟨h2,fun hm=>hr1.fsx _ hm h1,fun q hq hm=>?_⟩
    obtain⟨_,_,_,_,_,_,_,_,e6⟩:=hr1.lnk q hq
    exact e6 _ hm h1
   refine⟨fun rem n Q=>∃ (rem':List (Int×AV)) (bm':List (Int×AV)),rem=mG i64 (fun x:AV=>x) rem'∧(∀ q∈rem',q∈pm)∧(rem'.map (·.1)).Nodup∧FR A Q { R.1 with now:=0 } C61 m61∧jY Q A A.mb bm' (fun k=>if k∈rem'.map (·.1) then (B k).map some else (jO P B k).map some)∧aD (M61.kill A.mp) Q [A.mb],
    ⟨pm,bm,rfl,fun _ h=>h,hp61.nd,stepX hr61 kkill gW.1 w2,?_,⟨kkill.wf,Nat.le_refl _,fun _ _ _=>rfl⟩⟩,?_⟩
   ·have h1:=hb61.keep h61.wf kkill (by simp[w4]) hT1
    refine⟨h1.get,h1.nd,fun q hq=>?_,fun k x hk=>h1.cov k x ?_⟩
    ·rcases h1.ent q hq with⟨a1,a2⟩|⟨d,a1,a2⟩
     ·cases hB:B q.1 with
      | none=>rw[hB] at a2;cases a2
      | some d=>rw[hB] at a2;cases a2
     ·refine .inr ⟨d,?_,a2⟩
      split
      ·exact a1
      ·rename_i hnk
       have hPn:P q.1=none:=by
        cases hpp:P q.1 with
        | none=>rfl
        | some v=>
          obtain⟨q',hq',e'⟩:=hp61.cov _ _ hpp
          exact absurd (List.mem_map.2 ⟨q',hq',e'⟩) hnk
       unfold jO
       rw[hPn]
       exact a1
    ·split at hk
     ·exact hk
     ·rename_i hnk
      have hPn:P k=none:=by
       cases hpp:P k with
       | none=>rfl
       | some v=>
         obtain⟨q',hq',e'⟩:=hp61.cov _ _ hpp
         exact absurd (List.mem_map.2 ⟨q',hq',e'⟩) hnk
      unfold jO at hk
      rw[hPn] at hk
      exact hk
   rintro _ rem Q ⟨rem',bm',rfl,hsub,hnd,hrQ,hbQ,hkQ⟩
   refine⟨fun hnil=>?_,fun i kx vx hi=>?_⟩
   ·have hrm:rem'=[]:=by
     cases rem' with
     | nil=>rfl
     | cons a l=>simp[mG] at hnil
    subst hrm
    have hQlt:A.mp<Q.next:=Nat.lt_of_lt_of_le hmpL hkQ.nxt
    rw[show lT Q (some A.mp,mG i64 (fun x:AV=>x) pm)=Q.put A.mp (.map (mG i64 (fun x:AV=>x) pm)) from rfl]
    have kS:aD Q (Q.put A.mp (.map (mG i64 (fun x:AV=>x) pm))) [A.mp]:=aD.put hkQ.wf hQlt _
    have gS:(Q.put A.mp (.map (mG i64 (fun x:AV=>x) pm))).get A.mp=some (.map (mG i64 (fun x:AV=>x) pm)):=by rw[aC.get_put,if_pos rfl]
    have stQ:Q.get A.ms=some (.map []):=by
     have hms:=h61.wf _ _ h61.stale
     rw[hkQ.old _ (show A.ms<(M61.kill A.mp).next from hms) (by simp;exact fun e=>w5 e.symm),aC.get_kill,if_neg (fun e=>w6 e.symm)]
     exact h61.stale
    have stS:(Q.put A.mp (.map (mG i64 (fun x:AV=>x) pm))).get A.ms=some (.map []):=by rw[aC.get_put,if_neg (fun e=>w6 e.symm)];exact stQ
    have hrS:=stepX hrQ kS gW.1 w2
    have hbS:=hbQ.keep hkQ.wf kS (by simp[w4]) hT1
    generalize Q.put A.mp (.map (mG i64 (fun x:AV=>x) pm))=Q1 at*
    have flS:∀ {Q':aC},FR A Q' { R.1 with now:=0 } C61 m61→aH tb 75 (.ptr A.f 8) Q'=some (.map A.mp,Q')∧aH tb 97 (.ptr A.f 9) Q'=some (.map A.ms,Q'):=fun {Q'} hr'=>⟨aS (eB sJ rfl hr'.fl (o:=8) (v:= .map A.mp) rfl),aS (eB aIz rfl hr'.fl (o:=9) (v:= .map A.ms) rfl)⟩
    refine aG dB ?_
    refine aG aAC ?_
    rw[bV]
    refine aG (flS hrS).1 ?_
    refine aG (aHu sJ gS) ?_
    have kC:aD Q1 (Q1.put A.mp (.map [])) [A.mp]:=aD.put kS.wf (kS.wf _ _ gS) _
    have hrC:=stepX hrS kC gW.1 w2
    have hbC:=hbS.keep kS.wf kC (by simp[w4]) hT1
    have gC:(Q1.put A.mp (.map [])).get A.mp=some (.map []):=by rw[aC.get_put,if_pos rfl]
    have stC:(Q1.put A.mp (.map [])).get A.ms=some (.map []):=by rw[aC.get_put,if_neg (fun e=>w6 e.symm)];exact stS
    generalize Q1.put A.mp (.map [])=Q2 at*
    refine aG dB ?_
    refine aG aOT ?_
    rw[bV]
    refine aG (flS hrC).2 ?_
    refine aG (aHu aIz stC) ?_
    have kD:aD Q2 (Q2.put A.ms (.map [])) [A.ms]:=aD.put kC.wf (kC.wf _ _ stC) _
    have hrD:=stepX hrC kD gW.2.2 w3
    have hbD:=hbC.keep kC.wf kD (by simp[w5]) (fun c hc=>by rw[List.mem_singleton] at hc;rw[hc];exact gW.2.2)
    have gD:(Q2.put A.ms (.map [])).get A.mp=some (.map []):=by rw[aC.get_put,if_neg (fun e=>w6 e)];exact gC
    have stD:(Q2.put A.ms (.map [])).get A.ms=some (.map []):=by rw[aC.get_put,if_pos rfl]
    generalize Q2.put A.ms (.map [])=Q3 at*
    have KQ3:aD N Q3 A.mw:=by
     refine ((((((K61.mono (S':=A.mw) fun c hc _=>hwm c hc).trans kkill (fun _ h _=>h) ?_).trans hkQ (fun _ h _=>h) ?_).trans kS (fun _ h _=>h) ?_).trans kC (fun _ h _=>h) ?_).trans kD (fun _ h _=>h) ?_)
     ·exact fun c hc _=>by rw[List.mem_singleton] at hc;subst hc;simp[bL.mw]
     ·exact fun c hc _=>by rw[List.mem_singleton] at hc;subst hc;simp[bL.mw]
     ·exact fun c hc _=>by rw[List.mem_singleton] at hc;subst hc;simp[bL.mw]
     ·exact fun c hc _=>by rw[List.mem_singleton] at hc;subst hc;simp[bL.mw]
     ·exact fun c hc _=>by rw[List.mem_singleton] at hc;subst hc;simp[bL.mw]
    have hfm:FM A Q3 { R.1 with now:=0 } (fun _=>none) (jO P B):=by
     refine⟨⟨C61,m61,hrD⟩,⟨[],gD,List.nodup_nil,fun q hq=>by simp at hq,fun n x hx=>by cases hx⟩,⟨bm',?_⟩,stD⟩
     have:(fun k:Int=>if k∈([]:List (Int×AV)).map (·.1) then (B k).map some else (jO P B k).map some)=fun n=>(jO P B n).map some:=by funext k;simp
     rw[this] at hbD
     exact hbD
    have hpre:=aJ3 hq hP (by omega) hep (B:=B) (by rw[hR];exact e)
    rw[hR] at hpre
    have hops2:R.1.ops+1000≤1000000000:=by
     have:=hpre.2.2
     omega
    refine (aGG hrD (show Pre { R.1 with now:=0 } (nB R.1) by rw[hpre.2.1];exact hpre.1) hops2).mono ?_
    rintro y Q4 ⟨C4,m4,rfl,hr4,k4⟩
    simp only[i64,aJ]
    rw[hflx]
    have h4:=hfm.step k4 ⟨C4,m4,hr4⟩
    refine⟨fun hno=>absurd hno hne,fun _=>⟨by first|trivial|rfl,KQ3.trans k4 (fun _ h _=>h) (fun c hc _=>hwm c hc),fun _=>h4,fun _=> .inr h4⟩⟩
   ·
    obtain⟨q,hqi,e1⟩:∃ q,rem'[i]? =some q∧(kx,vx)=(i64 q.1,q.2):=by
     unfold mG at hi
     rw[List.getElem?_map] at hi
     obtain⟨q,h1,h2⟩:=Option.map_eq_some_iff.1 hi
     exact⟨q,h1,h2.symm⟩
    injection e1 with e1 e2
    subst e1 e2
    have hqm:q∈pm:=hsub q (List.mem_of_getElem? hqi)
    have hpr:=kJ hqi
    have hme:(mG i64 (fun x:AV=>x) rem').eraseIdx i=mG i64 (fun x:AV=>x) (rem'.eraseIdx i):=mC _ _ _
    rw[hme]
    have hsub':∀ q'∈rem'.eraseIdx i,q'∈pm:=fun q' h'=>hsub q' (List.mem_of_mem_eraseIdx h')
    have hkp:(rem'.map (·.1)).Perm (q.1::(rem'.eraseIdx i).map (·.1)):=hpr.map _
    have hnd2:=hkp.nodup_iff.1 hnd
    rw[List.nodup_cons] at hnd2
    have hkeys:∀ k,k∈(rem'.eraseIdx i).map (·.1)↔(k∈rem'.map (·.1)∧k≠q.1):=fun k=>by
     rw[hkp.mem_iff,List.mem_cons]
     constructor
     ·intro hk
      exact⟨.inr hk,fun e=>hnd2.1 (e▸hk)⟩
     ·rintro⟨h1|h1,h2⟩
      ·exact absurd h1 h2
      ·exact h1
    simp only[i64,aJ]
    refine aG dB ?_
    refine aG aGF ?_
    rw[bV]
    have lmb:aH tb 75 (.ptr A.f 7) Q=some (.map A.mb,Q):=aS (eB sJ rfl hrQ.fl (o:=7) (v:= .map A.mb) rfl)
    refine aG lmb ?_
    have toQ:∀ d,PgS M61 A q.2 d→PgS Q A q.2 d:=fun d hd=>(hd.keep h61.wf kkill hT1).keep kkill.wf hkQ hT2
    rcases hp61.ent q hqm with⟨e3,e4⟩|⟨d,e4,e5⟩
    ·obtain⟨pm',p1,p2,_⟩:=hbQ.put hkQ.wf gW.2.1 q.1 q.2 none (.inl ⟨e3,rfl⟩)
     refine aG p1 ?_
     rw[e3]
     have e6:cZ tb .eql 25 (.tmp 79) (.const (.slice none 0 0)) jW jW (Q.put A.mb (.map (mG i64 (fun x:AV=>x) pm')))=some (.val (.bool true),Q.put A.mb (.map (mG i64 (fun x:AV=>x) pm'))):=aDi
     refine aG e6 ?_
     rw[cO,jF]
     have k1:aD Q (Q.put A.mb (.map (mG i64 (fun x:AV=>x) pm'))) [A.mb]:=aD.put hkQ.wf (hkQ.wf _ _ hbQ.get) _
     have hr1:=stepX hrQ k1 gW.2.1 w1
     have kk1:=hkQ.trans k1 (fun _ h _=>h) (fun _ h _=>h)
     generalize Q.put A.mb (.map (mG i64 (fun x:AV=>x) pm'))=Q1 at*
     refine aG dB ?_
     refine aG aGF ?_
     rw[bV]
     have lmb1:aH tb 75 (.ptr A.f 7) Q1=some (.map A.mb,Q1):=aS (eB sJ rfl hr1.fl (o:=7) (v:= .map A.mb) rfl)
     refine aG lmb1 ?_
     obtain⟨pm2,d1,d2⟩:=aEH p2 k1.wf gW.2.1 (n:=q.1) (x:=none) (by unfold lW;rw[if_pos rfl])
     refine aG d1 ?_
     have k2:aD Q1 (Q1.put A.mb (.map (mG i64 (fun x:AV=>x) pm2))) [A.mb]:=aD.put k1.wf (k1.wf _ _ p2.get) _
     refine⟨rem'.eraseIdx i,pm2,rfl,hsub',hnd2.2,stepX hr1 k2 gW.2.1 w1,?_,kk1.trans k2 (fun _ h _=>h) (fun _ h _=>h)⟩
     have hfun:(fun k:Int=>if k∈(rem'.eraseIdx i).map (·.1) then (B k).map some else (jO P B k).map some)=fun k=>if k=q.1 then none else lW (fun k=>if k∈rem'.map (·.1) then (B k).map some else (jO P B k).map some) q.1 none k:=by
      funext k
      by_cases ek:k=q.1
      ·rw[if_pos ek,if_neg (fun hm=>((hkeys k).1 hm).2 ek)]
       unfold jO
       rw[ek,e4]
       rfl
      ·rw[if_neg ek]
       unfold lW
       rw[if_neg ek]
       dsimp only
       by_cases hm:k∈rem'.map (·.1)
       ·rw[if_pos hm,if_pos ((hkeys k).2 ⟨hm,ek⟩)]
       ·rw[if_neg hm,if_neg (fun h=>hm ((hkeys k).1 h).1)]
     rw[hfun]
     exact d2
    ·obtain⟨pm',p1,p2,_⟩:=hbQ.put hkQ.wf gW.2.1 q.1 q.2 (some d) (.inr ⟨d,rfl,toQ d e5⟩)
     refine aG p1 ?_
     have e6:cZ tb .eql 25 (.tmp 79) (.const (.slice none 0 0)) q.2 jW (Q.put A.mb (.map (mG i64 (fun x:AV=>x) pm')))=some (.val (.bool false),Q.put A.mb (.map (mG i64 (fun x:AV=>x) pm'))):=by
      obtain⟨b,o,c1,c2,e',hsl⟩:=e5.2.1
      rw[hsl]
      exact aJj
     refine aG e6 ?_
     rw[cO,fG]
     have k1:aD Q (Q.put A.mb (.map (mG i64 (fun x:AV=>x) pm'))) [A.mb]:=aD.put hkQ.wf (hkQ.wf _ _ hbQ.get) _
     refine⟨rem'.eraseIdx i,pm',rfl,hsub',hnd2.2,stepX hrQ k1 gW.2.1 w1,?_,hkQ.trans k1 (fun _ h _=>h) (fun _ h _=>h)⟩
     have hfun:(fun k:Int=>if k∈(rem'.eraseIdx i).map (·.1) then (B k).map some else (jO P B k).map some)=lW (fun k=>if k∈rem'.map (·.1) then (B k).map some else (jO P B k).map some) q.1 (some d):=by
      funext k
      unfold lW
      by_cases ek:k=q.1
      ·rw[if_pos ek,if_neg (fun hm=>((hkeys k).1 hm).2 ek)]
       unfold jO
       rw[ek,e4]
       rfl
      ·rw[if_neg ek]
       dsimp only
       by_cases hm:k∈rem'.map (·.1)
       ·rw[if_pos hm,if_pos ((hkeys k).2 ⟨hm,ek⟩)]
       ·rw[if_neg hm,if_neg (fun h=>hm ((hkeys k).1 h).1)]
     rw[hfun]
     exact p2
 clear hK28
 simp only[bne_self_eq_false,fG]
 refine aG dB ?_
 refine aG aAC ?_
 rw[bV]
 refine aG h18.lmp ?_
 refine aG (aMy hp18.get) ?_
 rw[aJ]
 unfold mG
 rw[List.length_map]
 by_cases hno:∀ n,P n=none
 ·have:pm=[]:=by
   cases pm with
   | nil=>rfl
   | cons q l=>
     rcases hp.ent q (by simp) with⟨_,a⟩|⟨d,a,_⟩
     ·rw[hno] at a;cases a
     ·rw[hno] at a;cases a
  subst this
  exact key28t hno
 ·have:pm.length≠0:=fun e=>hno fun n=>by
   cases hpp:P n with
   | none=>rfl
   | some v=>
     obtain⟨q',hq',_⟩:=hp.cov _ _ hpp
     rw[List.eq_nil_of_length_eq_zero e] at hq'
     simp at hq'
  have hb:((pm.length:Int)==0)=false:=by
   cases e:((pm.length:Int)==0) with
   | false=>rfl
   | true=>rw[beq_iff_eq] at e;omega
  rw[hb]
  exact key28f hno
end
theorem uH{m:List (Int×Fd)}(hn:(m.map (·.1)).Nodup)(p:Int)(f:Fd)(q:Int×Fd):q∈aBj m p f↔q=(p,f)∨(q∈m∧q.1≠p):=by
 unfold aBj
 cases h:wU m p with
 | none=>
   have hno:=qM h
   simp only[List.mem_append,List.mem_singleton]
   constructor
   ·rintro (h1|h1)
    ·exact .inr ⟨h1,fun e=>hno (List.mem_map.2 ⟨q,h1,e⟩)⟩
    ·exact .inl h1
   ·rintro (h1|⟨h1,_⟩)
    ·exact .inr h1
    ·exact .inl h1
 | some r=>
   have hr:=aAt h
   obtain⟨hlt,hre⟩:=List.getElem?_eq_some_iff.1 hr
   have hmem:(p,r.2)∈m:=List.mem_of_getElem? hr
   simp only
   have e1:m=m.take r.1++(p,r.2)::m.drop (r.1+1):=by
    have h0:=List.take_append_drop r.1 m
    rw[List.drop_eq_getElem_cons hlt,hre] at h0
    exact h0.symm
   have e2:m.set r.1 (p,f)=m.take r.1++(p,f)::m.drop (r.1+1):=by rw[List.set_eq_take_append_cons_drop,if_pos hlt]
   rw[e2]
   have hn':=hn
   rw[e1,List.map_append,List.map_cons,List.nodup_append,List.nodup_cons] at hn'
   obtain⟨_,⟨n1,_⟩,n2⟩:=hn'
   have k1:∀ q∈m.take r.1,q.1≠p:=fun q hq e=>n2 q.1 (List.mem_map.2 ⟨q,hq,rfl⟩) p (by simp) e
   have k2:∀ q∈m.drop (r.1+1),q.1≠p:=fun q hq e=>n1 (List.mem_map.2 ⟨q,hq,e⟩)
   have hm:q∈m↔q∈m.take r.1∨q=(p,r.2)∨q∈m.drop (r.1+1):=by
    conv=>lhs;rw[e1]
    simp only[List.mem_append,List.mem_cons]
   rw[hm,List.mem_append,List.mem_cons]
   constructor
   ·rintro (h1|h1|h1)
    ·exact .inr ⟨.inl h1,k1 q h1⟩
    ·exact .inl h1
    ·exact .inr ⟨.inr (.inr h1),k2 q h1⟩
   ·rintro (h1|⟨h1|h1|h1,h2⟩)
    ·exact .inr (.inl h1)
    ·exact .inl h1
    ·rw[h1] at h2;exact absurd rfl h2
    ·exact .inr (.inr h1)
def dk(last:Int)(t:Tg):Prop:=(t.k=1∨t.k=2)∧t.e≤last
structure aHV (last:Int) (pre:List Fd) (m:List (Int×Fd)):Prop where
 nd:(m.map (·.1)).Nodup
 snd:∀ q∈m,q.2∈pre∧dk last q.2.t∧q.2.t.p=q.1∧∀ g∈pre,dk last g.t→g.t.p=q.1→gA g.t q.2.t=false
 cmp:∀ g∈pre,dk last g.t→∃ q∈m,q.1=g.t.p
theorem aHV.step{last:Int}{pre:List Fd}{m:List (Int×Fd)}(h:aHV last pre m)(x:Fd):aHV last (pre++[x]) (nwS last m x):=by
 unfold nwS
 by_cases hx:dk last x.t
 ·have hc:¬ ((x.t.k≠1∧x.t.k≠2)∨x.t.e>last):=by
   obtain⟨h1,h2⟩:=hx
   omega
  rw[if_neg hc]
  have put:(∀ y,(x.t.p,y)∈m→gA x.t y.t=true)→aHV last (pre++[x]) (aBj m x.t.p x):=fun hn=>by
   refine⟨(wQ h.nd).1,fun q hq=>?_,fun g hg hd=>?_⟩
   ·rcases (uH h.nd _ _ q).1 hq with rfl|⟨hq,hne⟩
    ·refine⟨by simp,hx,rfl,fun g hg hd hp=>?_⟩
     rw[List.mem_append,List.mem_singleton] at hg
     rcases hg with hg|rfl
     ·obtain⟨⟨c,y⟩,hy,hyc⟩:=h.cmp g hg hd
      simp only at hyc
      have hcp:c=x.t.p:=by rw[hyc];exact hp
      subst hcp
      exact xO ((h.snd _ hy).2.2.2 g hg hd hp) (hn y hy)
     ·rw[cN];exact .inr ⟨rfl,Int.le_refl _⟩
    ·obtain⟨h1,h2,h3,h4⟩:=h.snd q hq
     refine⟨by simp[h1],h2,h3,fun g hg hd hp=>?_⟩
     rw[List.mem_append,List.mem_singleton] at hg
     rcases hg with hg|rfl
     ·exact h4 g hg hd hp
     ·exact absurd hp.symm hne
   ·rw[List.mem_append,List.mem_singleton] at hg
    rcases hg with hg|rfl
    ·obtain⟨q,hq,e⟩:=h.cmp g hg hd
     by_cases e2:q.1=x.t.p
     ·exact⟨(x.t.p,x),(uH h.nd _ _ _).2 (.inl rfl),by rw[← e,e2]⟩
     ·exact⟨q,(uH h.nd _ _ _).2 (.inr ⟨hq,e2⟩),e⟩
    ·exact⟨_,(uH h.nd _ _ _).2 (.inl rfl),rfl⟩
  cases hl:wU m x.t.p with
  | none=>
    have hno:=qM hl
    exact put fun y hy=>absurd (List.mem_map.2 ⟨_,hy,rfl⟩) hno
  | some r=>
    have hr:=List.mem_of_getElem? (aAt hl)
    have uniq:∀ y,(x.t.p,y)∈m→y=r.2:=fun y hy=>by
     obtain⟨pre',post',e,e1,e2⟩:=kO h.nd hr
     rw[e,List.mem_append,List.mem_cons] at hy
     rcases hy with hy|hy|hy
     ·exact absurd rfl (e1 _ hy)
     ·injection hy
     ·exact absurd rfl (e2 _ hy)
    simp only
    by_cases hnw:gA x.t r.2.t=true
    ·rw[if_pos hnw]
     exact put fun y hy=>by rw[uniq y hy];exact hnw
    ·rw[if_neg hnw]
     refine⟨h.nd,fun q hq=>?_,fun g hg hd=>?_⟩
     ·obtain⟨h1,h2,h3,h4⟩:=h.snd q hq
      refine⟨by simp[h1],h2,h3,fun g hg hd hp=>?_⟩
      rw[List.mem_append,List.mem_singleton] at hg
      rcases hg with hg|rfl
      ·exact h4 g hg hd hp
      ·have hq':(g.t.p,q.2)∈m:=by rw[hp];exact hq
       rw[uniq _ hq']
       simpa using hnw
     ·rw[List.mem_append,List.mem_singleton] at hg
      rcases hg with hg|rfl
      ·exact h.cmp g hg hd
      ·exact⟨_,hr,rfl⟩
 ·have hc:(x.t.k≠1∧x.t.k≠2)∨x.t.e>last:=by
   unfold dk at hx
   by_cases h1:x.t.e>last
   ·exact .inr h1
   ·left
    constructor
    ·intro h2;exact hx ⟨.inl h2,by omega⟩
    ·intro h2;exact hx ⟨.inr h2,by omega⟩
  rw[if_pos hc]
  refine⟨h.nd,fun q hq=>?_,fun g hg hd=>?_⟩
  ·obtain⟨h1,h2,h3,h4⟩:=h.snd q hq
   refine⟨by simp[h1],h2,h3,fun g hg hd hp=>?_⟩
   rw[List.mem_append,List.mem_singleton] at hg
   rcases hg with hg|rfl
   ·exact h4 g hg hd hp
   ·exact absurd hd hx
  ·rw[List.mem_append,List.mem_singleton] at hg
   rcases hg with hg|rfl
   ·exact h.cmp g hg hd
   ·exact absurd hd hx
theorem aJ1(last:Int)(l:List Fd):∀ n,n≤l.length→aHV last (l.take n) (nwN last l n)
 | 0,_=>⟨List.nodup_nil,fun q hq=>by simp[nwN] at hq,fun g hg=>by simp at hg⟩
 | n+1,h=>by
   have ih:=aJ1 last l n (by omega)
   rw[aDF (by omega),List.take_add_one,List.getElem?_eq_getElem (by omega)]
   exact ih.step _
theorem aFl(l:List Fd):aHV (cM l) l (nwF l):=by
 have:=aJ1 (cM l) l l.length (Nat.le_refl _)
 rw[List.take_length] at this
 exact this
theorem aGR{S:Ps}(hi:eW S){l:List Fd}(hl:∀ f,f∈l↔f∈fds S){p:Int}(hp:0≤p)(b i:Nat)(v:sD):jX S (p,false) b i v↔bI S b i=some v∧(p,(⟨(b:Int),(i:Int),v.t⟩:Fd))∈nwF l:=by
 have hlast:cM l=bK S:=vR hl
 have hok:=aFl l
 rw[hlast] at hok
 have kk:∀ b i w,bI S b i=some w→(dk (bK S) w.t∧w.t.p=p↔eE S w.t=some (p,false)):=fun b i w hw=>by
  have hm:=iT (hi.tag b i w hw).1
  unfold eE lN dk
  by_cases h3:w.t.k=3
  ·rw[if_pos h3]
   simp[h3]
   omega
  ·rw[if_neg h3]
   by_cases h4:w.t.e>bK S
   ·rw[if_pos h4]
    constructor
    ·intro h;omega
    ·intro h;split at h <;> simp at h
   ·rw[if_neg h4]
    simp
    omega
 have inl:∀ b i w,bI S b i=some w→(⟨(b:Int),(i:Int),w.t⟩:Fd)∈l:=fun b i w hw=>(hl _).2 (mem_fds.2 ⟨b,i,w,hw,rfl⟩)
 constructor
 ·rintro⟨h1,h2,h3⟩
  obtain⟨d1,d2⟩:=(kk b i v h1).2 h2
  obtain⟨⟨c,f⟩,hf,hc⟩:=hok.cmp _ (inl b i v h1) d1
  simp only at hc
  have hcp:c=p:=by rw[hc];exact d2
  subst hcp
  obtain⟨s1,s2,s3,s4⟩:=hok.snd _ hf
  obtain⟨b',i',w,hw,e⟩:=mem_fds.1 ((hl _).1 s1)
  simp only at e s2 s3 s4
  subst e
  have n1:=s4 _ (inl b i v h1) d1 d2
  have n2:=h3 b' i' w hw ((kk b' i' w hw).1 ⟨s2,s3⟩)
  rw[cN] at n1 n2
  simp only at n1 n2
  obtain⟨rfl,rfl⟩:=hi.sq.one _ _ _ _ _ _ h1 hw (by omega)
  rw[h1] at hw
  injection hw with hw
  subst hw
  exact⟨h1,hf⟩
 ·rintro⟨h1,hf⟩
  obtain⟨s1,s2,s3,s4⟩:=hok.snd _ hf
  refine⟨h1,(kk b i v h1).1 ⟨s2,s3⟩,fun b' i' u hu hcu=>?_⟩
  obtain⟨u1,u2⟩:=(kk b' i' u hu).2 hcu
  exact s4 _ (inl b' i' u hu) u1 u2
theorem aGL{m:List (Int×Fd)}(hn:(m.map (·.1)).Nodup){p:Int}{f:Fd}(h:(p,f)∈m):ofF m p=f:=by
 unfold ofF
 cases hl:wU m p with
 | none=>exact absurd (List.mem_map.2 ⟨_,h,rfl⟩) (qM hl)
 | some r=>
   have hr:=List.mem_of_getElem? (aAt hl)
   obtain⟨pre',post',e,e1,e2⟩:=kO hn h
   rw[e,List.mem_append,List.mem_cons] at hr
   rcases hr with hr|hr|hr
   ·exact absurd rfl (e1 _ hr)
   ·cases hr;rfl
   ·exact absurd rfl (e2 _ hr)
theorem aNP{S:Ps}(hi:eW S){l:List Fd}(hl:∀ f,f∈l↔f∈fds S){ps:List Int}(hps:ps.Perm ((nwF l).map (·.1)))(f:Fd):
 f∈((ps.map (ofF (nwF l))).filter fun f=>decide (f.t.k=1))↔∃ (b i:Nat) (v:sD),f=⟨b,i,v.t⟩∧jX S (v.t.p,false) b i v∧v.t.k=1:=by
 have hok:=aFl l
 rw[List.mem_filter,List.mem_map,decide_eq_true_eq]
 constructor
 ·rintro⟨⟨p,hp,rfl⟩,hk⟩
  obtain⟨q,hq,rfl⟩:=List.mem_map.1 (hps.mem_iff.1 hp)
  have e:=aGL hok.nd (show (q.1,q.2)∈nwF l from hq)
  rw[e] at hk ⊢
  obtain⟨s1,s2,s3,s4⟩:=hok.snd q hq
  obtain⟨b,i,w,hw,e'⟩:=mem_fds.1 ((hl _).1 s1)
  have hwp:w.t.p=q.1:=by rw[← s3,e']
  have h0:=(iT (hi.tag b i w hw).1).2.2.2.1
  refine⟨b,i,w,e',(aGR hi hl h0 b i w).2 ⟨hw,?_⟩,by rw[e'] at hk;exact hk⟩
  rw[hwp,← e'];exact hq
 ·rintro⟨b,i,v,rfl,hb,hk⟩
  have h0:=(iT (hi.tag b i v hb.1).1).2.2.2.1
  obtain⟨_,hm⟩:=(aGR hi hl h0 b i v).1 hb
  exact⟨⟨v.t.p,hps.mem_iff.2 (List.mem_map.2 ⟨_,hm,rfl⟩),aGL hok.nd hm⟩,hk⟩
theorem aKb{v:sD}(h:wD v.d v.t.k v.t.p v.t.s v.t.e=true):gM (aCV v)=1∧aNW (aCV v)=v.t∧(aCV v).take ((aCV v).length-16)=v.d:=by
 refine⟨aFF h,?_,?_⟩
 ·have hm:=h
  unfold wD at hm
  rw[Bool.and_eq_true] at hm
  obtain⟨f1,f2,f3,f4⟩:=nR (c:=more 0#32 (body v.d v.t.k v.t.p v.t.e v.t.e)) hm.2
  unfold aNW aCV
  rw[aCc]
  obtain⟨f1,f2,f3,f4⟩:=nR (c:=more 0#32 (body v.d v.t.k v.t.p v.t.s v.t.e)) hm.2
  rw[f1,f2,f3,f4]
 ·unfold aCV
  rw[lG,Nat.add_sub_cancel,aHd]
  exact List.take_left' rfl
structure Mnt (M:aC) (p:Nat) (C:aQ) (S:Ps) (A:bL) (D:Nat) (i:Nat) (P:aC) (C':aQ) (m:List iK) (sq ep:Int):Prop where
 st:dM M P p C C'
 calm:aFf C'
 bs:C'.bs=C.bs
 ops:∃ o:Nat,C'.ops=C.ops+o∧o≤i
 fl:P.get A.f=some (.cells (jZ (dZ A { S with seq:=sq,ep:=ep,now:=0,deg:=false })) true)
 mf:P.get A.mf=some (.map (mK m))
 mb:P.get A.mb=some (.map [])
 mp:P.get A.mp=some (.map [])
 ms:P.get A.ms=some (.map [])
 nd:(m.map (·.1)).Nodup
 lnk:∀ q:iK,q∈m→∃ (b k:Nat) (v:sD),q.1=((b:Int),(k:Int))∧b*nG S+k<i∧bI S b k=some v∧(q.2.k=v.t.k∧q.2.p=v.t.p∧q.2.s=v.t.s∧q.2.e=v.t.e)∧aI P q.2.d v.d∧q.2.d.one=true∧∀ c,aN q.2.d c→D≤c
 hav:∀ (b k:Nat) v,bI S b k=some v→b*nG S+k<i→∃ q,q∈m∧q.1=((b:Int),(k:Int))
 sqb:0≤sq∧sq≤S.seq∧∀ q:iK,q∈m→q.2.s≤sq
 epb:0≤ep∧(ep=0∨∃ q:iK,q∈m∧q.2.e=ep)∧∀ q:iK,q∈m→q.2.e≤ep
theorem Mnt.post{M:aC}{p:Nat}{C:aQ}{S:Ps}{A:bL}{D i:Nat}{P N:aC}{C':aQ}{m:List iK}{sq ep:Int}(h:Mnt M p C S A D i P C' m sq ep)(hk:aD P N []):Mnt M p C S A D i N C' m sq ep:=by
 have hw:=h.st.wf
 have g:∀ {c:Nat} {r:hY},P.get c=some r→N.get c=some r:=fun hg=>hk.get hw hg (by simp)
 refine⟨h.st.post hk,h.calm,h.bs,h.ops,g h.fl,g h.mf,g h.mb,g h.mp,g h.ms,h.nd,fun q hq=>?_,h.hav,h.sqb,h.epb⟩
 obtain⟨b,k,v,e1,e2,e3,e4,e5,e6,e7⟩:=h.lnk q hq
 exact⟨b,k,v,e1,e2,e3,e4,aO.keep0 e5 hw hk,e6,e7⟩
theorem Mnt.skip{M:aC}{p:Nat}{C:aQ}{S:Ps}{A:bL}{D i:Nat}{P:aC}{C':aQ}{m:List iK}{sq ep:Int}(h:Mnt M p C S A D i P C' m sq ep)(hno:∀ (b k:Nat) v,bI S b k=some v→b*nG S+k≠i):Mnt M p C S A D (i+1) P C' m sq ep:=by
 obtain⟨o,h1,h2⟩:=h.ops
 refine⟨h.st,h.calm,h.bs,⟨o,h1,by omega⟩,h.fl,h.mf,h.mb,h.mp,h.ms,h.nd,fun q hq=>?_,fun b k v hv hlt=>h.hav b k v hv (by have:=hno b k v hv;omega),h.sqb,h.epb⟩
 obtain⟨b,k,v,e1,e2,e3⟩:=h.lnk q hq
 exact⟨b,k,v,e1,by omega,e3⟩
theorem aMg{n a b c d:Nat}(hb:b<n)(hd:d<n)(h:a*n+b=c*n+d):a=c∧b=d:=by
 have h1:(a*n+b)/n=a:=by rw[Nat.mul_comm,Nat.mul_add_div (by omega),Nat.div_eq_of_lt hb,Nat.add_zero]
 have h2:(c*n+d)/n=c:=by rw[Nat.mul_comm,Nat.mul_add_div (by omega),Nat.div_eq_of_lt hd,Nat.add_zero]
 have:a=c:=by rw[← h1,← h2,h]
 subst this
 exact⟨rfl,by omega⟩
theorem aQP{C:aQ}{S:Ps}(hr:aFY C S)(hi:eW S){M:aC}{p:Nat}(h:bF M p C){b:Nat}(hb:b<nB S):∃ B X,C.bs[b]? =some B∧S.x[b]? =some X∧(∀ j v,X.v[j]? =some v→jD B (aV C.g) j=aCV v)∧∀ j,X.v.length≤j→j<nG S→jD B (aV C.g) j=List.replicate (aV C.g) 255#8:=by
 have hl:C.bs.length=nB S:=by rw[h.len,hr.g];rfl
 obtain⟨X,e1,_,_,_,e5,e6⟩:=hr.blk b _ (List.getElem?_eq_getElem (by omega:b<C.bs.length))
 exact⟨_,X,List.getElem?_eq_getElem (by omega),e1,e5,e6⟩
theorem aIU(M:aC)(hw:M.WF)(p:Nat)(C:aQ)(S:Ps)(h:bF M p C)(hr:aFY C S)(hi:eW S)(ho:S.ops≤1000000000){Q:AV→aC→Prop}
 (hQ:∀ (A:bL) (N:aC) (C':aQ) (m:List iK) (sq ep:Int) (D:Nat),A.p=p→A.ft=foot p C→A.fsA=C.fsA→A.ext=[]→M.next≤A.mf→A.mb=A.mf+1→A.mp=A.mf+2→A.ms=A.mf+3→A.f=A.mf+4→D=A.mf+5→Mnt M p C S A D (nP C.g) N C' m sq ep→
  aB tb.P 66 [.ptr A.f 0,i64 (-1)] N fun y118 M119=>aB tb.P 65 [y118] M119 fun y120 M121=>aA (cE tb false 111 y120 M121) fun y122=>zI .i64 y122.1 fun z123=>∃ J124:Int→Nat→aC→Prop,(∃ n125:Nat,J124 (0:Int) n125 M121)∧
 ∀ (_:Nat→Option AV) (z126:Int) (n127:Nat) (M128:aC),J124 z126 n127 M128→
 (aE (decide (z126<z123)) (aA (bU tb 111 y120 (.val (.int .i64 z126)) M128) fun y129=>zP y129.1 fun p130 o131=>aA (aH tb 115 (.ptr p130 o131) M128) fun y132=>∃ (z133:Int) (z134:Int) (z135:Int) (z136:Int) (z137:Int) (z138:Int),y132.1=
 (.agg [(.val (.int .i64 z133)),(.val (.int .i64 z134)),(.val (.int .i64 z135)),(.val (.int .i64 z136)),(.val (.int .i64 z137)),(.val (.int .i64 z138))])∧
 (aK (M128.new (.cells [(.val (.int .i64 0)),(.val (.int .i64 0)),(.val (.int .i64 0)),(.val (.int .i64 0)),(.val (.int .i64 0)),(.val (.int .i64 0))] true)) fun M139=>aA (cL tb 115 (.ptr M128.next 0) (.agg [(.val (.int .i64 z133)),(.val (.int .i64 z134)),(.val (.int .i64 z135)),(.val (.int .i64 z136)),(.val (.int .i64 z137)),(.val (.int .i64 z138))]) M139) fun y140=>aA (aH tb 75 (.ptr A.f 7) y140.2) fun y141=>aA (aH tb 3 (.ptr M128.next 3) y140.2) fun y142=>zI .i64 y142.1 fun z143=>aA (aH tb 96 (.ptr A.f 6) y140.2) fun y144=>aA (aH tb 101 (.ptr M128.next 0) y140.2) fun y145=>∃ (z146:Int) (z147:Int),y145.1=
 (.agg [(.val (.int .i64 z146)),(.val (.int .i64 z147))])∧
 (aA (pV tb 96 y144.1 (.agg [(.val (.int .i64 z146)),(.val (.int .i64 z147))]) false y140.2) fun y148=>∃ (z149:Int) (z150:Int) (z151:Int) (z152:Int) (x153:AV),y148.1=
 (.agg [(.val (.int .i64 z149)),(.val (.int .i64 z150)),(.val (.int .i64 z151)),(.val (.int .i64 z152)),x153])∧
 (aA (eMU tb 75 y141.1 (.val (.int .i64 z143)) x153 y140.2) fun y154=>∃ k155:Nat,k155<n127∧
 (J124 (aM .i64 z126 1) k155 y154.2))))) (aB tb.P 66 [(.ptr A.f 0),(.val (.int .i64 (-1)))] M128 fun y156 M157=>aB tb.P 67 [y156] M157 fun y158 M159=>aA (cE tb false 111 y158 M159) fun y160=>zI .i64 y160.1 fun z161=>∃ J162:Int→Nat→aC→Prop,(∃ n163:Nat,J162 (0:Int) n163 M159)∧
 ∀ (_:Nat→Option AV) (z164:Int) (n165:Nat) (M166:aC),J162 z164 n165 M166→(aE (decide (z164<z161)) (aK (fun (M185:aC)=>∃ k187:Nat,k187<n165∧
 (J162 (aM .i64 z164 1) k187 M185)) fun K186=>aA (bU tb 111 y158 (.val (.int .i64 z164)) M166) fun y167=>zP y167.1 fun p168 o169=>aA (aH tb 115 (.ptr p168 o169) M166) fun y170=>∃ (z171:Int) (z172:Int) (z173:Int) (z174:Int) (z175:Int) (z176:Int),y170.1=
 (.agg [(.val (.int .i64 z171)),(.val (.int .i64 z172)),(.val (.int .i64 z173)),(.val (.int .i64 z174)),(.val (.int .i64 z175)),(.val (.int .i64 z176))])∧
 (aK (M166.new (.cells [(.val (.int .i64 0)),(.val (.int .i64 0)),(.val (.int .i64 0)),(.val (.int .i64 0)),(.val (.int .i64 0)),(.val (.int .i64 0))] true)) fun M177=>aA (cL tb 115 (.ptr M166.next 0) (.agg [(.val (.int .i64 z171)),(.val (.int .i64 z172)),(.val (.int .i64 z173)),(.val (.int .i64 z174)),(.val (.int .i64 z175)),(.val (.int .i64 z176))]) M177) fun y178=>aA (aH tb 3 (.ptr M166.next 2) y178.2) fun y179=>zI .i64 y179.1 fun z180=>aE (z180 !=
 (3:Int)) (aA (aH tb 97 (.ptr A.f 9) y178.2) fun y181=>aA (aH tb 3 (.ptr M166.next 3) y178.2) fun y182=>zI .i64 y182.1 fun z183=>aA (eMU tb 97 y181.1 (.val (.int .i64 z183)) (.val (.bool true)) y178.2) fun y184=>K186 y184.2) (K186 y178.2))) (aB tb.P 68 [(.ptr A.f 0)] M166 fun y188 M189=>zI .i64 y188 fun z190=>Q (.tup [(.ptr A.f 0),(.val (.int .i64 0))]) M189))))):
  aB tb.P 32 [.ptr p 0] M Q:=by
 have hmay:dV C.g=true:=h.may
 obtain⟨hn1,hnP,_,hpg0,hpg4,hpg8,_,_⟩:=aAM hmay
 have hnGg:nG S=C.g.pg.toNat:=by unfold nG;rw[← hr.g]
 have hnBg:nB S=C.g.bl.toNat:=by unfold nB;rw[← hr.g]
 refine aQc ?_
 unfold F32
 refine aG aCA ?_
 simp only[cO]
 refine aT (fun h=>by simp at h) (fun _=>?_)
 refine (aLJ M hw p C h).mono ?_
 rintro y M4 ⟨rfl,hM4⟩
 rw[hM4,hr.calm.off]
 simp only[cO,Bool.not_false,Bool.not_true,fG]
 refine (aOK M hw p C h).mono ?_
 rintro y M7 ⟨rfl,hk7⟩
 refine⟨_,_,_,_,_,rfl,?_⟩
 have h7:=h.keep hw hk7
 refine bE fun M13 hM13=>?_
 have e13:M13=M7.new (.map []):=hM13
 have hk13:aD M7 M13 []:=by rw[e13];exact aD.new hk7.wf _
 have g13:M13.get M7.next=some (.map []):=by rw[e13];exact get_new _ _
 have n13:M13.next=M7.next+1:=by rw[e13];rfl
 clear hM13 e13
 refine bE fun M14 hM14=>?_
 have e14:M14=M13.new (.map []):=hM14
 have hk14:aD M13 M14 []:=by rw[e14];exact aD.new hk13.wf _
 have g14:M14.get M13.next=some (.map []):=by rw[e14];exact get_new _ _
 have n14:M14.next=M13.next+1:=by rw[e14];rfl
 clear hM14 e14
 refine bE fun M15 hM15=>?_
 have e15:M15=M14.new (.map []):=hM15
 have hk15:aD M14 M15 []:=by rw[e15];exact aD.new hk14.wf _
 have g15:M15.get M14.next=some (.map []):=by rw[e15];exact get_new _ _
 have n15:M15.next=M14.next+1:=by rw[e15];rfl
 clear hM15 e15
 refine bE fun M16 hM16=>?_
 have e16:M16=M15.new (.map []):=hM16
 have hk16:aD M15 M16 []:=by rw[e16];exact aD.new hk15.wf _
 have g16:M16.get M15.next=some (.map []):=by rw[e16];exact get_new _ _
 have n16:M16.next=M15.next+1:=by rw[e16];rfl
 clear hM16 e16
 have hbd:iA tb 99 [(0,.ptr p 0),(1,fX C.g),(2,.map M7.next),(3,.map M13.next),(4,.map M14.next),(5,.map M15.next)]=some (.agg (jZ ⟨.ptr p 0,C.g,M7.next,M13.next,M14.next,M15.next,0,0,0,false⟩)):=by
  unfold iA
  rw[aBw]
  rfl
 refine aG (oC hbd) ?_
 refine⟨_,_,_,_,_,_,_,_,_,_,_,_,_,_,rfl,?_⟩
 obtain⟨A,hA⟩:∃ A:bL,A=⟨M16.next,p,M7.next,M13.next,M14.next,M15.next,foot p C,C.fsA,[]⟩:=⟨_,rfl⟩
 have hAf:M16.next=A.f:=by rw[hA]
 have hAm:M7.next=A.mf:=by rw[hA]
 have hAb:M13.next=A.mb:=by rw[hA]
 have hAp:M14.next=A.mp:=by rw[hA]
 have hAs:M15.next=A.ms:=by rw[hA]
 have hfl0:jZ ⟨.ptr p 0,C.g,M7.next,M13.next,M14.next,M15.next,0,0,0,false⟩=jZ (dZ A { S with seq:=0,ep:=0,now:=0,deg:=false }):=by rw[hA,hr.g];rfl
 refine bE fun M32 hM32=>?_
 have e32:M32=M16.new (.cells (jZ (dZ A { S with seq:=0,ep:=0,now:=0,deg:=false })) true):=by rw[← hfl0];exact hM32
 have hk32:aD M16 M32 []:=by rw[e32];exact aD.new hk16.wf _
 have g32:M32.get M16.next=some (.cells (jZ (dZ A { S with seq:=0,ep:=0,now:=0,deg:=false })) true):=by rw[e32];exact get_new _ _
 have n32:M32.next=M16.next+1:=by rw[e32];rfl
 clear hM32 e32
 refine bE fun M33 hM33=>?_
 have e33:M33=M32.new (.cells [i64 0,i64 0] true):=hM33
 have hk33:aD M32 M33 []:=by rw[e33];exact aD.new hk32.wf _
 have g33:M33.get M32.next=some (.cells [i64 0,i64 0] true):=by rw[e33];exact get_new _ _
 clear hM33 e33
 have hn7:M.next≤M7.next:=hk7.nxt
 have hKa:=hk7.trans0 (hk13.trans0 (hk14.trans0 (hk15.trans0 (hk16.trans0 (hk32.trans0 hk33)))))
 have m1:=(hk14.trans0 (hk15.trans0 (hk16.trans0 (hk32.trans0 hk33)))).get hk13.wf g13 (by simp)
 have m2:=(hk15.trans0 (hk16.trans0 (hk32.trans0 hk33))).get hk14.wf g14 (by simp)
 have m3:=(hk16.trans0 (hk32.trans0 hk33)).get hk15.wf g15 (by simp)
 have m4:=(hk32.trans0 hk33).get hk16.wf g16 (by simp)
 have m5:=hk33.get hk32.wf g32 (by simp)
 have hst:=fR (M:=M33) (b:=M32.next) 0 0 g33 rfl
 refine aG hst ?_
 have hkp:aD M (M33.put M32.next (.cells [i64 0,i64 0] true)) []:=xD hKa (by omega) (hk33.wf _ _ g33) _
 have hfo:∀ c∈foot p C,c<M.next:=fun c hm=>h.lt hw c hm
 rw[hAf] at m5 n32 ⊢
 rw[hAm] at m1 hn7 n13
 rw[hAb] at m2 n14
 rw[hAp] at m3 n15
 rw[hAs] at m4 n16
 rw[hAf] at n16
 have hQ':=hQ A
 have hseq0:=hi.seq
 refine⟨fun x b n P=>∃ (C':aQ) (m:List iK) (sq ep:Int) (a i:Nat) (u v:Int),x= .ptr a 0∧P.get a=some (.cells [i64 u,i64 v] true)∧M32.next≤a∧i≤nP C.g∧n=nP C.g-i∧Mnt M p C S A M32.next i P C' m sq ep∧((b=true∧i<nP C.g∧u=nE C.g i∧v=nA C.g i)∨(b=false∧i=nP C.g)),?_,?_⟩
 ·have hP:∀ (c:Nat) (r:hY),c<M32.next→M33.get c=some r→(M33.put M32.next (.cells [i64 0,i64 0] true)).get c=some r:=fun c r hlt hg=>by rw[aC.get_put,if_neg (by omega)];exact hg
  refine⟨nP C.g,C,[],0,0,M32.next,0,0,0,rfl,by rw[aC.get_put,if_pos rfl],Nat.le_refl _,Nat.zero_le _,rfl,⟨dM.of0 hw h hkp,hr.calm,rfl,⟨0,by omega,Nat.le_refl _⟩,hP _ _ (by omega) m5,hP _ _ (by omega) m1,hP _ _ (by omega) m2,hP _ _ (by omega) m3,hP _ _ (by omega) m4,List.nodup_nil,fun q hq=>by simp at hq,fun b k v hv hlt=>by omega,⟨Int.le_refl _,hseq0.1,fun q hq=>by simp at hq⟩,⟨Int.le_refl _,.inl rfl,fun q hq=>by simp at hq⟩⟩,.inl ⟨rfl,hn1,?_,?_⟩⟩
  ·simp[nE]
  ·simp[nA]
 rintro _ x b n P ⟨C',m,sq,ep,a,i,u,v,rfl,ha,hal,hile,rfl,hm,hcase⟩
 have hg':C'.g=C.g:=hm.st.g
 refine aT (fun hb1=>?_) (fun hb0=>?_)
 ·obtain⟨_,hi',rfl,rfl⟩:b=true∧i<nP C.g∧u=nE C.g i∧v=nA C.g i:=by
   rcases hcase with hx|⟨hx,_⟩
   ·exact hx
   ·rw[hb1] at hx;cases hx
  obtain⟨hisG,hpB,hpK,hnum⟩:=aKv hmay hi'
  have hverAt:∀ (b k:Nat) w,bI S b k=some w→b*nG S+k=i→b=nE C.g i∧k=nA C.g i:=fun b k w hv e=>by
   have hk:=cQ hv
   have hpg:=hi.pgs b
   rw[hnGg] at e hpg
   exact aMg (by omega) hpK (by omega)
  have hnum':nE C.g i*nG S+nA C.g i=i:=by rw[hnGg];exact hnum
  refine bE fun K96 hK96=>?_
  have next:∀ (N:aC) (D:aQ) (m':List iK) (sq' ep':Int),Mnt M p C S A M32.next (i+1) N D m' sq' ep'→N.get a=some (.cells [i64 (nE C.g i:Int),i64 (nA C.g i:Int)] true)→M32.next≤N.next→K96 N:=by
   intro N D m' sq' ep' hmN ga hnn
   rw[hK96]
   obtain⟨_,_,l2⟩:=bO ga
   refine aG (aS l2) ?_
   refine⟨_,_,rfl,?_⟩
   refine bE fun M100 h100=>?_
   have e100:M100=N.new (.cells [i64 0,i64 0] true):=h100
   have hk100:aD N M100 []:=by rw[e100];exact aD.new hmN.st.wf _
   have g100:M100.get N.next=some (.cells [i64 0,i64 0] true):=by rw[e100];exact get_new _ _
   clear h100 e100
   refine aG (fR (nE C.g i) (nA C.g i) g100 rfl) ?_
   have hk101:aD N (M100.put N.next (.cells [i64 (nE C.g i:Int),i64 (nA C.g i:Int)] true)) []:=xD hk100 (Nat.le_refl _) (hk100.wf _ _ g100) _
   have g101:(M100.put N.next (.cells [i64 (nE C.g i:Int),i64 (nA C.g i:Int)] true)).get N.next=some (.cells [i64 (nE C.g i:Int),i64 (nA C.g i:Int)] true):=by rw[aC.get_put,if_pos rfl]
   revert hk101 g101
   generalize M100.put N.next (.cells [i64 (nE C.g i:Int),i64 (nA C.g i:Int)] true)=M101
   intro hk101 g101
   have hm101:=hmN.post hk101
   have l40:aH tb 23 (.ptr A.f 1) M101=some (fX C.g,M101):=by
    have:=aS (T:=tb) (eC (n:=5) (o:=1) aIx rfl rfl hm101.fl (by simp[jZ]))
    rw[this,hr.g]
    rfl
   simp only
   refine aG l40 ?_
   refine⟨_,_,_,_,_,rfl,?_⟩
   refine aG (aS (bO g101).2.2) ?_
   refine⟨_,_,rfl,?_⟩
   refine (aPb M101 hk101.wf C.g hmay i hi').mono ?_
   rintro y M112 ⟨hk112,hy⟩
   have g112:=hk112.get hk101.wf g101 (by simp)
   have hkN:=hk101.trans0 hk112
   have fin:∀ x' y':Int,aD N (M112.put N.next (.cells [i64 x',i64 y'] true)) []:=fun x' y'=>xD hkN (Nat.le_refl _) (hk112.wf _ _ g112) _
   rcases hy with⟨hi1,rfl⟩|⟨hi1,rfl⟩
   ·refine⟨_,_,_,rfl,?_⟩
    refine aG (fR _ _ g112 rfl) ?_
    exact⟨nP C.g-(i+1),by omega,D,m',sq',ep',N.next,i+1,_,_,rfl,by rw[aC.get_put,if_pos rfl],hnn,by omega,rfl,hmN.post (fin _ _),.inl ⟨rfl,hi1,rfl,rfl⟩⟩
   ·refine⟨_,_,_,rfl,?_⟩
    refine aG (fR _ _ g112 rfl) ?_
    exact⟨nP C.g-(i+1),by omega,D,m',sq',ep',N.next,i+1,_,_,rfl,by rw[aC.get_put,if_pos rfl],hnn,by omega,rfl,hmN.post (fin _ _),.inr ⟨rfl,hi1⟩⟩
  clear hK96
  refine aG (aIV a) ?_
  simp only[bV]
  refine aG (aS (bO ha).1) ?_
  simp only[i64,aJ]
  refine (aGM P hm.st.wf p C' hm.st.at' _).mono ?_
  rintro y M47 ⟨rfl,hk47⟩
  simp only[cO]
  have hltP:M32.next≤P.next:=Nat.le_of_lt (Nat.lt_of_le_of_lt hal (hm.st.wf _ _ ha))
  have hm47:=hm.post hk47
  have ha47:=hk47.get hm.st.wf ha (by simp)
  refine aT (fun hbad=>?_) (fun _=>?_)
  ·rw[hm.st.fs,hr.fs] at hbad
   have hu0:=hi.bad (nE C.g i) hbad
   refine next M47 C' m sq ep (hm47.skip fun b k w hv e=>?_) ha47 (Nat.le_trans hltP hk47.nxt)
   obtain⟨rfl,rfl⟩:=hverAt b k w hv e
   have:=cQ hv
   omega
  refine aG (aS (bO ha47).2.2) ?_
  refine⟨_,_,rfl,?_⟩
  refine (aPM M47 hm47.st.wf p C' hm47.st.at' _ _).mono ?_
  rintro y M53 ⟨ux,rfl,hux,fux,s53⟩
  refine⟨_,_,_,_,_,_,rfl,?_⟩
  obtain⟨rd1,rd2,rd3⟩:=aMS hm.calm (i:=i) (by rw[hg'];exact hmay) (by rw[hg'];exact hi')
  rw[hg'] at rd1 rd2 rd3
  rw[aKo hg' hm.bs] at rd2
  rw[rd1,rd2] at hux ⊢
  obtain⟨B,X,b1,b2,b3,b4⟩:=aQP hr hi h (b:=nE C.g i) (by omega)
  have hpgI:pgI C i=jD B (aV C.g) (nA C.g i):=by unfold pgI;rw[b1]
  have hft:foot p C'=foot p C:=hm.st.foot
  have s53':dM M M53 p C (yO C' (nE C.g i) (nA C.g i)):=hm47.st.trans s53
  have hAfM:M.next≤A.mf:=hn7
  have k53:∀ (c:Nat) (r:hY),M.next≤c→M47.get c=some r→M53.get c=some r:=fun c r hc' hg=>uB s53 hm47.st.wf hg (fun hmm=>by rw[hft] at hmm;have:=hfo c hmm;omega)
  have hrs:=aKV C' (nE C.g i) (nA C.g i)
  have hops:∃ o':Nat,(yO C' (nE C.g i) (nA C.g i)).ops=C.ops+o'∧o'≤i+1:=by
   obtain⟨o,ho1,ho2⟩:=hm.ops
   have hCo:=hr.ops
   unfold yO
   split
   ·rw[hm.calm.bg.2.1]
    refine⟨o+1,?_,by omega⟩
    show aM .i64 C'.ops 1=_
    rw[ib (by omega)]
    omega
   ·exact⟨o,ho1,by omega⟩
  have hm53:Mnt M p C S A M32.next i M53 C' m sq ep→True:=fun _=>trivial
  have datK:∀ q:iK,q∈m→∀ d,aI M47 q.2.d d→(∀ c,aN q.2.d c→M32.next≤c)→aI M53 q.2.d d:=fun q hq d hd hc=>aO.keep hd hm47.st.wf s53.keep fun c hcc hmm=>by
   rw[hft] at hmm
   have:=hfo c hmm
   have:=hc c hcc
   omega
  refine bE fun M60 h60=>?_
  have e60:M60=M53.new (.cells (jV tg0) true):=h60
  have hk60:aD M53 M60 []:=by rw[e60];exact aD.new s53.wf _
  have g60:M60.get M53.next=some (.cells (jV tg0) true):=by rw[e60];exact get_new _ _
  clear h60 e60 hm53
  generalize hT:lkT 0 (pgI C i)=T at*
  refine aG (xS T g60 rfl) ?_
  have hk61:aD M53 (M60.put M53.next (.cells (jV T) true)) []:=xD hk60 (Nat.le_refl _) (hk60.wf _ _ g60) _
  have g61:(M60.put M53.next (.cells (jV T) true)).get M53.next=some (.cells (jV T) true):=by rw[aC.get_put,if_pos rfl]
  revert hk61 g61
  generalize M60.put M53.next (.cells (jV T) true)=M61
  intro hk61 g61
  have k61:∀ (c:Nat) (r:hY),M.next≤c→M47.get c=some r→M61.get c=some r:=fun c r hc' hg=>hk61.get s53.wf (k53 _ _ hc' hg) (by simp)
  have hMle:∀ c:Nat,A.mf≤c→M.next≤c:=fun c hc=>Nat.le_trans hn7 hc
  have hm61:Mnt M p C S A M32.next i M61 (yO C' (nE C.g i) (nA C.g i)) m sq ep→True:=fun _=>trivial
  clear hm61
  have hst61:=s53'.post hk61
  have hbs61:(yO C' (nE C.g i) (nA C.g i)).bs=C.bs:=hrs.2.2.trans hm.bs
  have fl61:=k61 _ _ (hMle _ (by omega)) hm47.fl
  have mf61:=k61 _ _ (hMle _ (Nat.le_refl _)) hm47.mf
  have mb61:=k61 _ _ (hMle _ (by omega)) hm47.mb
  have mp61:=k61 _ _ (hMle _ (by omega)) hm47.mp
  have ms61:=k61 _ _ (hMle _ (by omega)) hm47.ms
  have ha61:=k61 _ _ (by omega) ha47
  have hn61:M32.next≤M61.next:=Nat.le_trans hltP (Nat.le_trans hk47.nxt (Nat.le_trans s53.keep.nxt hk61.nxt))
  have lnk61:∀ q:iK,q∈m→∃ (b k:Nat) (v:sD),q.1=((b:Int),(k:Int))∧b*nG S+k<i∧bI S b k=some v∧(q.2.k=v.t.k∧q.2.p=v.t.p∧q.2.s=v.t.s∧q.2.e=v.t.e)∧aI M61 q.2.d v.d∧q.2.d.one=true∧∀ c,aN q.2.d c→M32.next≤c:=fun q hq=>by
   obtain⟨b,k,w,e1,e2,e3,e4,e5,e6,e7⟩:=hm47.lnk q hq
   exact⟨b,k,w,e1,e2,e3,e4,aO.keep0 (datK q hq _ e5 e7) s53.wf hk61,e6,e7⟩
  refine bE fun K94 hK94=>?_
  simp only
  cases hvv:X.v[nA C.g i]? with
  | some w=>
    have hver:bI S (nE C.g i) (nA C.g i)=some w:=iF.2 ⟨X,b2,hvv⟩
    have htag:=hi.tag _ _ _ hver
    have hpage:pgI C i=aCV w:=hpgI.trans (b3 _ _ hvv)
    obtain⟨l1,l2,l3⟩:=aKb htag.1
    have hld:ldE 0 (pgI C i)=0:=by unfold ldE;rw[if_pos rfl,hpage,l1];rfl
    have hTw:T=w.t:=by rw[← hT,hpage];unfold lkT;rw[if_pos ⟨rfl,l1⟩,l2]
    have hDw:lkD 0 (pgI C i)=w.d:=by rw[hpage];unfold lkD;rw[if_pos ⟨rfl,l1⟩,l3]
    rw[hDw] at hux
    subst hTw
    rw[hld]
    simp only[beq_self_eq_true,jF]
    have hd0:0<w.d.length:=by have:=(iT htag.1).1;omega
    have hux61:aI M61 ux w.d:=aO.keep0 hux.at s53.wf hk61
    have fux':∀ c,aN ux c→M32.next≤c:=fun c hc=>by
     have h1:=fux c hc
     have h2:=hk47.nxt
     omega
    have hux1:ux.one=true∧∃ b' o' n' c' e',ux= .sl b' o' n' c' e':=by
     rcases hux with⟨rfl,he⟩|⟨b',he,_⟩
     ·rw[he] at hd0;simp at hd0
     ·rw[he];exact⟨rfl,_,_,_,_,_,rfl⟩
    refine aG (aS (eB aDl rfl fl61 (o:=6) (v:= .map A.mf) rfl)) ?_
    refine aG (aS (bO ha61).2.2) ⟨_,_,rfl,?_⟩
    refine aG (aS (aB2 g61)) ⟨_,_,_,_,rfl,?_⟩
    have hbd2:eBd tb 110 [(0,tgA w.t),(1,ux)] M61=some (pgA ⟨w.t.k,w.t.p,w.t.s,w.t.e,ux⟩,M61):=by
     obtain⟨_,b',o',n',c',e',hsl⟩:=hux1
     refine oC ?_
     unfold iA
     rw[aES,hsl]
     rfl
    refine aG hbd2 ⟨_,_,_,_,_,rfl,?_⟩
    have hno:∀ q∈m,q.1≠((nE C.g i:Int),(nA C.g i:Int)):=fun q hq e=>by
     obtain⟨b',k',w',e1,e2,e3,_⟩:=lnk61 q hq
     rw[e] at e1
     injection e1 with e1 e1'
     have h1:nE C.g i=b':=by omega
     have h2:nA C.g i=k':=by omega
     rw[← h1,← h2,hnum'] at e2
     omega
    obtain⟨m',p1,p2,p3,_⟩:=aEb vF (show M61.get A.mf=some (.map (mG vM pgA m)) from mf61) hm.nd ((nE C.g i:Int),(nA C.g i:Int)) (⟨w.t.k,w.t.p,w.t.s,w.t.e,ux⟩:Pg)
    refine aG p1 ?_
    have hmfl:A.mf<M61.next:=hst61.wf _ _ mf61
    have kp:aD M61 (M61.put A.mf (.map (mG vM pgA m'))) [A.mf]:=aD.put hst61.wf hmfl _
    have hne:∀ c,c≠A.mf→∀ r,M61.get c=some r→(M61.put A.mf (.map (mG vM pgA m'))).get c=some r:=fun c hc r hg=>by rw[aC.get_put,if_neg hc];exact hg
    have fl77:=hne _ (by omega) _ fl61
    have g77:=hne _ (fun e=>by have:=s53.keep.nxt;have:=hk47.nxt;omega) _ g61
    have mf77:(M61.put A.mf (.map (mG vM pgA m'))).get A.mf=some (.map (mK m')):=by rw[aC.get_put,if_pos rfl];rfl
    have mb77:=hne _ (by omega) _ mb61
    have mp77:=hne _ (by omega) _ mp61
    have ms77:=hne _ (by omega) _ ms61
    have ha77:=hne _ (by omega) _ ha61
    have n77:(M61.put A.mf (.map (mG vM pgA m'))).next=M61.next:=rfl
    generalize M61.put A.mf (.map (mG vM pgA m'))=M77 at*
    have hflg:∀ (sq ep:Int) (N:aC),N.get A.f=some (.cells (jZ (dZ A { S with seq:=sq,ep:=ep,now:=0,deg:=false })) true)→aH tb 3 (.ptr A.f 10) N=some (.val (.int .i64 sq),N)∧aH tb 3 (.ptr A.f 11) N=some (.val (.int .i64 ep),N):=fun sq ep N hg=>⟨aS (eB dX rfl hg rfl),aS (eB dX rfl hg rfl)⟩
    refine aG (hflg _ _ _ fl77).1 ?_
    simp only[aJ]
    refine aG (aS (eB dX rfl g77 (o:=2) (v:=i64 w.t.s) rfl)) ?_
    simp only[i64,aJ]
    refine aG (nQ _ _ _) ?_
    simp only[aJ]
    refine aG (hflg _ _ _ fl77).2 ?_
    simp only[aJ]
    refine aG (aS (eB dX rfl g77 (o:=3) (v:=i64 w.t.e) rfl)) ?_
    simp only[i64,aJ]
    refine aG (nQ _ _ _) ?_
    simp only[aJ]
    refine aG (oF (dK dX rfl rfl fl77 (by simp[jZ]))) ?_
    have es1:(jZ (dZ A { S with seq:=sq,ep:=ep,now:=0,deg:=false })).set 10 (.val (.int .i64 (max sq w.t.s)))=jZ (dZ A { S with seq:=max sq w.t.s,ep:=ep,now:=0,deg:=false }):=rfl
    rw[es1]
    have hAflt:A.f<M77.next:=kp.wf _ _ fl77
    have kf1:aD M77 (M77.put A.f (.cells (jZ (dZ A { S with seq:=max sq w.t.s,ep:=ep,now:=0,deg:=false })) true)) [A.f]:=aD.put kp.wf hAflt _
    have fl78:(M77.put A.f (.cells (jZ (dZ A { S with seq:=max sq w.t.s,ep:=ep,now:=0,deg:=false })) true)).get A.f=some (.cells (jZ (dZ A { S with seq:=max sq w.t.s,ep:=ep,now:=0,deg:=false })) true):=by rw[aC.get_put,if_pos rfl]
    have h53f:M53.next≠A.f:=fun e=>by have:=s53.keep.nxt;have:=hk47.nxt;omega
    have g78:(M77.put A.f (.cells (jZ (dZ A { S with seq:=max sq w.t.s,ep:=ep,now:=0,deg:=false })) true)).get M53.next=some (.cells (jV w.t) true):=by rw[aC.get_put,if_neg h53f];exact g77
    have n78:(M77.put A.f (.cells (jZ (dZ A { S with seq:=max sq w.t.s,ep:=ep,now:=0,deg:=false })) true)).next=M77.next:=rfl
    generalize M77.put A.f (.cells (jZ (dZ A { S with seq:=max sq w.t.s,ep:=ep,now:=0,deg:=false })) true)=M78 at*
    refine⟨aG (aS (eB dX rfl g78 (o:=3) (v:=i64 w.t.e) rfl)) rfl,?_⟩
    refine aG (oF (dK dX rfl rfl fl78 (by simp[jZ]))) ?_
    have es2:(jZ (dZ A { S with seq:=max sq w.t.s,ep:=ep,now:=0,deg:=false })).set 11 (.val (.int .i64 (max ep w.t.e)))=jZ (dZ A { S with seq:=max sq w.t.s,ep:=max ep w.t.e,now:=0,deg:=false }):=rfl
    rw[es2]
    have kf2:aD M78 (M78.put A.f (.cells (jZ (dZ A { S with seq:=max sq w.t.s,ep:=max ep w.t.e,now:=0,deg:=false })) true)) [A.f]:=aD.put kf1.wf (by omega) _
    have fl79:(M78.put A.f (.cells (jZ (dZ A { S with seq:=max sq w.t.s,ep:=max ep w.t.e,now:=0,deg:=false })) true)).get A.f=some (.cells (jZ (dZ A { S with seq:=max sq w.t.s,ep:=max ep w.t.e,now:=0,deg:=false })) true):=by rw[aC.get_put,if_pos rfl]
    have n79:(M78.put A.f (.cells (jZ (dZ A { S with seq:=max sq w.t.s,ep:=max ep w.t.e,now:=0,deg:=false })) true)).next=M78.next:=rfl
    generalize M78.put A.f (.cells (jZ (dZ A { S with seq:=max sq w.t.s,ep:=max ep w.t.e,now:=0,deg:=false })) true)=M79 at*
    rw[hK94]
    dsimp only
    have kall:aD M61 M79 [A.mf,A.f]:=(kp.trans kf1 (fun c hc _=>by simp at hc;simp[hc]) (fun c hc _=>by simp at hc;simp[hc])).trans kf2 (fun _ h _=>h) (fun c hc _=>by simp at hc;simp[hc])
    have oth:∀ c,c≠A.mf→c≠A.f→∀ r,M61.get c=some r→M79.get c=some r:=fun c h1 h2 r hg=>kall.get hst61.wf hg (by simp[h1,h2])
    have mf79:M79.get A.mf=some (.map (mK m')):=(kf1.trans kf2 (fun _ h _=>h) (fun _ h _=>h)).get kp.wf mf77 (by simp;omega)
    have hdat:∀ (x:AV) (d:bZ),aI M61 x d→(∀ c,aN x c→M32.next≤c)→aI M79 x d:=fun x d hx hc=>aO.keep hx hst61.wf kall fun c hcc hmm=>by
     have:=hc c hcc
     simp at hmm
     omega
    have st79:dM M M79 p C (yO C' (nE C.g i) (nA C.g i)):=by
     have k1:=hst61.at'.keepS hst61.wf kall fun c hc=>by
      have hcA:A.mf≤c∧c≤A.f:=by simp at hc;omega
      refine⟨fun hmm=>?_,fun hmm=>?_⟩
      ·rw[hst61.foot] at hmm
       have:=hfo c hmm
       omega
      ·rw[hst61.fsA] at hmm
       have:=aO.blk_lt h.flt hw hmm
       omega
     refine⟨k1,hst61.keep.trans kall (fun _ h _=>h) (fun c hc hlt=>?_),hst61.foot,hst61.fsA,hst61.fs,hst61.g⟩
     have hcA:A.mf≤c∧c≤A.f:=by simp at hc;omega
     omega
    refine next M79 _ m' (max sq w.t.s) (max ep w.t.e) ⟨st79,rd3,hbs61,hops,fl79,mf79,oth _ (by omega) (by omega) _ mb61,oth _ (by omega) (by omega) _ mp61,oth _ (by omega) (by omega) _ ms61,p2,fun q hq=>?_,fun b k v hv hlt=>?_,?_,?_⟩ (oth _ (by omega) (by omega) _ ha61) (by omega)
    ·rcases (p3 q).1 hq with rfl|⟨hq,_⟩
     ·exact⟨nE C.g i,nA C.g i,w,rfl,by omega,hver,⟨rfl,rfl,rfl,rfl⟩,hdat _ _ hux61 fux',hux1.1,fux'⟩
     ·obtain⟨b,k,w',e1,e2,e3,e4,e5,e6,e7⟩:=lnk61 q hq
      exact⟨b,k,w',e1,by omega,e3,e4,hdat _ _ e5 e7,e6,e7⟩
    ·by_cases e:b*nG S+k=i
     ·obtain⟨rfl,rfl⟩:=hverAt b k v hv e
      exact⟨_,(p3 _).2 (.inl rfl),rfl⟩
     ·obtain⟨q,hq,e1⟩:=hm.hav b k v hv (by omega)
      exact⟨q,(p3 _).2 (.inr ⟨hq,hno q hq⟩),e1⟩
    ·obtain⟨s1,s2,s3⟩:=hm.sqb
     have s4:=hi.sq.le _ _ _ hver
     refine⟨by omega,by omega,fun q hq=>?_⟩
     rcases (p3 q).1 hq with rfl|⟨hq,_⟩
     ·exact Int.le_max_right _ _
     ·exact Int.le_trans (s3 q hq) (Int.le_max_left _ _)
    ·obtain⟨s1,s2,s3⟩:=hm.epb
     refine⟨by omega,?_,fun q hq=>?_⟩
     ·by_cases e:ep≤w.t.e
      ·exact .inr ⟨_,(p3 _).2 (.inl rfl),by show w.t.e=_;omega⟩
      ·have e':max ep w.t.e=ep:=by omega
       rw[e']
       rcases s2 with s2|⟨q,hq,s2⟩
       ·exact .inl s2
       ·exact .inr ⟨q,(p3 _).2 (.inr ⟨hq,hno q hq⟩),s2⟩
     ·rcases (p3 q).1 hq with rfl|⟨hq,_⟩
      ·exact Int.le_max_right _ _
      ·exact Int.le_trans (s3 q hq) (Int.le_max_left _ _)
  | none=>
    have hlen:X.v.length≤nA C.g i:=by
     rw[List.getElem?_eq_none_iff] at hvv
     exact hvv
    have hpage:pgI C i=List.replicate (aV C.g) 255#8:=hpgI.trans (b4 _ hlen (by omega))
    have hraw:40≤aV C.g∧aV C.g≤80:=by
     have:=bP.1 hmay
     unfold aV
     omega
    have hld:ldE 0 (pgI C i)=5:=by unfold ldE;rw[if_pos rfl,hpage,aEE hraw.1 hraw.2];rfl
    rw[hld]
    refine aT (fun h5=>by simp at h5) (fun _=>?_)
    refine aT (fun _=>?_) (fun h5=>by simp at h5)
    rw[hK94]
    have hm61:Mnt M p C S A M32.next i M61 (yO C' (nE C.g i) (nA C.g i)) m sq ep→Mnt M p C S A M32.next (i+1) M61 (yO C' (nE C.g i) (nA C.g i)) m sq ep:=fun hx=>hx.skip fun b k w' hv e=>by
     obtain⟨rfl,rfl⟩:=hverAt b k w' hv e
     obtain⟨X',x1,x2⟩:=iF.1 hv
     rw[b2] at x1
     injection x1 with x1
     subst x1
     rw[hvv] at x2;cases x2
    refine next M61 _ m sq ep ⟨hst61,rd3,hbs61,hops,fl61,mf61,mb61,mp61,ms61,hm.nd,fun q hq=>?_,fun b k v hv hlt=>?_,hm.sqb,hm.epb⟩ ha61 hn61
    ·obtain⟨b,k,w',e1,e2,e3⟩:=lnk61 q hq
     exact⟨b,k,w',e1,by omega,e3⟩
    ·refine hm.hav b k v hv ?_
     by_cases e:b*nG S+k=i
     ·obtain⟨rfl,rfl⟩:=hverAt b k v hv e
      obtain⟨X',x1,x2⟩:=iF.1 hv
      rw[b2] at x1
      injection x1 with x1
      subst x1
      rw[hvv] at x2;cases x2
     ·omega
 ·obtain⟨_,rfl⟩:b=false∧i=nP C.g:=by
   rcases hcase with⟨hx,_⟩|hx
   ·rw[hb0] at hx;cases hx
   ·exact hx
  refine hQ A P C' m sq ep M32.next (by rw[hA]) (by rw[hA]) (by rw[hA]) (by rw[hA]) hn7 (by omega) (by omega) (by omega) (by omega) (by omega) hm
end Go.Proofs.YteaogiidncpofaaGreat
