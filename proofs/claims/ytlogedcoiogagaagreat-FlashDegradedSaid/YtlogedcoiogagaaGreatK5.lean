import Derived.Test.YtlogedcoiogagaaGreatK3
import Derived.Test.YtlogedcoiogagaaGreatK4
set_option linter.unusedSimpArgs false
set_option linter.unusedVariables false
set_option linter.unusedSectionVars false
set_option maxRecDepth 100000
namespace Go.Proofs.YtlogedcoiogagaaGreat
open Go.AM
def oX(S:Ps):Int:=if (decide (cL (cY S) (nB S)<0)&&decide ((jL S:Int)>eO S))=true then cB S else cL (cY S) (nB S)
theorem aH7(k:Nat)(S:Ps):aDN (k+1) S=if oX S≥0 then (S,oX S,0) else (if (cP S).2≠0 then ((cP S).1, -1,(cP S).2) else aDN k (cP S).1):=rfl
theorem aP7{S:Ps}(h:Pre S 0)(hp:rK S):0≤oX S:=by
 unfold oX
 have hph:=pO S
 have hlost:=h.lost
 obtain⟨f1,f2⟩:=kK (cY S) (nB S)
 by_cases hn:cL (cY S) (nB S)<0
 ·have h3:3+S.g.sp≤phi S:=by
   rcases hp with⟨b,hb,hob⟩|hp
   ·have:=f1 hn b hb
    rw[this] at hob;cases hob
   ·exact hp
  obtain⟨g1,g2,g3⟩:=lR (S:=S) (by omega)
  have hc:(decide (cL (cY S) (nB S)<0)&&decide ((jL S:Int)>eO S))=true:=by
   rw[Bool.and_eq_true,decide_eq_true_eq,decide_eq_true_eq]
   unfold eO
   exact⟨hn,by omega⟩
  rw[if_pos hc]
  exact g1
 ·have hc:¬ ((decide (cL (cY S) (nB S)<0)&&decide ((jL S:Int)>eO S))=true):=by
   rw[Bool.and_eq_true,decide_eq_true_eq]
   exact fun h=>hn h.1
  rw[if_neg hc]
  omega
theorem aQg{S:Ps}(h:Pre S 0)(hn:¬ oX S≥0):(∀ b,b<nB S→cY S b=false)∧(jL S:Int)≤eO S:=by
 unfold oX at hn
 have hph:=pO S
 have hlost:=h.lost
 obtain⟨f1,f2⟩:=kK (cY S) (nB S)
 by_cases hc:(decide (cL (cY S) (nB S)<0)&&decide ((jL S:Int)>eO S))=true
 ·rw[if_pos hc] at hn
  rw[Bool.and_eq_true,decide_eq_true_eq,decide_eq_true_eq] at hc
  unfold eO at hc
  obtain⟨g1,_⟩:=lR (S:=S) (by omega)
  omega
 ·rw[if_neg hc] at hn
  rw[Bool.and_eq_true,decide_eq_true_eq,decide_eq_true_eq] at hc
  have h1:cL (cY S) (nB S)<0:=by omega
  exact⟨f1 h1,by
   by_cases h2:(jL S:Int)>eO S
   ·exact absurd ⟨h1,h2⟩ hc
   ·omega⟩
theorem uJ{is js:Nat→Bool}:∀ {n:Nat},(∀ k,k<n→is k=js k)→cL is n=cL js n
 | 0,_=>rfl
 | n+1,h=>by rw[cL,cL,uJ fun k hk=>h k (by omega),h n (by omega)]
section
variable {A:bI} {M:aC} {S:Ps} {C:aQ} {m:List iC}
def aFO(r:Ps×Int×Int):AV:=if r.2.2=0 then .tup [bD r.2.1 (aN r.1 r.2.1.toNat:Int),i64 0] else .tup [bD 0 0,i64 r.2.2]
theorem aLo(h:FR A M S C m)(h0:Pre S (nB S+1))(ho:S.ops+3000≤1000000000):
 aB tb.P 120 [.ptr A.f 0] M fun y N=>∃ C' m',y=aFO (bB S)∧FR A N (bB S).1 C' m'∧aE M N A.wr:=by
 have hg:=h.geo
 have hop0:=h0.ops
 have hpost:=aFx h0
 have hk2:2≤nB S*nG S:=by
  have:8*4≤nB S*nG S:=Nat.mul_le_mul (by omega) (by omega)
  omega
 have hmax:nB S*nG S≤160:=by
  have:nB S*nG S≤20*8:=Nat.mul_le_mul (by omega) (by omega)
  omega
 refine aLd ?_
 unfold F120
 refine bG fun M1 hM1=>?_
 have e1:M1=M.new (.cells [.ptr A.f 0] true):=hM1
 have k1:aE M M1 []:=by rw[e1];exact aE.new h.wf _
 have g1:M1.get M.next=some (.cells [.ptr A.f 0] true):=by rw[e1];exact get_new _ _
 have n1:M1.next=M.next+1:=by rw[e1];rfl
 clear hM1 e1
 refine bG fun M2 hM2=>?_
 have e2:M2=M1.new (.cells [i64 0,i64 0] true):=hM2
 have k2:aE M M2 []:=k1.trans0 (by rw[e2];exact aE.new k1.wf _)
 have g2:M2.get M1.next=some (.cells [i64 0,i64 0] true):=by rw[e2];exact get_new _ _
 have g2':M2.get M.next=some (.cells [.ptr A.f 0] true):=by rw[e2,aC.get_new,if_neg (by omega)];exact g1
 clear hM2 e2
 have hX:=h.aside (T:=[M1.next]) (fun c hc=>by rw[List.mem_singleton] at hc;omega)
 have hwlt:∀ c∈A.wr,c<M.next:=h.lt
 have eA:∃ A':bI,FR A' M S C m∧A'.f=A.f∧A'.p=A.p∧A'.wr=A.wr∧M1.next∈A'.ext∧∀ {N:aC} {S:Ps} {C:aQ} {m:List iC},FR A' N S C m→FR A N S C m:=
  ⟨_,hX,rfl,rfl,rfl,by simp,fun h=>h.back⟩
 obtain⟨A',hX,eAf,eAp,eAw,eAx,eAb⟩:=eA
 have h2:=hX.post k2
 have lq:∀ N,N.get M.next=some (.cells [.ptr A.f 0] true)→aH tb 30 (.ptr M.next 0) N=some (.ptr A'.f 0,N):=fun N hg=>by rw[eAf];exact aR (dI aHM rfl hg rfl)
 refine aG (lq _ g2') ?_
 refine aG cZ ?_
 refine aG mQ ?_
 rw[bR]
 refine aG h2.lbl ?_
 rw[aJ]
 refine aG (lq _ g2') ?_
 refine aG cZ ?_
 refine aG mQ ?_
 rw[bR]
 refine aG h2.lpg ?_
 rw[aJ]
 have em:cX .i64 (nB S:Int) (nG S:Int)=((nB S*nG S:Nat):Int):=by
  rw[Int.natCast_mul]
  have:((nB S:Int)*(nG S:Int))=((nB S*nG S:Nat):Int):=by rw[Int.natCast_mul]
  exact aM (by omega) (by omega)
 rw[em]
 have fin:∀ (N:aC) (x y:Int) (e:AV) (S1:Ps) (C1:aQ) (m1:List iC) (K:AV×aC→Prop),FR A' N S1 C1 m1→aE M N A.wr→(∃ cs,N.get M1.next=some (.cells cs true)∧cs.length=2)→(∀ N',FR A N' S1 C1 m1→aE M N' A.wr→aA (fG tb [.c 85 (.ptr M1.next 0),.v e] N') (fun x'=>x'= .tup [bD x y,e])→K (dS,N'))→aA (bZ tb 85 (.ptr M1.next 0) (bD x y) N) K:=by
  rintro N x y e S1 C1 m1 K hN hk ⟨cs,hg,hl⟩ hK
  refine aG (fO x y hg hl) ?_
  have kp:aE N (N.put M1.next (.cells [i64 x,i64 y] true)) [M1.next]:=aE.put hN.wf (hN.wf _ _ hg) _
  have h1wr:M1.next∉A.wr:=fun hm=>by have:=hwlt _ hm;omega
  refine hK _ (eAb (hN.keepX kp fun c hc=>?_)) (hk.trans kp (fun _ h _=>h) (fun c hc hlt=>by rw[List.mem_singleton] at hc;omega)) ?_
  ·rw[List.mem_singleton] at hc
   subst hc
   exact⟨eAx,by rw[eAw];exact h1wr⟩
  ·exact aG (aBB (by rw[aC.get_put,if_pos rfl])) rfl
 refine⟨fun z n N=>∃ (k:Nat) (S1:Ps) (C1:aQ) (m1:List iC),z=k∧n=2-k∧FR A' N S1 C1 m1∧aE M N A.wr∧aDN (nB S*nG S-k) S1=bB S∧N.get M.next=some (.cells [.ptr A.f 0] true)∧(∃ cs,N.get M1.next=some (.cells cs true)∧cs.length=2)∧((k=0∧S1=S)∨(k=1∧rK S1∧Pre S1 0∧nB S1=nB S)),
  ⟨_,0,S,C,m,rfl,rfl,h2,k2.mono (by simp),rfl,g2',⟨_,g2,rfl⟩,.inl ⟨rfl,rfl⟩⟩,?_⟩
 rintro _ z n N ⟨k,S1,C1,m1,rfl,rfl,hN,hkN,hres,gN,gN',hkS⟩
 have hk1:k≤1:=by rcases hkS with⟨h,_⟩|⟨h,_⟩ <;> omega
 have hnb:nB S1=nB S:=by rcases hkS with⟨_,rfl⟩|⟨_,_,_,h⟩;exact rfl;exact h
 have hpre1:Pre S1 0:=by
  rcases hkS with⟨_,rfl⟩|⟨_,_,h,_⟩
  ·exact⟨h0.inv,h0.lost,h0.phi,by omega⟩
  ·exact h
 rw[decide_eq_true (by omega:(k:Int)<((nB S*nG S:Nat):Int)),gU]
 have hsub:nB S*nG S-k=(nB S*nG S-(k+1))+1:=by omega
 rw[hsub,aH7] at hres
 refine aG (lq _ gN) ?_
 have gNf:∀ N',aE N N' []→N'.get M.next=some (.cells [.ptr A'.f 0] true):=fun N' hk=>by rw[eAf];exact hk.get hN.wf gN (by simp)
 refine (tM hN (is:=cY S1) (vI (a:=[]) (cs:=[.ptr M.next 0]) aQR fun N' b hb hk hN'=>aNG hN' (gNf N' hk) hb)).mono ?_
 rintro x M24 ⟨hx,k24,fx⟩
 have h24:=hN.post k24
 refine (aLN M24 hx.at (by rw[jZ];have:=h24.geo;omega)).mono ?_
 rintro r M26 ⟨rfl,rfl⟩
 rw[jZ,uJ (js:=cY S1) fun j hj=>aBY _ hj]
 simp only[i64,aJ]
 have g24:=k24.get hN.wf gN (by simp)
 have g24':∃ cs,M26.get M1.next=some (.cells cs true)∧cs.length=2:=by
  obtain⟨cs,h1,h2⟩:=gN'
  exact⟨cs,k24.get hN.wf h1 (by simp),h2⟩
 have hk24:aE M M26 A.wr:=hkN.trans k24 (fun _ h _=>h) (by simp)
 refine bG fun K48 hK48=>?_
 have key48:∀ (z:Int) (N2:aC),aE M26 N2 []→z=oX S1→K48 z N2:=by
  intro z N2 kN2 hz
  rw[hK48,hz]
  clear hK48
  have hN2:=h24.post kN2
  have gN2:=kN2.get h24.wf g24 (by simp)
  have gN2':∃ cs,N2.get M1.next=some (.cells cs true)∧cs.length=2:=by
   obtain⟨cs,h1,h2⟩:=g24'
   exact⟨cs,kN2.get h24.wf h1 (by simp),h2⟩
  have hkN2:aE M N2 A.wr:=hk24.trans kN2 (fun _ h _=>h) (by simp)
  refine aS (fun e=>?_) (fun e=>?_)
  ·have e:=of_decide_eq_true e
   rw[if_pos e] at hres
   rw[← hres] at hpost ⊢
   rcases hpost.code with⟨_,_,_,q1,q2,_⟩|⟨q,_⟩
   rotate_left
   ·cases q
   obtain⟨o,hoo⟩:∃ o:Nat,oX S1=o:=⟨_,(Int.toNat_of_nonneg e).symm⟩
   refine aG (lq _ gN2) ?_
   refine aG cZ ?_
   refine aG iL ?_
   rw[bR]
   refine aG hN2.ldp ?_
   have q2:oX S1<nB S1:=q2
   rw[hoo] at q2 ⊢
   refine (rY hN2 (b:=o) (by omega)).mono ?_
   rintro r N3 ⟨rfl,kN3⟩
   simp only[i64,aJ]
   refine fin N3 (o:Int) (aN S1 o:Int) (i64 0) S1 C1 m1 _ (hN2.post kN3) (hkN2.trans kN3 (fun _ h _=>h) (by simp)) ?_ ?_
   ·obtain⟨cs,h1,h2⟩:=gN2'
    exact⟨cs,kN3.get hN2.wf h1 (by simp),h2⟩
   ·intro N4 h4 hk4 hres4
    unfold aA at hres4 ⊢
    cases he:fG tb [.c 85 (.ptr M1.next 0),.v (i64 0)] N4 with
    | none=>rw[he] at hres4;exact hres4.elim
    | some v=>
      rw[he] at hres4
      simp only[i64] at he
      rw[he]
      refine⟨C1,m1,?_,h4,hk4⟩
      unfold aFO
      rw[if_pos rfl]
      have:v= .tup [bD (o:Int) (aN S1 o:Int),i64 0]:=hres4
      rw[this]
      rfl
  ·have e:=of_decide_eq_false e
   rw[if_neg e] at hres
   obtain⟨q1,q2⟩:=aQg hpre1 e
   rcases hkS with⟨hk0,rfl⟩|⟨hk0,hprog,_,_⟩
   rotate_left
   ·exact absurd (aP7 hpre1 hprog) (by omega)
   obtain⟨cp,cpr⟩:=aGS h0 q1 q2
   refine aG (lq _ gN2) ?_
   refine (aG9 hN2 h0 q1 q2 (by omega)).mono ?_
   rintro r M62 ⟨C',m',rfl,h62,k62⟩
   rw[eAw] at k62
   simp only[i64,aJ]
   have hwr1:M1.next∉A.wr:=fun hm=>by have:=hwlt _ hm;omega
   have hwr0:M.next∉A.wr:=fun hm=>by have:=hwlt _ hm;omega
   have kk:aE M M62 A.wr:=hkN2.trans k62 (fun _ h _=>h) (fun _ h _=>h)
   have g62':∃ cs,M62.get M1.next=some (.cells cs true)∧cs.length=2:=by
    obtain⟨cs,h1,h2⟩:=gN2'
    exact⟨cs,k62.get hN2.wf h1 hwr1,h2⟩
   refine aS (fun e3=>?_) (fun e3=>?_)
   ·have e3:(cP S1).2≠0:=by simpa using e3
    rw[if_pos e3] at hres
    rw[← hres]
    refine fin M62 0 0 (i64 (cP S1).2) _ C' m' _ h62 kk g62' ?_
    intro N4 h4 hk4 hres4
    unfold aA at hres4 ⊢
    cases he:fG tb [.c 85 (.ptr M1.next 0),.v (i64 (cP S1).2)] N4 with
    | none=>rw[he] at hres4;exact hres4.elim
    | some v=>
      rw[he] at hres4
      simp only[i64] at he
      rw[he]
      refine⟨C',m',?_,h4,hk4⟩
      unfold aFO
      rw[if_neg e3]
      exact hres4
   ·have e3:(cP S1).2=0:=by simpa using e3
    rw[if_neg (by rw[e3];simp)] at hres
    have hcop:=cp.ops
    rcases cp.code with⟨_,c2,c3,c4,_⟩|⟨c1,_⟩
    ·refine⟨_,by omega,k+1,_,C',m',dM (by omega),rfl,h62,kk,hres,k62.get hN2.wf gN2 hwr0,g62',.inr ⟨by omega,cpr e3,⟨cp.inv,by rw[cp.env.g];exact c3,by rw[cp.env.g];have:=h0.phi;omega,by omega⟩,cp.env.nB⟩⟩
    ·rw[e3] at c1;cases c1
 clear hK48
 refine bG fun K40 hK40=>?_
 have key40:∀ (t:Bool) (N2:aC),aE M26 N2 []→t=(decide (cL (cY S1) (nB S1)<0)&&decide ((jL S1:Int)>eO S1))→K40 t N2:=by
  intro t N2 kN2 ht
  rw[hK40]
  clear hK40
  have hox:oX S1=if t=true then cB S1 else cL (cY S1) (nB S1):=by rw[ht];rfl
  refine aS (fun e=>?_) (fun e=>?_)
  ·rw[if_pos e] at hox
   refine aG (lq _ (kN2.get h24.wf g24 (by simp))) ?_
   refine (aGW (h24.post kN2)).mono ?_
   rintro r N3 ⟨rfl,kN3⟩
   exact⟨_,_,rfl,key48 _ _ (kN2.trans0 kN3) hox.symm⟩
  ·rw[if_neg (by rw[e];simp)] at hox
   exact key48 _ _ kN2 hox.symm
 clear hK40
 refine aS (fun e=>?_) (fun e=>⟨trivial,key40 _ _ (aE.refl h24.wf) (by rw[e];rfl)⟩)
 refine aG (lq _ g24) ?_
 refine aG (lq _ g24) ?_
 refine aG (lq _ g24) ?_
 refine (aKF h24 (is:=eW S1) (vI aOm fun N' b hb _ hN'=>aE7 hN' hb)).mono ?_
 rintro r M32 ⟨rfl,k32⟩
 simp only[i64,aJ]
 have h32:=h24.post k32
 refine⟨aG (lq _ (k32.get h24.wf g24 (by simp))) rfl,?_⟩
 refine (aDr h32).mono ?_
 rintro r M36 ⟨rfl,k36⟩
 simp only[i64,aJ]
 exact key40 _ _ (k32.trans0 k36) (by rw[e];rfl)
end
set_option maxRecDepth 100000
section
variable {A:bI} {M:aC} {S:Ps} {C:aQ} {m:List iC}
theorem aLU(S:Ps)(t:Tg)(d:List (BitVec 8)):gK S t d=if (bB S).2.2≠0 then ((bB S).1,(bB S).2.2) else kV (bB S).1 (bB S).2.1.toNat { t with e:=(bB S).1.now } d:=rfl
theorem aNo(h:FR A M S C m)(h0:Pre S (nB S+1))(ho:S.ops+3000≤1000000000){t:Tg}{x:AV}{d:List (BitVec 8)}
 (hok:∀ s:Int,0≤s∧s≤4294967295→vZ d t.k t.p s S.now=true) (hd:(d.length:Int)=S.g.by') (hp:t.k≠3→t.p<dK S.g) (he:S.now≤S.ep) (hx:aL M x d) (hone:x.one=true) (hxa:∀ c,aO x c→c∉A.av):
 aB tb.P 86 [.ptr A.f 0,tgA t,x] M fun y N=>∃ C' m',y=i64 (gK S t d).2∧FR A N (gK S t d).1 C' m'∧aE M N A.wr:=by
 have hg:=h.geo
 have hpost:=aFx h0
 have hop:=hpost.ops
 refine aOU ?_
 unfold F86
 refine⟨_,_,_,_,rfl,?_⟩
 refine bG fun M5 hM5=>?_
 have e5:M5=M.new (.cells (jJ t) true):=hM5
 have k5:aE M M5 []:=by rw[e5];exact aE.new h.wf _
 have g5:M5.get M.next=some (.cells (jJ t) true):=by rw[e5];exact get_new _ _
 clear hM5 e5
 have hwlt:∀ c∈A.wr,c<M.next:=h.lt
 have hwr:M.next∉A.wr:=fun hm=>by have:=hwlt _ hm;omega
 have eA:∃ A':bI,FR A' M S C m∧A'.f=A.f∧A'.wr=A.wr∧M.next∈A'.ext∧(∀ {N:aC} {S:Ps} {C:aQ} {m:List iC},FR A' N S C m→FR A N S C m)∧∀ c,aO x c→c∉A'.av:=
  ⟨_,h.aside (T:=[M.next]) (fun c hc=>by rw[List.mem_singleton] at hc;omega),rfl,rfl,by simp,fun h=>h.back,fun c hc hm=>by
   simp only[bI.av,List.mem_append,List.mem_singleton] at hm
   have hlt:=aP.blk_lt hx h.wf hc
   rcases hm with hm|hm|hm
   ·exact hxa c hc (by simp only[bI.av,List.mem_append];exact .inl hm)
   ·omega
   ·exact hxa c hc (by simp only[bI.av,List.mem_append];exact .inr hm)⟩
 obtain⟨A',hX,eAf,eAw,eAx,eAb,eAd⟩:=eA
 have h5:=hX.post k5
 rw[← eAf]
 refine (aLo h5 h0 ho).mono ?_
 rintro y M7 ⟨C1,m1,rfl,h7,k7⟩
 rw[eAw] at k7
 have g7:=k7.get k5.wf g5 hwr
 have K7:aE M M7 A.wr:=(k5.mono (S':=A.wr) (by simp)).trans k7 (fun _ h _=>h) (fun _ h _=>h)
 rw[aLU]
 have box:∀ (a c:Int),∃ M12:aC,M7.new (.cells [i64 0,i64 0] true)=M7.new (.cells [i64 0,i64 0] true)∧bZ tb 85 (.ptr M7.next 0) (bD a c) (M7.new (.cells [i64 0,i64 0] true))=some (dS,M12)∧aE M7 M12 []∧M12.get M7.next=some (.cells [i64 a,i64 c] true):=fun a c=>by
  have k11:aE M7 (M7.new (.cells [i64 0,i64 0] true)) []:=aE.new h7.wf _
  exact⟨_,rfl,fO a c (get_new _ _) rfl,yN k11 (Nat.le_refl _) (Nat.lt_succ_self _) _,by rw[aC.get_put,if_pos rfl]⟩
 by_cases hc0:(bB S).2.2=0
 ·rw[if_neg (by rw[hc0];simp)]
  have hpl:aFO (bB S)= .tup [bD (bB S).2.1 (aN (bB S).1 (bB S).2.1.toNat:Int),i64 0]:=by unfold aFO;rw[if_pos hc0]
  rw[hpl]
  rcases hpost.code with⟨_,p2,p3,q1,q2,q3,q4,_⟩|⟨q,_⟩
  rotate_left
  ·rw[hc0] at q;cases q
  obtain⟨o,hoo⟩:∃ o:Nat,(bB S).2.1=o:=⟨_,(Int.toNat_of_nonneg q1).symm⟩
  rw[hoo] at q2 q3 q4 ⊢
  rw[Int.toNat_natCast] at q3 q4 ⊢
  refine⟨_,_,_,rfl,?_⟩
  refine bG fun M11 hM11=>?_
  obtain⟨M12,_,b1,b2,b3⟩:=box (o:Int) (aN (bB S).1 o:Int)
  rw[show M11=M7.new (.cells [i64 0,i64 0] true) from hM11]
  refine aG b1 ?_
  simp only[bne_self_eq_false,gE]
  have h12:=h7.post b2
  have g12:=b2.get h7.wf g7 (by simp)
  have fa8:∀ N,bV tb 83 (.ptr A'.f 0) 8 N=some (.ptr A'.f 12,N):=fun N=>bW (by unfold eZf;rw[aBb];rfl)
  refine aG cZ ?_
  refine aG (fa8 _) ?_
  rw[bR]
  refine aG (aR (dI dR rfl h12.fl (o:=12) (v:=i64 (bB S).1.now) rfl)) ?_
  simp only[i64,aJ]
  refine aG (lM (cO dR rfl rfl g12 (by simp[jJ]))) ?_
  have hset:(jJ t).set 3 (.val (.int .i64 (bB S).1.now))=jJ { t with e:=(bB S).1.now }:=rfl
  rw[hset]
  have hn12:M.next<M12.next:=h12.wf _ _ g12
  have kp:aE M12 (M12.put M.next (.cells (jJ { t with e:=(bB S).1.now }) true)) [M.next]:=aE.put h12.wf hn12 _
  have h19:=h12.keepX kp fun c hc=>by
   rw[List.mem_singleton] at hc
   subst hc
   exact⟨eAx,by rw[eAw];exact hwr⟩
  have g19:(M12.put M.next (.cells (jJ { t with e:=(bB S).1.now }) true)).get M.next=some (.cells (jJ { t with e:=(bB S).1.now }) true):=by rw[aC.get_put,if_pos rfl]
  have n7:M.next<M7.next:=h7.wf _ _ g7
  have b3':(M12.put M.next (.cells (jJ { t with e:=(bB S).1.now }) true)).get M7.next=some (.cells [i64 (o:Int),i64 (aN (bB S).1 o:Int)] true):=by rw[aC.get_put,if_neg (by omega)];exact b3
  have K19:aE M (M12.put M.next (.cells (jJ { t with e:=(bB S).1.now }) true)) A.wr:=(K7.trans b2 (fun _ h _=>h) (by simp)).trans kp (fun _ h _=>h) (fun c hc hlt=>by rw[List.mem_singleton] at hc;omega)
  generalize M12.put M.next (.cells (jJ { t with e:=(bB S).1.now }) true)=M19 at*
  refine aG (aR (bQ b3').2.2) ⟨_,_,rfl,?_⟩
  refine aG (aR (gY g19).2.2.2.2) ⟨_,_,_,_,rfl,?_⟩
  have hnow:(bB S).1.now=S.now:=hpost.env.now
  have hgg:(bB S).1.g=S.g:=hpost.env.g
  have hx19:aL M19 x d:=aP.keep hx h.wf K19 fun c hc hm=>hxa c hc (bI.wr_av hm)
  refine (aBQ h19 (t:={ t with e:=(bB S).1.now }) (by omega) q3 q4 (by omega) (fun s hs=>by simp only;rw[hnow];exact hok s hs) (by rw[hgg];exact hd) (by rw[hgg];exact hp) (by simp only;rw[hnow,hpost.env.ep];exact he) hx19 hone eAd).mono ?_
  rintro y N ⟨C2,m2,rfl,hN,kN⟩
  rw[eAw] at kN
  simp only[i64,aJ]
  exact⟨C2,m2,by trivial,eAb hN,K19.trans kN (fun _ h _=>h) (fun _ h _=>h)⟩
 ·rw[if_pos hc0]
  have hpl:aFO (bB S)= .tup [bD 0 0,i64 (bB S).2.2]:=by unfold aFO;rw[if_neg hc0]
  rw[hpl]
  refine⟨_,_,_,rfl,?_⟩
  refine bG fun M11 hM11=>?_
  obtain⟨M12,_,b1,b2,b3⟩:=box 0 0
  rw[show M11=M7.new (.cells [i64 0,i64 0] true) from hM11]
  refine aG b1 ?_
  refine aS (fun _=>?_) (fun e=>?_)
  ·exact⟨C1,m1,rfl,eAb (h7.post b2),K7.trans b2 (fun _ h _=>h) (by simp)⟩
  ·have e:(bB S).2.2=0:=by simpa using e
   exact absurd e hc0
end
structure aLX (S:Ps) (t:Tg) (d:List (BitVec 8)) (r:Ps×Int):Prop where
 inv:eG r.1
 env:rJ S r.1
 ops:S.ops≤r.1.ops∧r.1.ops≤S.ops+9*(nB S+1)+1
 lostM:∀ c,bC S c=true→bC r.1 c=true
 code:(r.2=0∧r.1.deg=S.deg∧(cG r.1:Int)≤S.g.sp∧2+S.g.sp≤phi r.1∧∃ (S1:Ps) (o:Nat),iS S S1∧rJ S S1∧eG S1∧o<S1.x.length∧r.1=bM S1 o { t with e:=S.now } d)∨
  (r.2=12∧r.1.deg=true∧S.g.sp<(cG r.1:Int)∧(iS S r.1∨∃ (S1:Ps) (o:Nat),iS S S1∧rJ S S1∧eG S1∧o<S1.x.length∧r.1={ bM S1 o { t with e:=S.now } d with deg:=true }))
theorem aJ1(S:Ps)(t:Tg)(d:List (BitVec 8)):gK S t d=if (bB S).2.2≠0 then ((bB S).1,(bB S).2.2) else kV (bB S).1 (bB S).2.1.toNat { t with e:=(bB S).1.now } d:=rfl
theorem aE3{S:Ps}(h:Pre S (nB S+1)){t:Tg}{d:List (BitVec 8)}(hok:∀ s:Int,0≤s∧s≤4294967295→vZ d t.k t.p s S.now=true)(hd:(d.length:Int)=S.g.by')(hp:t.k≠3→t.p<dK S.g)(he:S.now≤S.ep):aLX S t d (gK S t d):=by
 have hpl:=aFx h
 have hop:=hpl.ops
 have hop0:=h.ops
 have hseq:=hpl.inv.seq
 rw[aJ1]
 rcases hpl.code with⟨c1,c2,c3,q1,q2,q3,q4,q5⟩|⟨c1,c2,c3⟩
 ·rw[if_neg (by rw[c1];simp)]
  obtain⟨o,hoo⟩:∃ o:Nat,(bB S).2.1=o:=⟨_,(Int.toNat_of_nonneg q1).symm⟩
  rw[hoo] at q2 q3 q4 q5 ⊢
  rw[Int.toNat_natCast] at q3 q4 q5 ⊢
  have hnow:(bB S).1.now=S.now:=hpl.env.now
  have hg:(bB S).1.g=S.g:=hpl.env.g
  rw[hnow]
  have hx:o<(bB S).1.x.length:=by rw[hpl.inv.len];omega
  have hinv:eG (bM (bB S).1 o { t with e:=S.now } d):=hpl.inv.push (t:={ t with e:=S.now }) (by omega) q3 q4 (hok _ (by omega)) (by rw[hg];exact hd) (by rw[hg];exact hp) (by simp only;rw[hpl.env.ep];exact he)
  have henv:rJ S (bM (bB S).1 o { t with e:=S.now } d):=hpl.env.trans ⟨rfl,rfl,rfl,rfl⟩
  have hlm:∀ c,bC S c=true→bC (bM (bB S).1 o { t with e:=S.now } d) c=true:=fun c hc=>(vH _ _ c).2 (hpl.lostM c hc)
  have hops:S.ops≤(bM (bB S).1 o { t with e:=S.now } d).ops∧(bM (bB S).1 o { t with e:=S.now } d).ops≤S.ops+9*(nB S+1)+1:=by
   show S.ops≤(bB S).1.ops+1∧(bB S).1.ops+1≤_
   omega
  unfold kV
  rcases rU (bM (bB S).1 o { t with e:=S.now } d) with⟨e,hw⟩|⟨e,hw⟩
  ·rw[e]
   refine⟨hinv,henv,hops,hlm,.inl ⟨rfl,c2,by rw[← henv.g];exact hw,?_,_,o,hpl.same,hpl.env,hpl.inv,hx,rfl⟩⟩
   have hphi:=aDo (S:=(bB S).1) (b:=o) (by omega) hx { t with e:=S.now } d
   rw[hg] at q5
   show 2+S.g.sp≤(phi (bM (bB S).1 o { t with e:=S.now } d):Int)
   rcases q5 with⟨u1,u2⟩|⟨u1,u2⟩
   ·have hfl:wN (bB S).1 o=false:=by
     unfold wN
     rw[q3,Bool.false_or]
     simp;omega
    rw[hfl] at hphi
    simp only[Bool.false_eq_true,if_false] at hphi
    split at hphi <;> omega
   ·have hfl:wN (bB S).1 o=true:=by
     unfold wN
     rw[q3,Bool.false_or,u1]
     rfl
    rw[hfl] at hphi
    simp only[if_true] at hphi
    split at hphi <;> omega
  ·rw[e]
   exact⟨hinv.deg true,henv.trans ⟨rfl,rfl,rfl,rfl⟩,hops,hlm,.inr ⟨rfl,rfl,by rw[← henv.g];exact hw,.inr ⟨_,o,hpl.same,hpl.env,hpl.inv,hx,rfl⟩⟩⟩
 ·rw[if_pos (by rw[c1];simp)]
  exact⟨hpl.inv,hpl.env,⟨hop.1,by show (bB S).1.ops≤_;omega⟩,hpl.lostM,.inr ⟨c1,c2,c3,.inl hpl.same⟩⟩
theorem aEn{S:Ps}{b:Nat}(hb:b<S.x.length){t:Tg}(hk:t.k≠3)(d:List (BitVec 8)):bJ (bM S b t d)=bJ S:=by
 obtain⟨h1,h2,h3⟩:=eK S
 refine uD (fun b' i' u hu hk'=>?_) h2 ?_
 ·rw[aY hb] at hu
  split at hu
  ·injection hu with hu
   subst hu
   exact absurd hk' hk
  ·exact h1 _ _ _ hu hk'
 ·refine h3.imp id fun⟨b',i',u,hu,hk',e⟩=>⟨b',i',u,?_,hk',e⟩
  rw[aY hb,if_neg]
  ·exact hu
  ·rintro⟨rfl,rfl⟩
   have:=cU hu;omega
theorem aIe{S:Ps}(hs:aEX S){b:Nat}(hb:b<S.x.length){t:Tg}(hk:t.k≠3)(hp:0≤t.p)(he:t.e=S.now)(hn:bJ S<S.now)(d:List (BitVec 8))(c:Int×Bool)(b' i':Nat)(u:rO):
 jG (bM S b t d) c b' i' u↔(if c=(t.p,true) then b'=b∧i'=aN S b∧u=⟨{ t with s:=S.seq+1 },d⟩ else jG S c b' i' u):=by
 have hl:=aEn hb hk d
 have hc:∀ v,dW (bM S b t d) v=dW S v:=fun v=>by unfold dW;rw[hl];rfl
 have hct:∀ s:Int,dW S { t with s:=s }=some (t.p,true):=fun s=>by
  unfold dW kQ
  simp only
  rw[if_neg hk,if_pos (by omega),if_pos he]
 have hold:∀ b1 i1 w,bK S b1 i1=some w→¬ (b1=b∧i1=aN S b):=fun b1 i1 w hw hh=>by
  have:=cU hw
  rw[hh.1] at this
  omega
 have hclass:∀ {w:rO},dW S w.t=some (t.p,true)→w.t.e=S.now:=fun {w} hw=>by
  unfold dW kQ at hw
  by_cases h3:w.t.k=3
  ·rw[if_pos h3] at hw
   injection hw with hw
   injection hw with h1 h2
   omega
  ·rw[if_neg h3] at hw
   by_cases h4:w.t.e>bJ S
   ·rw[if_pos h4] at hw
    by_cases h5:w.t.e=S.now
    ·exact h5
    ·rw[if_neg h5] at hw;cases hw
   ·rw[if_neg h4] at hw
    injection hw with hw
    injection hw with _ hw
    cases hw
 unfold jG
 simp only[hc]
 by_cases e:c=(t.p,true)
 ·subst e
  rw[if_pos rfl]
  constructor
  ·rintro⟨h1,h2,h3⟩
   have h4:=h3 b (aN S b) ⟨{ t with s:=S.seq+1 },d⟩ (by rw[aY hb,if_pos ⟨rfl,rfl⟩]) (hct _)
   rw[aY hb] at h1
   split at h1
   ·rename_i hh
    injection h1 with h1
    exact⟨hh.1,hh.2,h1.symm⟩
   ·exfalso
    have h5:=hclass h2
    have h6:=hs.le _ _ _ h1
    rw[cN] at h4
    simp only at h4
    omega
  ·rintro⟨rfl,rfl,rfl⟩
   refine⟨by rw[aY hb,if_pos ⟨rfl,rfl⟩],hct _,fun b1 i1 w hw hcw=>?_⟩
   rw[aY hb] at hw
   split at hw
   ·injection hw with hw
    subst hw
    rw[cN];right;exact⟨rfl,Int.le_refl _⟩
   ·have h5:=hclass hcw
    have h6:=hs.le _ _ _ hw
    rw[cN]
    simp only
    omega
 ·rw[if_neg e]
  constructor
  ·rintro⟨h1,h2,h3⟩
   rw[aY hb] at h1
   split at h1
   ·injection h1 with h1
    subst h1
    have:=(hct (S.seq+1)).symm.trans h2
    injection this with this
    exact absurd this.symm e
   ·refine⟨h1,h2,fun b1 i1 w hw hcw=>h3 b1 i1 w ?_ hcw⟩
    rw[aY hb,if_neg (hold _ _ _ hw)]
    exact hw
  ·rintro⟨h1,h2,h3⟩
   refine⟨by rw[aY hb,if_neg (hold _ _ _ h1)];exact h1,h2,fun b1 i1 w hw hcw=>?_⟩
   rw[aY hb] at hw
   split at hw
   ·injection hw with hw
    subst hw
    have:=(hct (S.seq+1)).symm.trans hcw
    injection this with this
    exact absurd this.symm e
   ·exact h3 b1 i1 w hw hcw
theorem aMX{S:Ps}(hs:aEX S){b:Nat}(hb:b<S.x.length){t:Tg}(hk:t.k≠3)(hp:0≤t.p)(he:t.e=S.now)(hn:bJ S<S.now)(d:List (BitVec 8))(c:Int×Bool)(k p e:Int)(d':List (BitVec 8)):
 sY (bM S b t d) c k p e d'↔(if c=(t.p,true) then k=t.k∧p=t.p∧e=t.e∧d'=d else sY S c k p e d'):=by
 unfold sY
 simp only[aIe hs hb hk hp he hn d]
 by_cases h:c=(t.p,true)
 ·rw[if_pos h]
  simp only[h,if_true]
  constructor
  ·rintro⟨_,_,v,⟨rfl,rfl,rfl⟩,rfl,rfl,rfl,rfl⟩
   exact⟨rfl,rfl,rfl,rfl⟩
  ·rintro⟨rfl,rfl,rfl,rfl⟩
   exact⟨_,_,_,⟨rfl,rfl,rfl⟩,rfl,rfl,rfl,rfl⟩
 ·rw[if_neg h]
  simp only[h,if_false]
structure xC (S:Ps):Prop where
 inv:eG S
 now:S.now=bJ S+1
 ep:S.ep=S.now
theorem aDC{S:Ps}(h:xC S){b:Nat}(hb:b<S.x.length){t:Tg}(hk:t.k=3)(he:t.e=S.now)(d:List (BitVec 8)):bJ (bM S b t d)=S.now:=by
 obtain⟨h1,h2,h3⟩:=eK S
 have h4:=h.now
 refine uD (fun b' i' u hu hk'=>?_) (by omega) (.inr ⟨b,aN S b,⟨{ t with s:=S.seq+1 },d⟩,by rw[aY hb,if_pos ⟨rfl,rfl⟩],hk,he⟩)
 rw[aY hb] at hu
 split at hu
 ·injection hu with hu
  subst hu
  show t.e≤_
  omega
 ·have:=h1 _ _ _ hu hk'
  omega
theorem aJs{S:Ps}(h:xC S){b:Nat}(hb:b<S.x.length){t:Tg}(hk:t.k=3)(he:t.e=S.now)(d:List (BitVec 8)){p:Int}(hp:0≤p)(b' i':Nat)(u:rO):
 jG (bM S b t d) (p,false) b' i' u↔jG S (p,true) b' i' u∨((∀ b1 i1 w,¬ jG S (p,true) b1 i1 w)∧jG S (p,false) b' i' u):=by
 have hl:=aDC h hb hk he d
 have hnow:=h.now
 have hep:=h.ep
 have htag:=fun b i v hv=>(h.inv.tag b i v hv).2.2.2.2
 have hold:∀ b1 i1 w,bK S b1 i1=some w→¬ (b1=b∧i1=aN S b):=fun b1 i1 w hw hh=>by
  have:=cU hw
  rw[hh.1] at this
  omega
 have c':∀ w:Tg,w.e≤S.now→(dW (bM S b t d) w=some (p,false)↔w.k≠3∧w.p=p):=fun w hw=>by
  unfold dW kQ
  rw[hl]
  by_cases h3:w.k=3
  ·rw[if_pos h3]
   simp[h3]
   omega
  ·rw[if_neg h3,if_neg (by omega)]
   simp[h3]
 have cF:∀ w:Tg,w.e≤S.now→(dW S w=some (p,false)↔w.k≠3∧w.p=p∧w.e≤bJ S):=fun w hw=>by
  unfold dW kQ
  by_cases h3:w.k=3
  ·rw[if_pos h3]
   simp[h3]
   omega
  ·rw[if_neg h3]
   by_cases h4:w.e>bJ S
   ·rw[if_pos h4]
    split
    ·simp;omega
    ·simp;omega
   ·rw[if_neg h4]
    simp[h3]
    omega
 have cT:∀ w:Tg,w.e≤S.now→(dW S w=some (p,true)↔w.k≠3∧w.p=p∧w.e=S.now):=fun w hw=>by
  unfold dW kQ
  by_cases h3:w.k=3
  ·rw[if_pos h3]
   simp[h3]
   omega
  ·rw[if_neg h3]
   by_cases h4:w.e>bJ S
   ·rw[if_pos h4,if_pos (by omega)]
    simp[h3]
    omega
   ·rw[if_neg h4]
    simp
    omega
 have verp:∀ b1 i1 w,bK (bM S b t d) b1 i1=some w→w.t.e≤S.now∧(w.t.k≠3→bK S b1 i1=some w):=fun b1 i1 w hw=>by
  rw[aY hb] at hw
  split at hw
  ·injection hw with hw
   subst hw
   exact⟨by show t.e≤_;omega,fun hk'=>absurd hk hk'⟩
  ·exact⟨by have:=htag _ _ _ hw;omega,fun _=>hw⟩
 have vers:∀ b1 i1 w,bK S b1 i1=some w→bK (bM S b t d) b1 i1=some w∧w.t.e≤S.now:=fun b1 i1 w hw=>⟨by rw[aY hb,if_neg (hold _ _ _ hw)];exact hw,by have:=htag _ _ _ hw;omega⟩
 constructor
 ·rintro⟨h1,h2,h3⟩
  obtain⟨e1,e2⟩:=verp _ _ _ h1
  obtain⟨k3,kp⟩:=(c' u.t e1).1 h2
  have h1':=e2 k3
  by_cases hf:u.t.e=S.now
  ·left
   refine⟨h1',(cT u.t e1).2 ⟨k3,kp,hf⟩,fun b1 i1 w hw hcw=>?_⟩
   obtain⟨w1,w2⟩:=vers _ _ _ hw
   obtain⟨w3,w4,_⟩:=(cT w.t w2).1 hcw
   exact h3 _ _ _ w1 ((c' w.t w2).2 ⟨w3,w4⟩)
  ·right
   refine⟨fun b1 i1 w hw=>?_,h1',(cF u.t e1).2 ⟨k3,kp,by omega⟩,fun b1 i1 w hw hcw=>?_⟩
   ·obtain⟨w1,w2⟩:=vers _ _ _ hw.1
    obtain⟨w3,w4,w5⟩:=(cT w.t w2).1 hw.2.1
    have:=h3 _ _ _ w1 ((c' w.t w2).2 ⟨w3,w4⟩)
    rw[cN] at this
    omega
   ·obtain⟨w1,w2⟩:=vers _ _ _ hw
    obtain⟨w3,w4,_⟩:=(cF w.t w2).1 hcw
    exact h3 _ _ _ w1 ((c' w.t w2).2 ⟨w3,w4⟩)
 ·rintro (⟨h1,h2,h3⟩|⟨hno,h1,h2,h3⟩)
  ·obtain⟨w1,w2⟩:=vers _ _ _ h1
   obtain⟨k3,kp,ke⟩:=(cT u.t w2).1 h2
   refine⟨w1,(c' u.t w2).2 ⟨k3,kp⟩,fun b1 i1 w hw hcw=>?_⟩
   obtain⟨e1,e2⟩:=verp _ _ _ hw
   obtain⟨m3,mp⟩:=(c' w.t e1).1 hcw
   have hw':=e2 m3
   by_cases hf:w.t.e=S.now
   ·exact h3 _ _ _ hw' ((cT w.t e1).2 ⟨m3,mp,hf⟩)
   ·rw[cN];omega
  ·obtain⟨w1,w2⟩:=vers _ _ _ h1
   obtain⟨k3,kp,ke⟩:=(cF u.t w2).1 h2
   refine⟨w1,(c' u.t w2).2 ⟨k3,kp⟩,fun b1 i1 w hw hcw=>?_⟩
   obtain⟨e1,e2⟩:=verp _ _ _ hw
   obtain⟨m3,mp⟩:=(c' w.t e1).1 hcw
   have hw':=e2 m3
   by_cases hf:w.t.e=S.now
   ·obtain⟨b2,i2,v2,hb2⟩:=aCP hw' ((cT w.t e1).2 ⟨m3,mp,hf⟩)
    exact absurd hb2 (hno _ _ _)
   ·exact h3 _ _ _ hw' ((cF w.t e1).2 ⟨m3,mp,by omega⟩)
theorem aMR{S:Ps}(h:xC S){b:Nat}(hb:b<S.x.length){t:Tg}(hk:t.k=3)(he:t.e=S.now)(d:List (BitVec 8)){p:Int}(hp:0≤p)(k q e:Int)(d':List (BitVec 8)):
 sY (bM S b t d) (p,false) k q e d'↔sY S (p,true) k q e d'∨((∀ k q e d',¬ sY S (p,true) k q e d')∧sY S (p,false) k q e d'):=by
 unfold sY
 simp only[aJs h hb hk he d hp]
 constructor
 ·rintro⟨b1,i1,v,h1|⟨h1,h2⟩,h3⟩
  ·exact .inl ⟨b1,i1,v,h1,h3⟩
  ·refine .inr ⟨?_,b1,i1,v,h2,h3⟩
   rintro k q e d' ⟨b2,i2,w,h4,_⟩
   exact h1 _ _ _ h4
 ·rintro (⟨b1,i1,v,h1,h3⟩|⟨h1,b1,i1,v,h2,h3⟩)
  ·exact⟨b1,i1,v,.inl h1,h3⟩
  ·exact⟨b1,i1,v,.inr ⟨fun b2 i2 w hw=>h1 _ _ _ _ ⟨b2,i2,w,hw,rfl,rfl,rfl,rfl⟩,h2⟩,h3⟩
abbrev dE:=List (BitVec 8)
def eZ(g:eV):dE:=List.replicate g.by'.toNat 0#8
def gV(P:Int→Option (Option dE))(B:Int→Option dE)(z:dE)(n:Nat):Option (Tg×dE):=match P n with
 | some (some d)=>some (⟨1,n,0,0⟩,d)
 | some none=>if (B n).isSome=true then some (⟨2,n,0,0⟩,z) else none
 | none=>none
def gR(ac:Nat→Option (Tg×dE)):Nat→Nat→Ps→Ps×Int
 | 0,_,S=>(S,0)
 | k+1,n,S=>match ac n with
   | none=>gR ac k (n+1) S
   | some (t,d)=>if (gK S t d).2≠0 then gK S t d else gR ac k (n+1) (gK S t d).1
def pK:Tg:=⟨3,0,0,0⟩
def kM(S:Ps)(ac:Nat→Option (Tg×dE)):Ps×Int:=
 if (gR ac (nB S*nG S) 0 S).2≠0 then gR ac (nB S*nG S) 0 S else gK (gR ac (nB S*nG S) 0 S).1 pK (eZ S.g)
def bH(S:Ps):Ps:={ S with ep:=S.ep+1,now:=S.ep+1 }
def fQ(S:Ps)(ac:Nat→Option (Tg×dE)):Ps×Int:=
 if (kM (bH S) ac).2≠0 then ({ (kM (bH S) ac).1 with now:=0 },(kM (bH S) ac).2) else lZ { (kM (bH S) ac).1 with now:=0 }
theorem aLt{S:Ps}{x:Int}{t:Tg}{p:Int}:dW { S with now:=x } t=some (p,false)↔dW S t=some (p,false):=by
 have hl:bJ { S with now:=x }=bJ S:=rfl
 unfold dW kQ
 rw[hl]
 by_cases h3:t.k=3
 ·rw[if_pos h3,if_pos h3]
 ·rw[if_neg h3,if_neg h3]
  by_cases h4:t.e>bJ S
  ·rw[if_pos h4,if_pos h4]
   constructor
   ·intro h;split at h <;> simp at h
   ·intro h;split at h <;> simp at h
  ·rw[if_neg h4,if_neg h4]
theorem aB6{S:Ps}{x:Int}{p k q e:Int}{d:dE}:sY { S with now:=x } (p,false) k q e d↔sY S (p,false) k q e d:=by
 unfold sY jG
 simp only[aLt]
 exact Iff.rfl
def dQ(S:Ps)(B:Int→Option dE):Prop:=∀ p:Int,0≤p→∀ d,B p=some d↔∃ e,sY S (p,false) 1 p e d
theorem dQ.same{S S':Ps}{B:Int→Option dE}(h:dQ S B)(hs:iS S S'):dQ S' B:=fun p hp d=>by
 rw[h p hp d]
 exact⟨fun⟨e,he⟩=>⟨e,(hs.has _ _ _ _ _).2 he⟩,fun⟨e,he⟩=>⟨e,(hs.has _ _ _ _ _).1 he⟩⟩
theorem dQ.now{S:Ps}{B:Int→Option dE}(h:dQ S B)(x:Int):dQ { S with now:=x } B:=fun p hp d=>by
 rw[h p hp d]
 exact⟨fun⟨e,he⟩=>⟨e,aB6.2 he⟩,fun⟨e,he⟩=>⟨e,aB6.1 he⟩⟩
theorem dQ.deg{S:Ps}{B:Int→Option dE}(h:dQ S B)(x:Bool):dQ { S with deg:=x } B:=h.same (iS.deg S x)
def fD(P:Int→Option (Option dE))(B:Int→Option dE)(n:Int):Option dE:=match P n with
 | some x=>x
 | none=>B n
structure aAB (g:eV) (P:Int→Option (Option dE)):Prop where
 rng:∀ n x,P n=some x→0≤n∧n<dK g
 len:∀ n d,P n=some (some d)→(d.length:Int)=g.by'
structure tR (S:Ps):Prop where
 inv:eG S
 now:S.now=0
 ep:S.ep=bJ S
 lost:(cG S:Int)≤S.g.sp
 phi:2+S.g.sp≤phi S
def dL(S:Ps):Int:=9*(nB S+1)+1
structure Pts (S0:Ps) (ac:Nat→Option (Tg×dE)) (n:Nat) (S:Ps):Prop where
 und:xC S
 env:rJ S0 S
 deg:S.deg=S0.deg
 lost:(cG S:Int)≤S.g.sp
 phi:2+S.g.sp≤phi S
 ops:S0.ops≤S.ops∧S.ops≤S0.ops+dL S0*n
 last:bJ S=bJ S0
 lostM:∀ c,bC S0 c=true→bC S c=true
 old:∀ p k q e d,0≤p→(sY S (p,false) k q e d↔sY S0 (p,false) k q e d)
 new:∀ p k q e d,0≤p→(sY S (p,true) k q e d↔∃ t,p<n∧ac p.toNat=some (t,d)∧k=t.k∧q=p∧e=S0.now)
structure aBs (g:eV) (now:Int) (ac:Nat→Option (Tg×dE)):Prop where
 k:∀ n t d,ac n=some (t,d)→(t.k=1∨t.k=2)∧t.p=n∧(n:Int)<dK g∧(d.length:Int)=g.by'
theorem uK{g:eV}(hg:fU g=true){now:Int}(hn:0≤now∧now≤16777215){k p:Int}{d:dE}(hk:(k=1∨k=2)∧0≤p∧p<dK g∨k=3∧p=0)(hd:(d.length:Int)=g.by')(s:Int)(hs:0≤s∧s≤4294967295):vZ d k p s now=true:=by
 have hm:=bL.1 hg
 obtain⟨_,h2⟩:=lD hg
 have h3:(g.bl-g.sp-3)*g.pg≤20*8:=Int.mul_le_mul (by omega) (by omega) (by omega) (by omega)
 refine aFi ⟨by omega,by omega,by omega,by omega,by omega,fun _=>by omega,by omega,by omega,by omega,by omega⟩
structure aQ4 (S0 S:Ps):Prop where
 inv:eG S
 env:rJ S0 S
 deg:S.deg=true
 lost:S.g.sp<(cG S:Int)
theorem aAq{S S1:Ps}(h:xC S)(hs:iS S S1)(he:rJ S S1)(hi:eG S1):xC S1:=⟨hi,by rw[hs.now,hs.last];exact h.now,by rw[he.ep,hs.now];exact h.ep⟩
theorem aDe{S0 S:Ps}{ac:Nat→Option (Tg×dE)}{n:Nat}(h:Pts S0 ac n S)(hac:aBs S0.g S0.now ac)(hn:0≤S0.now∧S0.now≤16777215)(hops:S0.ops+dL S0*161+1000≤4294967295)(hn160:n<160){t:Tg}{d:dE}(hat:ac n=some (t,d)):
 ((gK S t d).2=0∧Pts S0 ac (n+1) (gK S t d).1)∨
 ((gK S t d).2=12∧aQ4 S0 (gK S t d).1∧bJ (gK S t d).1=bJ S0∧(S0.ops≤(gK S t d).1.ops∧(gK S t d).1.ops≤S0.ops+dL S0*(n+1))∧∀ p k q e d',0≤p→(sY (gK S t d).1 (p,false) k q e d'↔sY S0 (p,false) k q e d')):=by
 obtain⟨k1,k2,k3,k4⟩:=hac.k n t d hat
 have hnb:=h.env.nB
 have hg:=h.env.g
 have hnow:=h.env.now
 have hop:=h.ops
 have hge:=h.und.inv.geo
 have hK:dL S0*(n+1:Nat)=dL S0*n+dL S0:=by rw[Int.natCast_add,Int.mul_add];omega
 have hK0:dL S0=9*(nB S0+1)+1:=rfl
 have hKn:dL S0*n≤dL S0*160:=Int.mul_le_mul_of_nonneg_left (by omega) (by omega)
 have hpre:Pre S (nB S+1):=⟨h.und.inv,h.lost,h.phi,by omega⟩
 have hok:∀ s:Int,0≤s∧s≤4294967295→vZ d t.k t.p s S.now=true:=fun s hs=>uK (g:=S.g) h.und.inv.may (by rw[hnow];exact hn) (.inl ⟨k1,by omega,by rw[hg];omega⟩) (by rw[hg];exact k4) s hs
 have hp:=aE3 hpre hok (by rw[hg];exact k4) (fun _=>by rw[hg,k2];exact k3) (by rw[h.und.ep];omega)
 have hpop:=hp.ops
 have hne3:t.k≠3:=by omega
 have hp0:0≤t.p:=by omega
 have key:∀ (S1:Ps) (o:Nat),iS S S1→rJ S S1→eG S1→o<S1.x.length→
  (bJ (bM S1 o { t with e:=S.now } d)=bJ S0)∧
  (∀ p k q e d',0≤p→(sY (bM S1 o { t with e:=S.now } d) (p,false) k q e d'↔sY S0 (p,false) k q e d'))∧
  (∀ p k q e d',0≤p→(sY (bM S1 o { t with e:=S.now } d) (p,true) k q e d'↔∃ t',p<(n+1:Nat)∧ac p.toNat=some (t',d')∧k=t'.k∧q=p∧e=S0.now)):=by
  intro S1 o hs he hi ho
  have hu1:=aAq h.und hs he hi
  have hn1:S.now=S1.now:=hs.now.symm
  have hlt:bJ S1<S1.now:=by have:=hu1.now;omega
  have hh:=aMX hi.sq ho (t:={ t with e:=S.now }) hne3 hp0 hn1 hlt d
  refine⟨(aEn ho (t:={ t with e:=S.now }) hne3 d).trans (hs.last.trans h.last),fun p k q e d' hp=>?_,fun p k q e d' hp=>?_⟩
  ·rw[hh,if_neg (by intro e;injection e with _ e;cases e),hs.has,h.old _ _ _ _ _ hp]
  ·rw[hh]
   by_cases hpn:p=n
   ·have hpt:((p,true):Int×Bool)=(t.p,true):=by rw[k2,hpn]
    rw[if_pos hpt]
    constructor
    ·rintro⟨rfl,rfl,rfl,rfl⟩
     refine⟨t,by omega,?_,rfl,by show t.p=p;omega,hnow⟩
     rw[hpn,Int.toNat_natCast];exact hat
    ·rintro⟨t',_,e1,e2,e3,e4⟩
     rw[hpn,Int.toNat_natCast,hat] at e1
     injection e1 with e1
     injection e1 with e1 e1'
     subst e1 e1'
     exact⟨e2,by show q=t.p;omega,by rw[e4,← hnow],rfl⟩
   ·rw[if_neg (by intro e;injection e with e _;exact hpn (e.trans k2)),hs.has,h.new _ _ _ _ _ hp]
    constructor
    ·rintro⟨t',h1,h2⟩
     exact⟨t',by omega,h2⟩
    ·rintro⟨t',h1,h2⟩
     exact⟨t',by omega,h2⟩
 rcases hp.code with⟨c1,c2,c3,c4,S1,o,hs,he,hi,ho,hr⟩|⟨c1,c2,c3,hr⟩
 ·left
  obtain⟨a1,a2,a3⟩:=key S1 o hs he hi ho
  rw[← hr] at a1 a2 a3
  refine⟨c1,⟨hp.inv,by rw[hp.env.now,a1,hnow];have:=h.und.now;rw[hnow,h.last] at this;exact this,by rw[hp.env.ep,hp.env.now];exact h.und.ep⟩,h.env.trans hp.env,c2.trans h.deg,by rw[hp.env.g];exact c3,by rw[hp.env.g];exact c4,⟨by omega,by rw[hK];rw[hnb] at hpop;omega⟩,a1,fun c hc=>hp.lostM c (h.lostM c hc),a2,a3⟩
 ·right
  refine⟨c1,⟨hp.inv,h.env.trans hp.env,c2,by rw[hp.env.g];exact c3⟩,?_⟩
  have hops':S0.ops≤(gK S t d).1.ops∧(gK S t d).1.ops≤S0.ops+dL S0*(n+1):=by
   have:dL S0*((n:Int)+1)=dL S0*n+dL S0:=by rw[Int.mul_add];omega
   rw[this];rw[hnb] at hpop;omega
  rcases hr with hr|⟨S1,o,hs,he,hi,ho,hr⟩
  ·exact⟨hr.last.trans h.last,hops',fun p k q e d' hp=>by rw[hr.has,h.old _ _ _ _ _ hp]⟩
  ·obtain⟨a1,a2,a3⟩:=key S1 o hs he hi ho
   have hd:=iS.deg (bM S1 o { t with e:=S.now } d) true
   refine⟨?_,hops',fun p k q e d' hp=>?_⟩
   ·rw[hr];exact hd.last.trans a1
   ·rw[hr,hd.has,a2 _ _ _ _ _ hp]
theorem Pts.skip{S0 S:Ps}{ac:Nat→Option (Tg×dE)}{n:Nat}(h:Pts S0 ac n S)(hat:ac n=none):Pts S0 ac (n+1) S:=by
 have hK0:dL S0=9*(nB S0+1)+1:=rfl
 have hK:dL S0*(n+1:Nat)=dL S0*n+dL S0:=by rw[Int.natCast_add,Int.mul_add];omega
 have hop:=h.ops
 refine⟨h.und,h.env,h.deg,h.lost,h.phi,⟨hop.1,by rw[hK];omega⟩,h.last,h.lostM,h.old,fun p k q e d hp=>?_⟩
 rw[h.new _ _ _ _ _ hp]
 constructor
 ·rintro⟨t,h1,h2⟩
  exact⟨t,by omega,h2⟩
 ·rintro⟨t,h1,h2,h3⟩
  refine⟨t,?_,h2,h3⟩
  by_cases e:p=n
  ·rw[e,Int.toNat_natCast,hat] at h2;cases h2
  ·omega
theorem yT{S0:Ps}{ac:Nat→Option (Tg×dE)}(hac:aBs S0.g S0.now ac)(hn:0≤S0.now∧S0.now≤16777215)(hops:S0.ops+dL S0*161+1000≤4294967295):∀ (k n:Nat) (S:Ps),k+n≤160→Pts S0 ac n S→
 ((gR ac k n S).2=0∧Pts S0 ac (k+n) (gR ac k n S).1)∨
 ((gR ac k n S).2=12∧aQ4 S0 (gR ac k n S).1∧bJ (gR ac k n S).1=bJ S0∧(S0.ops≤(gR ac k n S).1.ops∧(gR ac k n S).1.ops≤S0.ops+dL S0*(k+n:Nat))∧∀ p k' q e d',0≤p→(sY (gR ac k n S).1 (p,false) k' q e d'↔sY S0 (p,false) k' q e d'))
 | 0,n,S,_,h=> .inl ⟨rfl,by rw[Nat.zero_add];exact h⟩
 | k+1,n,S,hk,h=>by
   have hadd:k+1+n=k+(n+1):=by omega
   rw[hadd,gR]
   cases hat:ac n with
   | none=>exact yT hac hn hops k (n+1) S (by omega) (h.skip hat)
   | some td=>
     obtain⟨t,d⟩:=td
     simp only
     rcases aDe h hac hn hops (by omega) hat with⟨c,hp⟩|⟨c,hf,hl,ho,hh⟩
     ·rw[if_neg (by rw[c];simp)]
      exact yT hac hn hops k (n+1) _ (by omega) hp
     ·rw[if_pos (by rw[c];simp)]
      have hK0:dL S0=9*(nB S0+1)+1:=rfl
      have hm:dL S0*((n:Int)+1)≤dL S0*((k+(n+1):Nat):Int):=Int.mul_le_mul_of_nonneg_left (by omega) (by omega)
      exact .inr ⟨c,hf,hl,⟨ho.1,by omega⟩,hh⟩
theorem oI{g:eV}(h:fU g=true):((eZ g).length:Int)=g.by':=by
 have:=bL.1 h
 unfold eZ
 rw[List.length_replicate]
 omega
theorem aEK{g:eV}(hg:fU g=true){now:Int}{P:Int→Option (Option dE)}{B:Int→Option dE}(hP:aAB g P):aBs g now (gV P B (eZ g)):=by
 refine⟨fun n t d h=>?_⟩
 unfold gV at h
 split at h
 ·rename_i d' e
  injection h with h
  injection h with h1 h2
  subst h1 h2
  have:=hP.rng n _ e
  exact⟨.inl rfl,rfl,this.2,hP.len n _ e⟩
 ·rename_i e
  split at h
  ·injection h with h
   injection h with h1 h2
   subst h1 h2
   have:=hP.rng n _ e
   exact⟨.inr rfl,rfl,this.2,oI hg⟩
  ·cases h
 ·cases h
theorem tR.begin{S:Ps}{ac:Nat→Option (Tg×dE)}(h:tR S):xC (bH S)∧Pts (bH S) ac 0 (bH S):=by
 have hl:bJ (bH S)=bJ S:=rfl
 have hep:=h.ep
 have h0:=(eK S).2.1
 have hu:xC (bH S):=⟨⟨h.inv.may,h.inv.len,h.inv.pgs,⟨h.inv.sq.le,h.inv.sq.one⟩,fun b i v hv=>by
  obtain⟨a1,a2,a3,a4,a5⟩:=h.inv.tag b i v hv
  exact⟨a1,a2,a3,a4,by show v.t.e≤S.ep+1;omega⟩,h.inv.bad,h.inv.seq,h.inv.cnt⟩,by rw[hl];show S.ep+1=_;omega,rfl⟩
 refine⟨hu,hu,rJ.refl _,rfl,h.lost,h.phi,⟨Int.le_refl _,by simp⟩,rfl,fun _ h=>h,fun _ _ _ _ _ _=>Iff.rfl,fun p k q e d hp=>⟨?_,fun⟨t,h1,_⟩=>by omega⟩⟩
 rintro⟨b,i,v,hb,_⟩
 have hv:bK S b i=some v:=hb.1
 have he:=(h.inv.tag b i v hv).2.2.2.2
 have hc:=hb.2.1
 unfold dW kQ at hc
 rw[hl] at hc
 by_cases h3:v.t.k=3
 ·rw[if_pos h3] at hc
  injection hc with hc
  injection hc with hc _
  omega
 ·rw[if_neg h3,if_neg (by omega)] at hc
  injection hc with hc
  injection hc with _ hc
  cases hc
theorem dQ.rng{S:Ps}{B:Int→Option dE}(h:dQ S B)(hi:eG S){p:Int}(hp:0≤p){d:dE}(hb:B p=some d):p<dK S.g∧(d.length:Int)=S.g.by':=by
 obtain⟨e,b,i,v,hv,h1,h2,h3,h4⟩:=(h p hp d).1 hb
 obtain⟨_,a2,_,a4,_⟩:=hi.tag b i v hv.1
 rw[h4] at a2
 exact⟨by have:=a4 (by omega);omega,a2⟩
theorem lQ{S:Ps}{p k q e:Int}{d:dE}:sY (bH S) (p,false) k q e d↔sY S (p,false) k q e d:=aB6 (S:={ S with ep:=S.ep+1 }) (x:=S.ep+1)
structure aOr (S:Ps) (P:Int→Option (Option dE)) (B:Int→Option dE) (r:Ps×Int):Prop where
 env:r.1.g=S.g∧r.1.fs=S.fs
 inv:eG r.1
 now:r.1.now=0
 ops:S.ops≤r.1.ops∧r.1.ops≤S.ops+dL S*(nB S*nG S+1:Nat)+9*nB S
 code:(r.2=0∧tR r.1∧r.1.deg=S.deg∧r.1.ep=S.ep+1∧dQ r.1 (fD P B))∨
  (r.2=12∧r.1.deg=true∧S.g.sp<(cG r.1:Int)∧(dQ r.1 B∨dQ r.1 (fD P B)))
theorem aD2{S:Ps}{P:Int→Option (Option dE)}{B:Int→Option dE}(h:tR S)(hB:dQ S B)(hP:aAB S.g P)(hops:S.ops+dL S*162+2000≤4294967295)(hep:S.ep+1≤16777215):
 aOr S P B (fQ S (gV P B (eZ S.g))):=by
 have hge:=h.inv.geo
 have hnp:nB S*nG S≤160:=by
  have:nB S*nG S≤20*8:=Nat.mul_le_mul (by omega) (by omega)
  omega
 have hK0:dL S=9*(nB S+1)+1:=rfl
 have hKb:dL (bH S)=dL S:=rfl
 have hnbb:nB (bH S)=nB S:=rfl
 have hngb:nG (bH S)=nG S:=rfl
 have hl0:=(eK S).2.1
 have hseq:=h.inv.seq
 have hnow:0≤(bH S).now∧(bH S).now≤16777215:=⟨by show 0≤S.ep+1;have:=h.ep;omega,hep⟩
 have hac:aBs (bH S).g (bH S).now (gV P B (eZ S.g)):=aEK h.inv.may hP
 have hall:=yT hac hnow (by rw[hKb];show S.ops+_+_≤_;omega) (nB S*nG S) 0 (bH S) (by omega) (h.begin (ac:=gV P B (eZ S.g))).2
 rw[Nat.add_zero] at hall
 have hmulK:dL S*((nB S*nG S+1:Nat):Int)=dL S*((nB S*nG S:Nat):Int)+dL S:=by rw[Int.natCast_add,Int.mul_add];omega
 have hmulB:dL S*((nB S*nG S:Nat):Int)≤dL S*160:=Int.mul_le_mul_of_nonneg_left (by omega) (by omega)
 unfold fQ kM
 rw[hnbb,hngb]
 have hgb:(bH S).g=S.g:=rfl
 rw[hgb]
 rcases hall with⟨c,hp⟩|⟨c,hf,hl,ho,hh⟩
 rotate_left
 ·
  have hne:(gR (gV P B (eZ S.g)) (nB S*nG S) 0 (bH S)).2≠0:=by rw[c];simp
  rw[if_pos hne,if_pos hne]
  have hopsF:S.ops≤(gR (gV P B (eZ S.g)) (nB S*nG S) 0 (bH S)).1.ops∧(gR (gV P B (eZ S.g)) (nB S*nG S) 0 (bH S)).1.ops≤S.ops+dL S*((nB S*nG S+1:Nat):Int)+9*nB S:=by
   have h1:S.ops≤(gR (gV P B (eZ S.g)) (nB S*nG S) 0 (bH S)).1.ops:=ho.1
   have h2:(gR (gV P B (eZ S.g)) (nB S*nG S) 0 (bH S)).1.ops≤S.ops+dL S*((nB S*nG S:Nat):Int):=ho.2
   rw[hmulK]
   omega
  have hlst:S.g.sp<(cG (gR (gV P B (eZ S.g)) (nB S*nG S) 0 (bH S)).1:Int):=by
   have:=hf.lost
   rw[hf.env.g] at this
   exact this
  refine⟨⟨hf.env.g,hf.env.fs⟩,⟨hf.inv.may,hf.inv.len,hf.inv.pgs,⟨hf.inv.sq.le,hf.inv.sq.one⟩,hf.inv.tag,hf.inv.bad,hf.inv.seq,hf.inv.cnt⟩,rfl,?_,.inr ⟨c,hf.deg,hlst,.inl ?_⟩⟩
  ·exact hopsF
  ·refine dQ.now (fun p hp d=>?_) 0
   rw[hB p hp d]
   exact⟨fun⟨e,he⟩=>⟨e,(hh _ _ _ _ _ hp).2 (lQ.2 he)⟩,fun⟨e,he⟩=>⟨e,lQ.1 ((hh _ _ _ _ _ hp).1 he)⟩⟩
 generalize hR:(gR (gV P B (eZ S.g)) (nB S*nG S) 0 (bH S)).1=R at*
 rw[if_neg (show ¬ ((gR (gV P B (eZ S.g)) (nB S*nG S) 0 (bH S)).2≠0) by rw[c];simp)]
 have hnbR:nB R=nB S:=hp.env.nB
 have hgR:R.g=S.g:=hp.env.g
 have hnowR:R.now=S.ep+1:=hp.env.now
 have hopR:=hp.ops
 rw[hKb] at hopR
 have hopR':S.ops≤R.ops∧R.ops≤S.ops+dL S*((nB S*nG S:Nat):Int):=hopR
 have hpre:Pre R (nB R+1):=⟨hp.und.inv,hp.lost,hp.phi,by omega⟩
 have hok:∀ s:Int,0≤s∧s≤4294967295→vZ (eZ S.g) pK.k pK.p s R.now=true:=fun s hs=>uK (g:=S.g) h.inv.may (by rw[hnowR];exact hnow) (.inr ⟨rfl,rfl⟩) (oI h.inv.may) s hs
 have hpost:=aE3 hpre hok (by rw[hgR];exact oI h.inv.may) (fun hk=>absurd rfl hk) (by rw[hp.und.ep];exact Int.le_refl _)
 have hpop:=hpost.ops
 have key:∀ (S1:Ps) (o:Nat),iS R S1→rJ R S1→eG S1→o<S1.x.length→
  bJ (bM S1 o { pK with e:=R.now } (eZ S.g))=R.now∧dQ (bM S1 o { pK with e:=R.now } (eZ S.g)) (fD P B):=by
  intro S1 o hs he hi ho
  have hu1:=aAq hp.und hs he hi
  have hn1:R.now=S1.now:=hs.now.symm
  refine⟨(aDC hu1 ho (t:={ pK with e:=R.now }) rfl hn1 _).trans hs.now,fun p hp0 d=>?_⟩
  have hc:=fun k q e d'=>aMR hu1 ho (t:={ pK with e:=R.now }) rfl hn1 (eZ S.g) hp0 k q e d'
  simp only[hc,hs.has]
  have hnew:=fun k q e d'=>hp.new p k q e d' hp0
  have hold:=fun k q e d'=>hp.old p k q e d' hp0
  have hlt:∀ x,P p=some x→p<((nB S*nG S:Nat):Int):=fun x hx=>by
   have h1:=hP.rng p x hx
   obtain⟨_,h2⟩:=lD h.inv.may
   have h3:(S.g.bl-S.g.sp-3)*S.g.pg≤S.g.bl*S.g.pg:=Int.mul_le_mul_of_nonneg_right (by have:=bL.1 h.inv.may;omega) (by omega)
   rw[hge.1,hge.2.1,← Int.natCast_mul] at h3
   rw[hge.1,hge.2.1] at h2
   omega
  have hpn:((p.toNat:Nat):Int)=p:=Int.toNat_of_nonneg hp0
  have hBS:∀ d,B p=some d↔∃ e,sY (bH S) (p,false) 1 p e d:=fun d=>by
   rw[hB p hp0 d]
   exact⟨fun⟨e,he⟩=>⟨e,lQ.2 he⟩,fun⟨e,he⟩=>⟨e,lQ.1 he⟩⟩
  unfold fD
  cases hPp:P p with
  | none=>
    have hact:gV P B (eZ S.g) p.toNat=none:=by unfold gV;rw[hpn,hPp]
    have hno:∀ k q e d',¬ sY R (p,true) k q e d':=fun k q e d' hx=>by
     obtain⟨t,_,h2,_⟩:=(hnew k q e d').1 hx
     rw[hact] at h2;cases h2
    simp only
    rw[hBS d]
    constructor
    ·rintro⟨e,he⟩
     exact⟨e,.inr ⟨hno,(hold _ _ _ _).2 he⟩⟩
    ·rintro⟨e,h1|⟨_,h2⟩⟩
     ·exact absurd h1 (hno _ _ _ _)
     ·exact⟨e,(hold _ _ _ _).1 h2⟩
  | some x=>
    have hpl:=hlt x hPp
    cases x with
    | some dd=>
      have hact:gV P B (eZ S.g) p.toNat=some (⟨1,p,0,0⟩,dd):=by unfold gV;rw[hpn,hPp]
      simp only
      constructor
      ·intro h1
       injection h1 with h1
       subst h1
       exact⟨(bH S).now,.inl ((hnew _ _ _ _).2 ⟨_,hpl,hact,rfl,rfl,rfl⟩)⟩
      ·rintro⟨e,h1|⟨h1,_⟩⟩
       ·obtain⟨t,_,h2,_⟩:=(hnew _ _ _ _).1 h1
        rw[hact] at h2
        injection h2 with h2
        injection h2 with _ h2
        rw[h2]
       ·exact absurd ((hnew _ _ _ _).2 ⟨_,hpl,hact,rfl,rfl,rfl⟩) (h1 _ _ _ _)
    | none=>
      simp only
      constructor
      ·intro h1;cases h1
      ·rintro⟨e,h1|⟨h1,h2⟩⟩
       ·exfalso
        obtain⟨t,_,h2,h3,_⟩:=(hnew _ _ _ _).1 h1
        unfold gV at h2
        rw[hpn,hPp] at h2
        simp only at h2
        split at h2
        ·injection h2 with h2
         injection h2 with h2 _
         subst h2
         simp at h3
        ·cases h2
       ·exfalso
        have h3:=(hold _ _ _ _).1 h2
        have hBp:B p=some d:=(hBS d).2 ⟨e,h3⟩
        have hact:gV P B (eZ S.g) p.toNat=some (⟨2,p,0,0⟩,eZ S.g):=by unfold gV;rw[hpn,hPp,hBp];rfl
        exact absurd ((hnew _ _ _ _).2 ⟨_,hpl,hact,rfl,rfl,rfl⟩) (h1 _ _ _ _)
 rcases hpost.code with⟨c1,c2,c3,c4,S1,o,hs,he,hi,ho,hr⟩|⟨c1,c2,c3,hr⟩
 ·obtain⟨a1,a2⟩:=key S1 o hs he hi ho
  rw[← hr] at a1 a2
  rw[if_neg (by rw[c1];simp)]
  have hgQ:=hpost.env.g.trans hgR
  have hfsQ:=hpost.env.fs.trans hp.env.fs
  have hnbQ:=hpost.env.nB.trans hnbR
  have hepQ:=hpost.env.ep.trans (hp.und.ep.trans hnowR)
  have hinvQ:=hpost.inv
  clear hpost hr
  generalize (gK R pK (eZ S.g)).1=Q at*
  have hi0:eG { Q with now:=0 }:=⟨hinvQ.may,hinvQ.len,hinvQ.pgs,⟨hinvQ.sq.le,hinvQ.sq.one⟩,hinvQ.tag,hinvQ.bad,hinvQ.seq,hinvQ.cnt⟩
  have hlev:=aET (nB S) { Q with now:=0 } ⟨hi0,by show (cG Q:Int)≤Q.g.sp;rw[hgQ,← hgR];exact c3,by show 2+Q.g.sp≤(phi Q:Int);rw[hgQ,← hgR];exact c4,by show Q.ops+_+_≤_;omega⟩
  have hlv:lZ { Q with now:=0 }=vT (nB S) { Q with now:=0 }:=by unfold lZ;rw[show nB { Q with now:=0 }=nB S from hnbQ]
  rw[hlv]
  have hlop:=hlev.ops
  have hlop':Q.ops≤(vT (nB S) { Q with now:=0 }).1.ops∧(vT (nB S) { Q with now:=0 }).1.ops≤Q.ops+9*nB S:=hlop
  have hlast0:bJ { Q with now:=0 }=S.ep+1:=by show bJ Q=_;rw[a1,hnowR]
  refine⟨⟨hlev.env.g.trans hgQ,hlev.env.fs.trans hfsQ⟩,hlev.inv,hlev.env.now,⟨by omega,by rw[hmulK];rw[hnbR] at hpop;omega⟩,?_⟩
  have hsp:(vT (nB S) { Q with now:=0 }).1.g.sp=R.g.sp:=by
   rw[hlev.env.g]
   show Q.g.sp=_
   rw[hgQ,hgR]
  rcases hlev.code with⟨d1,d2,d3,d4,_⟩|⟨d1,d2,d3⟩
  ·have d4:phi Q≤phi (vT (nB S) { Q with now:=0 }).1:=d4
   refine .inl ⟨d1,⟨hlev.inv,hlev.env.now,?_,by rw[hlev.env.g];exact d3,by rw[hsp];omega⟩,d2.trans (c2.trans hp.deg),hlev.env.ep.trans hepQ,(a2.now 0).same hlev.same⟩
   rw[hlev.env.ep,hlev.same.last,hlast0]
   exact hepQ
  ·exact .inr ⟨d1,d2,by have d3:Q.g.sp<((cG (vT (nB S) { Q with now:=0 }).1:Nat):Int):=d3;have h9:Q.g.sp=S.g.sp:=(by rw[hgQ]);omega,.inr ((a2.now 0).same hlev.same)⟩
 ·rw[if_pos (by rw[c1];simp)]
  refine⟨⟨hpost.env.g.trans hgR,hpost.env.fs.trans hp.env.fs⟩,⟨hpost.inv.may,hpost.inv.len,hpost.inv.pgs,⟨hpost.inv.sq.le,hpost.inv.sq.one⟩,hpost.inv.tag,hpost.inv.bad,hpost.inv.seq,hpost.inv.cnt⟩,rfl,⟨by show S.ops≤(gK R pK (eZ S.g)).1.ops;omega,by show (gK R pK (eZ S.g)).1.ops≤_;rw[hmulK];rw[hnbR] at hpop;omega⟩,.inr ⟨c1,c2,by rw[hgR] at c3;exact c3,?_⟩⟩
  rcases hr with hr|⟨S1,o,hs,he,hi,ho,hr⟩
  ·left
   refine dQ.now (fun p hp0 d=>?_) 0
   rw[hB p hp0 d]
   exact⟨fun⟨e,he⟩=>⟨e,(hr.has _ _ _ _ _).2 ((hp.old _ _ _ _ _ hp0).2 (lQ.2 he))⟩,fun⟨e,he⟩=>⟨e,lQ.1 ((hp.old _ _ _ _ _ hp0).1 ((hr.has _ _ _ _ _).1 he))⟩⟩
  ·right
   obtain⟨a1,a2⟩:=key S1 o hs he hi ho
   rw[hr]
   exact (a2.deg true).now 0
def eR:AV:= .val (.slice none 0 0)
theorem mY:MT 80 3 37 i64 (fun x:AV=>x) eR:=by
 obtain⟨ti,h1,h2⟩:=aN6
 refine⟨⟨ti,_,_,h1,h2,dR,kR,rfl⟩,fun a b=>?_,fun a=>?_,fun a=>⟨_,rfl,by simp[qI,fC]⟩⟩
 ·rw[yO]
  by_cases h:a=b
  ·simp[h]
  ·have:(a==b)=false:=by simpa using h
   rw[this];simp[h]
 ·unfold gM;rw[dR]
def PgS(M:aC)(A:bI)(x:AV)(d:dE):Prop:=aL M x d∧(∃ b o n c e,x= .sl b o n c e)∧∀ c,aO x c→c∉A.av
theorem PgS.one{M:aC}{A:bI}{x:AV}{d:dE}(h:PgS M A x d):x.one=true:=by
 obtain⟨_,⟨b,o,n,c,e,rfl⟩,_⟩:=h
 rfl
theorem PgS.keep{M N:aC}{A:bI}{x:AV}{d:dE}{T:List Nat}(h:PgS M A x d)(hw:M.WF)(hk:aE M N T)(hT:∀ c∈T,c∈A.av):PgS N A x d:=
 ⟨aP.keep h.1 hw hk fun c hc hm=>h.2.2 c hc (hT c hm),h.2.1,h.2.2⟩
structure jW (M:aC) (A:bI) (b:Nat) (pm:List (Int×AV)) (P:Int→Option (Option dE)):Prop where
 get:M.get b=some (.map (mG i64 (fun x:AV=>x) pm))
 nd:(pm.map (·.1)).Nodup
 ent:∀ q∈pm,(q.2=eR∧P q.1=some none)∨∃ d,P q.1=some (some d)∧PgS M A q.2 d
 cov:∀ n x,P n=some x→∃ q∈pm,q.1=n
theorem jW.keep{M N:aC}{A:bI}{b:Nat}{pm:List (Int×AV)}{P:Int→Option (Option dE)}{T:List Nat}(h:jW M A b pm P)(hw:M.WF)(hk:aE M N T)(hb:b∉T)(hT:∀ c∈T,c∈A.av):jW N A b pm P:=
 ⟨hk.get hw h.get hb,h.nd,fun q hq=>(h.ent q hq).imp id fun⟨d,h1,h2⟩=>⟨d,h1,h2.keep hw hk hT⟩,h.cov⟩
theorem jW.none{M:aC}{A:bI}{b:Nat}{pm:List (Int×AV)}{P:Int→Option (Option dE)}(h:jW M A b pm P){n:Int}(hn:P n=none):tA tb 80 (.map b) (i64 n) true M=some (.tup [eR,.val (.bool false)],M):=
 zS mY h.get (fun q hq e=>by
  rcases h.ent q hq with⟨_,h1⟩|⟨d,h1,_⟩
  ·rw[e,hn] at h1;cases h1
  ·rw[e,hn] at h1;cases h1) true
theorem jW.nil{M:aC}{A:bI}{b:Nat}{pm:List (Int×AV)}{P:Int→Option (Option dE)}(h:jW M A b pm P){n:Int}(hn:P n=some Option.none):tA tb 80 (.map b) (i64 n) true M=some (.tup [eR,.val (.bool true)],M):=by
 obtain⟨⟨n',x⟩,hq,rfl⟩:=h.cov n _ hn
 rcases h.ent _ hq with⟨h1,_⟩|⟨d,h1,_⟩
 ·rw[← h1];exact lN mY h.get h.nd hq true
 ·rw[hn] at h1;cases h1
theorem jW.some{M:aC}{A:bI}{b:Nat}{pm:List (Int×AV)}{P:Int→Option (Option dE)}(h:jW M A b pm P){n:Int}{d:dE}(hn:P n=some (some d)):∃ x,tA tb 80 (.map b) (i64 n) true M=Option.some (.tup [x,.val (.bool true)],M)∧PgS M A x d:=by
 obtain⟨⟨n',x⟩,hq,rfl⟩:=h.cov n _ hn
 rcases h.ent _ hq with⟨_,h1⟩|⟨d',h1,h2⟩
 ·rw[hn] at h1;cases h1
 ·rw[hn] at h1
  injection h1 with h1
  injection h1 with h1
  subst h1
  exact⟨x,lN mY h.get h.nd hq true,h2⟩
def mH(P:Int→Option (Option dE))(n:Int)(x:Option dE)(k:Int):Option (Option dE):=if k=n then some x else P k
theorem jW.put{M:aC}{A:bI}{b:Nat}{pm:List (Int×AV)}{P:Int→Option (Option dE)}(h:jW M A b pm P)(hw:M.WF)(hb:b∈A.av)(n:Int)(x:AV)(o:Option dE)(hx:(x=eR∧o=Option.none)∨∃ d,o=Option.some d∧PgS M A x d):
 ∃ pm',eMU tb 80 (.map b) (i64 n) x M=Option.some (dS,M.put b (.map (mG i64 (fun x:AV=>x) pm')))∧jW (M.put b (.map (mG i64 (fun x:AV=>x) pm'))) A b pm' (mH P n o)∧pm'.length≤pm.length+1:=by
 obtain⟨pm',h1,h2,h3,h4⟩:=aH1 mY h.get h.nd n x
 have hk:aE M (M.put b (.map (mG i64 (fun x:AV=>x) pm'))) [b]:=aE.put hw (hw _ _ h.get) _
 have hT:∀ c∈[b],c∈A.av:=fun c hc=>by rw[List.mem_singleton] at hc;rw[hc];exact hb
 refine⟨pm',h1,⟨by rw[aC.get_put,if_pos rfl],h2,fun q hq=>?_,fun k y hk'=>?_⟩,h4⟩
 ·rcases (h3 q).1 hq with rfl|⟨hq,hne⟩
  ·unfold mH
   simp only[if_true]
   rcases hx with⟨rfl,rfl⟩|⟨d,rfl,hd⟩
   ·exact .inl ⟨rfl,rfl⟩
   ·exact .inr ⟨d,rfl,hd.keep hw hk hT⟩
  ·unfold mH
   rw[if_neg hne]
   exact (h.ent q hq).imp id fun⟨d,e1,e2⟩=>⟨d,e1,e2.keep hw hk hT⟩
 ·unfold mH at hk'
  by_cases e:k=n
  ·exact⟨(n,x),(h3 _).2 (.inl rfl),e.symm⟩
  ·rw[if_neg e] at hk'
   obtain⟨q,hq,e1⟩:=h.cov k y hk'
   exact⟨q,(h3 _).2 (.inr ⟨hq,by rw[e1];exact e⟩),e1⟩
structure FM (A:bI) (M:aC) (S:Ps) (P:Int→Option (Option dE)) (B:Int→Option dE):Prop where
 fr:∃ C m,FR A M S C m
 pend:∃ pm,jW M A A.mp pm P
 base:∃ bm,jW M A A.mb bm (fun n=>(B n).map some)
 stale:M.get A.ms=some (.map [])
section
variable {A:bI} {M:aC} {S:Ps} {P:Int→Option (Option dE)} {B:Int→Option dE}
theorem bI.maps{A:bI}(h:A.all.Nodup):(A.mb∉A.wr∧A.mp∉A.wr∧A.ms∉A.wr)∧A.mb≠A.mp∧A.mb≠A.ms∧A.mp≠A.ms:=by
 unfold bI.all at h
 simp only[List.nodup_cons,List.mem_cons,not_or] at h
 obtain⟨⟨h1,h2,h3,h4,h5⟩,⟨h6,h7,h8,h9⟩,⟨h10,h11,h12⟩,⟨h13,h14⟩,h15,h16⟩:=h
 unfold bI.wr
 simp only[List.mem_cons,not_or]
 exact⟨⟨⟨fun e=>h2 e.symm,fun e=>h6 e.symm,h12⟩,⟨fun e=>h3 e.symm,fun e=>h7 e.symm,h14⟩,fun e=>h4 e.symm,fun e=>h8 e.symm,h15⟩,h10,h11,h13⟩
theorem FM.wf(h:FM A M S P B):M.WF:=by obtain⟨C,m,hr⟩:=h.fr;exact hr.wf
theorem FM.dis(h:FM A M S P B):A.all.Nodup:=by obtain⟨C,m,hr⟩:=h.fr;exact hr.dis
theorem hO:A.mp∈A.av∧A.mb∈A.av∧A.ms∈A.av:=by simp[bI.av,bI.all]
theorem FM.step{N:aC}{S':Ps}(h:FM A M S P B)(hk:aE M N A.wr)(hr:∃ C m,FR A N S' C m):FM A N S' P B:=by
 obtain⟨⟨n1,n2,n3⟩,_⟩:=bI.maps h.dis
 obtain⟨pm,hp⟩:=h.pend
 obtain⟨bm,hb⟩:=h.base
 exact⟨hr,⟨pm,hp.keep h.wf hk n2 fun c hc=>bI.wr_av hc⟩,⟨bm,hb.keep h.wf hk n1 fun c hc=>bI.wr_av hc⟩,hk.get h.wf h.stale n3⟩
theorem FM.post{N:aC}(h:FM A M S P B)(hk:aE M N []):FM A N S P B:=by
 obtain⟨C,m,hr⟩:=h.fr
 exact h.step (hk.mono (by simp)) ⟨C,m,hr.post hk⟩
theorem FM.keepX{N:aC}{T:List Nat}(h:FM A M S P B)(hk:aE M N T)(hT:∀ c∈T,c∈A.ext∧c∉A.all):FM A N S P B:=by
 obtain⟨C,m,hr⟩:=h.fr
 obtain⟨pm,hp⟩:=h.pend
 obtain⟨bm,hb⟩:=h.base
 have hw:∀ c∈T,c∉A.wr:=fun c hc hm=>(hT c hc).2 (by
  simp only[bI.wr,bI.all,List.mem_cons] at hm ⊢
  rcases hm with hm|hm|hm
  ·exact .inl hm
  ·exact .inr (.inl hm)
  ·exact .inr (.inr (.inr (.inr (.inr hm)))))
 have hv:∀ c∈T,c∈A.av:=fun c hc=>by simp only[bI.av,List.mem_append];exact .inr (hT c hc).1
 have ha:A.mp∉T∧A.mb∉T∧A.ms∉T:=⟨fun e=>(hT _ e).2 (by simp[bI.all]),fun e=>(hT _ e).2 (by simp[bI.all]),fun e=>(hT _ e).2 (by simp[bI.all])⟩
 exact⟨⟨C,m,hr.keepX hk fun c hc=>⟨(hT c hc).1,hw c hc⟩⟩,⟨pm,hp.keep h.wf hk ha.1 hv⟩,⟨bm,hb.keep h.wf hk ha.2.1 hv⟩,hk.get h.wf h.stale ha.2.2⟩
theorem FM.flA(h:FM A M S P B):M.get A.f=some (.cells (jF (dO A S)) true):=by obtain⟨C,m,hr⟩:=h.fr;exact hr.fl
theorem xD{f:Nat}{M:aC}:bV tb 83 (.ptr f 0) 4 M=some (.ptr f 8,M):=bW (by unfold eZf;rw[aBb];rfl)
theorem aDF{f:Nat}{M:aC}:bV tb 83 (.ptr f 0) 3 M=some (.ptr f 7,M):=bW (by unfold eZf;rw[aBb];rfl)
theorem aNj{f:Nat}{M:aC}:bV tb 83 (.ptr f 0) 5 M=some (.ptr f 9,M):=bW (by unfold eZf;rw[aBb];rfl)
theorem xM{f:Nat}{M:aC}:bV tb 83 (.ptr f 0) 9 M=some (.ptr f 13,M):=(pE f).2.2.2.2.2.2
theorem FM.lmp(h:FM A M S P B):aH tb 80 (.ptr A.f 8) M=some (.map A.mp,M):=aR (dI rR rfl h.flA (o:=8) (v:= .map A.mp) rfl)
theorem FM.lmb(h:FM A M S P B):aH tb 80 (.ptr A.f 7) M=some (.map A.mb,M):=aR (dI rR rfl h.flA (o:=7) (v:= .map A.mb) rfl)
theorem FM.lms(h:FM A M S P B):aH tb 81 (.ptr A.f 9) M=some (.map A.ms,M):=aR (dI aHU rfl h.flA (o:=9) (v:= .map A.ms) rfl)
theorem FM.ldg(h:FM A M S P B):aH tb 4 (.ptr A.f 13) M=some (.val (.bool S.deg),M):=aR (dI ty4 rfl h.flA (o:=13) (v:=bv S.deg) rfl)
theorem aKo{b o n c:Nat}{e:Option Nat}{M:aC}{xo yo:Operand}:cR tb .eql 37 xo yo (.sl b o n c e) eR M=some (.val (.bool false),M):=cI (by kernel_rfl)
theorem aNz{b o n c:Nat}{e:Option Nat}{M:aC}{xo yo:Operand}:cR tb .neq 37 xo yo (.sl b o n c e) eR M=some (.val (.bool true),M):=cI (by kernel_rfl)
theorem aCG{M:aC}{xo yo:Operand}:cR tb .eql 37 xo yo eR eR M=some (.val (.bool true),M):=cI (by kernel_rfl)
theorem aGC{M:aC}{xo yo:Operand}:cR tb .neq 37 xo yo eR eR M=some (.val (.bool false),M):=cI (by kernel_rfl)
theorem aJq(h:FM A M S P B)(n:Int):aB tb.P 64 [.ptr A.f 0,i64 n] M fun y N=>N=M∧((fD P B n=none∧y= .tup [eR,.val (.bool false)])∨∃ x d,fD P B n=some d∧y= .tup [x,.val (.bool true)]∧PgS M A x d):=by
 obtain⟨pm,hp⟩:=h.pend
 obtain⟨bm,hb⟩:=h.base
 refine aJr ?_
 unfold F64
 simp only[i64,aJ]
 refine aG cZ ?_
 refine aG xD ?_
 rw[bR]
 refine aG h.lmp ?_
 unfold fD
 cases hP:P n with
 | none=>
   refine aG (hp.none hP) ⟨_,_,rfl,?_⟩
   rw[gE]
   refine aG cZ ?_
   refine aG aDF ?_
   rw[bR]
   refine aG h.lmb ?_
   cases hB:B n with
   | none=>exact aG (hb.none (by rw[hB];rfl)) ⟨_,_,rfl,(by first|trivial|rfl),.inl ⟨rfl,rfl⟩⟩
   | some d=>
     obtain⟨x,h1,h2⟩:=hb.some (n:=n) (d:=d) (by rw[hB];rfl)
     exact aG h1 ⟨_,_,rfl,(by first|trivial|rfl),.inr ⟨x,d,rfl,rfl,h2⟩⟩
 | some o=>
   cases o with
   | none=>
     refine aG (hp.nil hP) ⟨_,_,rfl,?_⟩
     rw[gU]
     refine aG aGC ?_
     rw[cK]
     exact⟨(by first|trivial|rfl),.inl ⟨rfl,rfl⟩⟩
   | some d=>
     obtain⟨x,h1,h2⟩:=hp.some hP
     refine aG h1 ⟨_,_,rfl,?_⟩
     rw[gU]
     obtain⟨b,o,c1,c2,e,rfl⟩:=h2.2.1
     refine aG aNz ?_
     rw[cK]
     exact⟨(by first|trivial|rfl),.inr ⟨_,d,rfl,rfl,h2⟩⟩
theorem aJG(h:FM A M S P B){z:Int}(hz:0≤z∧z<dK S.g):aB tb.P 51 [.ptr A.f 0,i64 z] M fun y N=>y=i64 0∧aE M N []:=by
 obtain⟨C,m,hr⟩:=h.fr
 have:=aGP M h.wf A.f (dO A S) A.p C hr.flat z
 have e:aB1 C z=0:=by
  unfold aB1
  rw[hr.rel.calm.off,hr.rel.g,if_neg (by simp),if_pos hz]
 rw[e] at this
 exact this
theorem aNR(h:FM A M S P B){z:Int}(hz:0≤z∧z<dK S.g)(hlen:∀ d,fD P B z=some d→0<d.length∧d.length≤1000):
 aB tb.P 30 [.ptr A.f 0,i64 z] M fun y N=>aE M N []∧((fD P B z=none∧y= .tup [eR,i64 4])∨∃ x d,fD P B z=some d∧y= .tup [x,i64 0]∧Gr N x d∧∀ c,aO x c→M.next≤c):=by
 refine aI7 ?_
 unfold F30
 simp only[i64,aJ]
 refine (aJG h hz).mono ?_
 rintro y N ⟨rfl,hk⟩
 simp only[i64,aJ]
 have hN:=h.post hk
 simp only[bne_self_eq_false,gE]
 refine (aJq hN z).mono ?_
 rintro y N2 ⟨rfl,⟨h1,rfl⟩|⟨x,d,h1,rfl,h2⟩⟩
 ·refine⟨_,_,rfl,?_⟩
  simp only[Bool.not_false,gU]
  exact⟨hk,.inl ⟨h1,rfl⟩⟩
 ·refine⟨_,_,rfl,?_⟩
  simp only[Bool.not_true,gE]
  obtain⟨l1,l2⟩:=hlen d h1
  refine (rG N2 hN.wf x d h2.1 l1 (by omega)).mono ?_
  rintro y N3 ⟨g1,g2,g3⟩
  exact⟨hk.trans0 g2,.inr ⟨y,d,h1,rfl,g1,fun c hc=>Nat.le_trans hk.nxt (g3 c hc)⟩⟩
theorem FM.setP(h:FM A M S P B){pm:List (Int×AV)}{P':Int→Option (Option dE)}(hp:jW (M.put A.mp (.map (mG i64 (fun x:AV=>x) pm))) A A.mp pm P'):FM A (M.put A.mp (.map (mG i64 (fun x:AV=>x) pm))) S P' B∧aE M (M.put A.mp (.map (mG i64 (fun x:AV=>x) pm))) [A.mp]:=by
 obtain⟨⟨n1,n2,n3⟩,n4,n5,n6⟩:=bI.maps h.dis
 obtain⟨C,m,hr⟩:=h.fr
 obtain⟨bm,hb⟩:=h.base
 obtain⟨pm0,hp0⟩:=h.pend
 have hk:aE M (M.put A.mp (.map (mG i64 (fun x:AV=>x) pm))) [A.mp]:=aE.put h.wf (h.wf _ _ hp0.get) _
 refine⟨⟨⟨C,m,hr.keepS hk fun c hc=>?_⟩,⟨pm,hp⟩,⟨bm,hb.keep h.wf hk (by simp[n4]) fun c hc=>?_⟩,by rw[aC.get_put,if_neg (fun e=>n6 e.symm)];exact h.stale⟩,hk⟩
 ·rw[List.mem_singleton] at hc
  subst hc
  refine⟨n2,fun hm=>hr.fsx _ hm hO.1,fun q hq hm=>?_⟩
  obtain⟨_,_,_,_,_,_,_,_,e6⟩:=hr.lnk q hq
  exact e6 _ hm hO.1
 ·rw[List.mem_singleton] at hc
  rw[hc];exact hO.1
theorem Gr.pg{N:aC}{A:bI}{x:AV}{d:dE}(h:Gr N x d)(h0:0<d.length)(hf:∀ c,aO x c→c∉A.av):PgS N A x d:=by
 refine⟨h.at,?_,hf⟩
 rcases h with⟨_,rfl⟩|⟨b,h1,_⟩
 ·simp at h0
 ·exact⟨_,_,_,_,_,h1⟩
theorem FM.av_lt(h:FM A M S P B)(hext:∀ c∈A.ext,c<M.next):∀ c∈A.av,c<M.next:=by
 obtain⟨C,m,hr⟩:=h.fr
 obtain⟨pm,hp⟩:=h.pend
 obtain⟨bm,hb⟩:=h.base
 intro c hc
 simp only[bI.av,bI.all,List.mem_append,List.mem_cons] at hc
 rcases hc with (rfl|rfl|rfl|rfl|rfl|hc)|hc
 ·exact h.wf _ _ hr.fl
 ·exact h.wf _ _ hr.mf
 ·exact h.wf _ _ hb.get
 ·exact h.wf _ _ hp.get
 ·exact h.wf _ _ h.stale
 ·exact hr.lt c (by simp[bI.wr,hc])
 ·exact hext c hc
theorem aMy(h:FM A M S P B)(hext:∀ c∈A.ext,c<M.next){z:Int}(hz:0≤z∧z<dK S.g){w:AV}{d:dE}(hw:aL M w d)(hd:(d.length:Int)=S.g.by')(h0:0<d.length∧d.length≤1000):
 aB tb.P 15 [.ptr A.f 0,i64 z,w] M fun y N=>(S.deg=false→y=i64 0∧FM A N S (mH P z (some d)) B∧aE M N [A.mp])∧(S.deg=true→y=i64 13∧aE M N []):=by
 refine aKI ?_
 unfold F15
 simp only[i64,aJ]
 refine (aJG h hz).mono ?_
 rintro y N ⟨rfl,hk⟩
 simp only[i64,aJ]
 have hN:=h.post hk
 simp only[bne_self_eq_false,gE]
 have hwN:aL N w d:=aP.keep0 hw h.wf hk
 refine aG (lF hwN.len) ?_
 simp only[aJ]
 refine aG cZ ?_
 refine aG mQ ?_
 rw[bR]
 refine aG (aR (dI dR rfl hN.flA (o:=3) (v:=i64 S.g.by') rfl)) ?_
 simp only[i64,aJ]
 rw[hd]
 simp only[bne_self_eq_false,gE]
 refine aG cZ ?_
 refine aG xM ?_
 rw[bR]
 refine aG hN.ldg ?_
 rw[cK]
 refine aS (fun e=>⟨fun e'=>(by rw[e] at e';cases e'),fun _=>⟨(by first|trivial|rfl),hk⟩⟩) (fun e=>?_)
 refine aG cZ ?_
 refine aG xD ?_
 rw[bR]
 refine aG hN.lmp ?_
 refine (rG N hN.wf w d hwN h0.1 (by omega)).mono ?_
 rintro x N2 ⟨g1,g2,g3⟩
 have hN2:=hN.post g2
 refine⟨aG hN2.lmp rfl,?_⟩
 obtain⟨pm,hp⟩:=hN2.pend
 have hav:=h.av_lt hext
 obtain⟨pm',p1,p2,_⟩:=hp.put hN2.wf hO.1 z x (some d) (.inr ⟨d,rfl,Gr.pg g1 h0.1 fun c hc hm=>by have h1:=g3 c hc;have h2:=hav c hm;have h3:=hk.nxt;omega⟩)
 refine aG p1 ?_
 obtain⟨q1,q2⟩:=hN2.setP p2
 exact⟨fun _=>⟨(by first|trivial|rfl),q1,(hk.trans0 g2).trans q2 (by simp) (fun _ h _=>h)⟩,fun e'=>(by rw[e] at e';cases e')⟩
theorem aOD(h:FM A M S P B){z:Int}(hz:0≤z∧z<dK S.g):
 aB tb.P 27 [.ptr A.f 0,i64 z] M fun y N=>(S.deg=true→y=i64 13∧aE M N [])∧(S.deg=false→fD P B z=none→y=i64 4∧aE M N [])∧(S.deg=false→fD P B z≠none→y=i64 0∧FM A N S (mH P z none) B∧aE M N [A.mp]):=by
 refine aPq ?_
 unfold F27
 simp only[i64,aJ]
 refine (aJG h hz).mono ?_
 rintro y N ⟨rfl,hk⟩
 simp only[i64,aJ]
 have hN:=h.post hk
 simp only[bne_self_eq_false,gE]
 refine aG cZ ?_
 refine aG xM ?_
 rw[bR]
 refine aG hN.ldg ?_
 rw[cK]
 refine aS (fun e=>⟨fun _=>⟨(by first|trivial|rfl),hk⟩,fun e'=>(by rw[e] at e';cases e'),fun e'=>(by rw[e] at e';cases e')⟩) (fun e=>?_)
 refine (aJq hN z).mono ?_
 rintro y N2 ⟨rfl,⟨h1,rfl⟩|⟨x,d,h1,rfl,h2⟩⟩
 ·refine⟨_,_,rfl,?_⟩
  simp only[Bool.not_false,gU]
  exact⟨fun e'=>(by rw[e] at e';cases e'),fun _ _=>⟨(by first|trivial|rfl),hk⟩,fun _ hne=>absurd h1 hne⟩
 ·refine⟨_,_,rfl,?_⟩
  simp only[Bool.not_true,gE]
  refine aG cZ ?_
  refine aG xD ?_
  rw[bR]
  refine aG hN.lmp ?_
  obtain⟨pm,hp⟩:=hN.pend
  obtain⟨pm',p1,p2,_⟩:=hp.put hN.wf hO.1 z eR none (.inl ⟨rfl,rfl⟩)
  refine aG p1 ?_
  obtain⟨q1,q2⟩:=hN.setP p2
  exact⟨fun e'=>(by rw[e] at e';cases e'),fun _ hno=>(by rw[h1] at hno;cases hno),fun _ _=>⟨(by first|trivial|rfl),q1,hk.trans q2 (by simp) (fun _ h _=>h)⟩⟩
def xA(f:Int→Option dE)(n:Nat):List Int:=((List.range n).map fun i:Nat=>(i:Int)).filter fun i=>(f i).isSome
theorem nQ(f:Int→Option dE)(n:Nat):xA f (n+1)=xA f n++(if (f n).isSome=true then[(n:Int)] else[]):=by
 unfold xA
 rw[List.range_succ,List.map_append,List.filter_append]
 congr 1
 simp only[List.map_cons,List.map_nil,List.filter_cons,List.filter_nil]
theorem rF(f:Int→Option dE)(n:Nat):(xA f n).length≤n:=by
 unfold xA
 have:=List.length_filter_le (fun i=>(f i).isSome) ((List.range n).map fun i:Nat=>(i:Int))
 simpa using this
theorem aKS(h:FM A M S P B):aB tb.P 29 [.ptr A.f 0] M fun y N=>oP N y ((xA (fD P B) (dK S.g).toNat).map i64)∧aE M N []∧∀ c,aO y c→M.next≤c:=by
 obtain⟨C,m,hr⟩:=h.fr
 refine aI3 ?_
 unfold F29
 obtain⟨l1,l2⟩:=lD hr.inv.may
 have hm:=bL.1 hr.inv.may
 have l3:(S.g.bl-S.g.sp-3)*S.g.pg≤20*8:=Int.mul_le_mul (by omega) (by omega) (by omega) (by omega)
 have hlog:=wJ M h.wf A.f (dO A S) A.p C hr.flat
 rw[hr.rel.g] at hlog
 refine hlog.mono ?_
 rintro y M2 ⟨rfl,hk2⟩
 obtain⟨L,hL⟩:∃ L:Nat,dK S.g=L:=⟨(dK S.g).toNat,by omega⟩
 rw[hL]
 simp only[i64,aJ,Int.toNat_natCast]
 have h2:=h.post hk2
 refine⟨fun x i n Q=>∃ j:Nat,i=j∧n=L-j∧j≤L∧aE M Q []∧oP Q x ((xA (fD P B) j).map i64)∧∀ c,aO x c→M.next≤c,⟨_,0,rfl,rfl,Nat.zero_le _,hk2,.inl ⟨rfl,rfl⟩,fun c hc=>hc.elim⟩,?_⟩
 rintro _ x i n Q ⟨j,rfl,rfl,hj,hk,hx,fx⟩
 refine aS (fun hlt=>?_) (fun hge=>?_)
 ·have hlt:j<L:=Int.ofNat_lt.1 (of_decide_eq_true hlt)
  have hQ:=h.post hk
  refine bG fun K hK=>?_
  refine (aJq hQ (j:Int)).mono ?_
  rintro y N2 ⟨rfl,⟨h1,rfl⟩|⟨x',d,h1,rfl,_⟩⟩
  ·refine⟨_,_,rfl,?_⟩
   rw[gE,hK]
   refine⟨_,by omega,j+1,dM (by omega),rfl,hlt,hk,?_,fx⟩
   rw[nQ,h1]
   simpa using hx
  ·refine⟨_,_,rfl,?_⟩
   rw[gU,hK]
   clear hK
   refine bG fun M21 hM21=>?_
   subst hM21
   have hpl:=rF (fD P B) j
   obtain⟨x2,N',g1,g2,g3,g4⟩:=oP.grow lY dR rfl (by decide) hk.wf hx (i64 (j:Int)) rfl (by rw[List.length_map];omega)
   refine aG g1 ?_
   have e:(xA (fD P B) (j+1)).map i64=(xA (fD P B) j).map i64++[i64 (j:Int)]:=by
    rw[nQ,h1]
    simp
   rw[← e] at g2
   refine⟨_,by omega,j+1,dM (by omega),rfl,hlt,nN hk g3 fx,g2,fun c hc=>?_⟩
   have:=g4 c hc
   have:=hk.nxt
   omega
 ·have hge:¬ (j:Int)<(L:Int):=of_decide_eq_false hge
  have:j=L:=by omega
  subst this
  exact⟨hx,hk,fx⟩
end
theorem aHA{ac:Nat→Option (Tg×dE)}{k n:Nat}{S:Ps}(h:ac n=none):gR ac (k+1) n S=gR ac k (n+1) S:=by rw[gR,h]
theorem aH4{ac:Nat→Option (Tg×dE)}{k n:Nat}{S:Ps}{t:Tg}{d:dE}(h:ac n=some (t,d)):gR ac (k+1) n S=if (gK S t d).2≠0 then gK S t d else gR ac k (n+1) (gK S t d).1:=by rw[gR,h]
section
variable {A:bI} {M:aC} {S:Ps} {P:Int→Option (Option dE)} {B:Int→Option dE}
theorem aP6(M:aC){n:Nat}(hn:n≤1000):cV tb 37 (.val (.int .i64 (n:Int))) (.val (.int .i64 (n:Int))) M=some (.sl M.next 0 n n none,M.new (.cells (fH (List.replicate n 0#8)) true)):=by
 unfold cV
 rw[kR]
 have h1:decide (0≤(n:Int))=true:=by simp
 have h2:decide ((n:Int)≤(n:Int))=true:=by simp
 have h3:decide (((1:Nat):Int)*(n:Int)≤281474976710656)=true:=by
  rw[decide_eq_true_eq];omega
 have h4:decide ((n:Int)<4611686018427387904)=true:=by
  rw[decide_eq_true_eq];omega
 simp only[ty5,h1,h2,h4,cond_true,Int.toNat_natCast]
 rw[h3,cond_true]
 have e:repA n (ofVs [.int .u8 0])=fH (List.replicate n 0#8):=by
  have:=qW (AV.val (.int .u8 0)) n
  rw[show fH (List.replicate n 0#8)=List.replicate n (AV.val (.int .u8 0)) by unfold fH;rw[List.map_replicate];rfl]
  exact this
 rw[e]
theorem aO6(h:FM A M S P B)(hext:∀ c∈A.ext,c<M.next)(h0:Pts S (gV P B (eZ S.g)) 0 S)(hac:aBs S.g S.now (gV P B (eZ S.g)))(hn:0≤S.now∧S.now≤16777215)(hops:S.ops+dL S*163+5000≤1000000000):
 aB tb.P 54 [.ptr A.f 0] M fun y N=>y=i64 (kM S (gV P B (eZ S.g))).2∧FM A N (kM S (gV P B (eZ S.g))).1 P B∧aE M N A.wr:=by
 obtain⟨C0,m0,hr0⟩:=h.fr
 have hg:=hr0.geo
 have hm:=bL.1 hr0.inv.may
 have hnp:nB S*nG S≤160:=by
  have:nB S*nG S≤20*8:=Nat.mul_le_mul (by omega) (by omega)
  omega
 have hK0:dL S=9*(nB S+1)+1:=rfl
 have hav:=h.av_lt hext
 refine aNE ?_
 unfold F54
 refine aG cZ ?_
 refine aG mQ ?_
 rw[bR]
 obtain⟨L,hL⟩:∃ L:Nat,S.g.by'=L:=⟨S.g.by'.toNat,by omega⟩
 refine aG (aR (dI dR rfl h.flA (o:=3) (v:=i64 S.g.by') rfl)) ?_
 rw[hL]
 simp only[i64,aJ]
 refine aG (aP6 M (n:=L) (by omega)) ?_
 have hz:eZ S.g=List.replicate L 0#8:=by unfold eZ;rw[hL];rfl
 have k7:aE M (M.new (.cells (fH (List.replicate L 0#8)) true)) []:=aE.new h.wf _
 have g7:(M.new (.cells (fH (List.replicate L 0#8)) true)).get M.next=some (.cells (fH (List.replicate L 0#8)) true):=get_new _ _
 generalize M.new (.cells (fH (List.replicate L 0#8)) true)=M7 at*
 have h7:=h.post k7
 have hav7:∀ c∈A.av,c<M.next:=hav
 have nonePg:∀ N,N.get M.next=some (.cells (fH (List.replicate L 0#8)) true)→PgS N A (.sl M.next 0 L L none) (eZ S.g):=fun N hg=>by
  refine⟨?_,⟨_,_,_,_,_,rfl⟩,fun c hc hm=>?_⟩
  ·rw[hz]
   refine⟨by simp,.inr ⟨M.next,0,L,none,by simp,⟨by simp,.inl rfl⟩,.inr ⟨_,_,hg,by simp,by rw[List.drop_zero,List.take_of_length_le (by simp)]⟩⟩⟩
  ·obtain⟨_,hc⟩:=hc
   have:=hav7 c hm
   omega
 have hwr:M.next∉A.wr:=fun hm=>by have:=hav7 _ (bI.wr_av hm);omega
 refine aG cZ ?_
 refine aG mQ ?_
 rw[bR]
 refine aG cZ ?_
 refine aG mQ ?_
 rw[bR]
 obtain⟨C7,m7,hr7⟩:=h7.fr
 refine aG hr7.lbl ?_
 rw[aJ]
 refine aG hr7.lpg ?_
 rw[aJ]
 have em:cX .i64 (nB S:Int) (nG S:Int)=((nB S*nG S:Nat):Int):=by
  rw[Int.natCast_mul]
  have:((nB S:Int)*(nG S:Int))=((nB S*nG S:Nat):Int):=by rw[Int.natCast_mul]
  exact aM (by omega) (by omega)
 rw[em]
 refine⟨fun z n N=>∃ (i:Nat) (S1:Ps),z=i∧n=nB S*nG S-i∧i≤nB S*nG S∧Pts S (gV P B (eZ S.g)) i S1∧FM A N S1 P B∧aE M N A.wr∧gR (gV P B (eZ S.g)) (nB S*nG S-i) i S1=gR (gV P B (eZ S.g)) (nB S*nG S) 0 S∧N.get M.next=some (.cells (fH (List.replicate L 0#8)) true),
  ⟨_,0,S,rfl,rfl,Nat.zero_le _,h0,h7,k7.mono (by simp),rfl,g7⟩,?_⟩
 rintro _ z n N ⟨i,S1,rfl,rfl,hi,hpts,hN,hkN,hres,gN⟩
 have hnb:=hpts.env.nB
 have hgS:=hpts.env.g
 have hop1:=hpts.ops
 have hKi:dL S*(i:Int)≤dL S*160:=Int.mul_le_mul_of_nonneg_left (by omega) (by omega)
 have hpre:Pre S1 (nB S1+1):=⟨hpts.und.inv,hpts.lost,hpts.phi,by omega⟩
 obtain⟨C1,m1,hr1⟩:=hN.fr
 refine aS (fun e=>?_) (fun e=>?_)
 ·
  have hlt:i<nB S*nG S:=Int.ofNat_lt.1 (of_decide_eq_true e)
  have hsub:nB S*nG S-i=(nB S*nG S-(i+1))+1:=by omega
  obtain⟨pm,hp⟩:=hN.pend
  obtain⟨bm,hb⟩:=hN.base
  refine bG fun K71 hK71=>?_
  have key71:∀ (N2:aC) (S2:Ps),aE M N2 A.wr→FM A N2 S2 P B→Pts S (gV P B (eZ S.g)) (i+1) S2→gR (gV P B (eZ S.g)) (nB S*nG S-(i+1)) (i+1) S2=gR (gV P B (eZ S.g)) (nB S*nG S) 0 S→N2.get M.next=some (.cells (fH (List.replicate L 0#8)) true)→K71 N2:=by
   intro N2 S2 a1 a2 a3 a4 a5
   rw[hK71]
   exact⟨_,by omega,i+1,S2,dM (by omega),rfl,hlt,a3,a2,a1,a4,a5⟩
  clear hK71
  have skip:∀ N2,aE N N2 []→gV P B (eZ S.g) i=none→K71 N2:=fun N2 k2 ha=>by
   rw[hsub,aHA ha] at hres
   exact key71 N2 S1 (hkN.trans k2 (fun _ h _=>h) (by simp)) (hN.post k2) (hpts.skip ha) hres (k2.get hN.wf gN (by simp))
  have putIt:∀ (N2:aC) (t:Tg) (x:AV) (d:dE) (K:AV→aC→Prop),aE N N2 []→gV P B (eZ S.g) i=some (t,d)→PgS N2 A x d→
   (∀ (y:AV) (N3:aC),y=i64 (gK S1 t d).2→FM A N3 (gK S1 t d).1 P B→aE M N3 A.wr→N3.get M.next=some (.cells (fH (List.replicate L 0#8)) true)→K y N3)→aB tb.P 86 [.ptr A.f 0,tgA t,x] N2 K:=by
   intro N2 t x d K k2 ha hx hK
   obtain⟨b1,b2,b3,b4⟩:=hac.k i t d ha
   have hnow:=hpts.env.now
   have h2:=hr1.post k2
   refine (aNo h2 hpre (by omega) (t:=t) (x:=x) (d:=d) (fun s hs=>uK (g:=S.g) hr0.inv.may (by rw[hnow];exact hn) (.inl ⟨b1,by omega,by omega⟩) b4 s hs) (by rw[hgS];exact b4) (fun _=>by rw[hgS,b2];exact b3) (by rw[hpts.und.ep];exact Int.le_refl _) hx.1 hx.one hx.2.2).mono ?_
   rintro y N3 ⟨C',m',rfl,h3,k3⟩
   exact hK _ N3 rfl ((hN.post k2).step k3 ⟨C',m',h3⟩) ((hkN.trans k2 (fun _ h _=>h) (by simp)).trans k3 (fun _ h _=>h) (fun _ h _=>h)) (k3.get h2.wf (k2.get hN.wf gN (by simp)) hwr)
  have aJQ:∀ (t:Tg) (d:dE) (N3:aC),gV P B (eZ S.g) i=some (t,d)→FM A N3 (gK S1 t d).1 P B→aE M N3 A.wr→N3.get M.next=some (.cells (fH (List.replicate L 0#8)) true)→
   aD ((gK S1 t d).2 != 0) (i64 (gK S1 t d).2=i64 (kM S (gV P B (eZ S.g))).2∧FM A N3 (kM S (gV P B (eZ S.g))).1 P B∧aE M N3 A.wr) (K71 N3):=by
   intro t d N3 ha a1 a2 a3
   rw[hsub,aH4 ha] at hres
   have hst:=aDe hpts hac hn (by omega) (by omega) ha
   refine aS (fun e=>?_) (fun e=>?_)
   ·have e:(gK S1 t d).2≠0:=by simpa using e
    rw[if_pos e] at hres
    unfold kM
    rw[← hres,if_pos e]
    exact⟨rfl,a1,a2⟩
   ·have e:(gK S1 t d).2=0:=by simpa using e
    rw[if_neg (by rw[e];simp)] at hres
    rcases hst with⟨_,hp'⟩|⟨c,_⟩
    ·exact key71 N3 _ a2 a1 hp' hres a3
    ·rw[e] at c;cases c
  refine aG cZ ?_
  refine aG xD ?_
  rw[bR]
  refine aG hN.lmp ?_
  have lookB:∃ (x:AV),tA tb 80 (.map A.mb) (i64 (i:Int)) true N=some (.tup [x,.val (.bool (B i).isSome)],N):=by
   cases hB:B i with
   | none=>exact⟨eR,hb.none (by rw[hB];rfl)⟩
   | some d=>
     obtain⟨x,h1,_⟩:=hb.some (n:=i) (d:=d) (by rw[hB];rfl)
     exact⟨x,h1⟩
  obtain⟨xb,hlb⟩:=lookB
  have lookP:∃ (x:AV),tA tb 80 (.map A.mp) (i64 (i:Int)) true N=some (.tup [x,.val (.bool (P i).isSome)],N)∧(P i=none∨(P i=some none∧x=eR)∨∃ d,P i=some (some d)∧PgS N A x d):=by
   cases hP:P i with
   | none=>exact⟨eR,hp.none hP,.inl rfl⟩
   | some o=>
     cases o with
     | none=>exact⟨eR,hp.nil hP,.inr (.inl ⟨rfl,rfl⟩)⟩
     | some d=>
       obtain⟨x,h1,h2⟩:=hp.some hP
       exact⟨x,h1,.inr (.inr ⟨d,rfl,h2⟩)⟩
  obtain⟨xp,hlp,hpx⟩:=lookP
  refine aG hlp ⟨_,_,rfl,?_⟩
  refine aG cZ ?_
  refine aG aDF ?_
  rw[bR]
  refine aG hN.lmb ?_
  refine aG hlb ⟨_,_,rfl,?_⟩
  refine bG fun K42 hK42=>?_
  have key42:∀ x41:AV,(P i=none∨(P i=some none∧x41=eR)∨∃ d,P i=some (some d)∧PgS N A x41 d)→K42 x41:=by
   intro x41 hx41
   rw[hK42]
   clear hK42
   refine bG fun M43 hM43=>?_
   have e43:M43=N.new (.cells [i64 0,i64 0,i64 0,i64 0] true):=hM43
   have k43:aE N M43 []:=by rw[e43];exact aE.new hN.wf _
   have g43:M43.get N.next=some (.cells [i64 0,i64 0,i64 0,i64 0] true):=by rw[e43];exact get_new _ _
   have n43:M43.next=N.next+1:=by rw[e43];rfl
   clear hM43 e43
   refine aG (xS ⟨1,i,0,0⟩ g43 rfl) ?_
   have k44:aE N (M43.put N.next (.cells (jJ ⟨1,i,0,0⟩) true)) []:=yN k43 (Nat.le_refl _) (by omega) _
   generalize hM44:M43.put N.next (.cells (jJ ⟨1,i,0,0⟩) true)=M44 at*
   have g44:M44.get N.next=some (.cells (jJ ⟨1,i,0,0⟩) true):=by rw[← hM44,aC.get_put,if_pos rfl]
   have n44:M44.next=N.next+1:=by rw[← hM44];exact n43
   clear hM44
   have h44:=hN.post k44
   refine bG fun K61 hK61=>?_
   have key61:∀ (t:Tg) (x:AV) (d:dE) (N2:aC),aE N N2 []→N2.get N.next=some (.cells (jJ t) true)→gV P B (eZ S.g) i=some (t,d)→PgS N2 A x d→K61 x N2:=by
    intro t x d N2 k2 g2 ha hx
    rw[hK61]
    clear hK61
    refine aG (aR (aBC g2)) ⟨_,_,_,_,rfl,?_⟩
    refine putIt N2 t x d _ k2 ha hx ?_
    rintro y N3 rfl a1 a2 a3
    simp only[i64,aJ]
    exact aJQ t d N3 ha a1 a2 a3
   clear hK61
   refine bG fun K55 hK55=>?_
   have key55t:gV P B (eZ S.g) i=none→K55 true:=by
    intro ha
    rw[hK55]
    dsimp only
    rw[gU]
    exact skip _ k44 ha
   have key55f:(P i=some none∧x41=eR∧(B i).isSome=true∨∃ d,P i=some (some d)∧PgS N A x41 d)→K55 false:=by
    intro hc
    rw[hK55]
    dsimp only
    rw[gE]
    clear hK55
    rcases hc with⟨hP,rfl,hB⟩|⟨d,hP,hd⟩
    ·refine aG aCG ?_
     rw[cK,gU]
     refine aG (lM (cO dR rfl rfl g44 (by simp[jJ]))) ?_
     have ha:gV P B (eZ S.g) i=some (⟨2,i,0,0⟩,eZ S.g):=by unfold gV;rw[hP];simp[hB]
     have k45:aE N (M44.put N.next (.cells ((jJ ⟨1,i,0,0⟩).set 0 (.val (.int .i64 2))) true)) []:=yN k44 (Nat.le_refl _) (by omega) _
     refine key61 ⟨2,i,0,0⟩ _ (eZ S.g) _ k45 (by rw[aC.get_put,if_pos rfl];rfl) ha (nonePg _ (k45.get hN.wf gN (by simp)))
    ·have ha:gV P B (eZ S.g) i=some (⟨1,i,0,0⟩,d):=by unfold gV;rw[hP]
     obtain⟨b,o,c1,c2,e',rfl⟩:=hd.2.1
     refine aG aKo ?_
     rw[cK,gE]
     exact key61 ⟨1,i,0,0⟩ _ d _ k44 g44 ha (hd.keep hN.wf k44 (by simp))
   clear hK55
   refine aG cZ ?_
   refine aG aNj ?_
   rw[bR]
   refine aG h44.lms ?_
   have hst:tA tb 81 (.map A.ms) (.val (.int .i64 (i:Int))) false M44=some (.val (.bool false),M44):=by
    have:=aKN (l:=[]) h44.stale (i:Int)
    have h2:=nM this
    simp only[List.not_mem_nil,decide_false] at h2
    exact h2
   refine aG hst ?_
   rw[cK]
   simp only[Bool.not_false,gU]
   rcases hx41 with hP|⟨hP,rfl⟩|⟨d,hP,hd⟩
   ·rw[hP]
    simp only[Option.isSome_none,Bool.not_false,gU]
    exact key55t (by unfold gV;rw[hP])
   ·rw[hP]
    simp only[Option.isSome_some,Bool.not_true,gE]
    refine aG aCG ?_
    rw[cK,gU]
    cases hB:(B i).isSome with
    | true=>
      simp only[Bool.not_true]
      exact key55f (.inl ⟨hP,rfl,hB⟩)
    | false=>
      simp only[Bool.not_false]
      exact key55t (by unfold gV;rw[hP];simp[hB])
   ·rw[hP]
    simp only[Option.isSome_some,Bool.not_true,gE]
    obtain⟨b,o,c1,c2,e',rfl⟩:=hd.2.1
    refine aG aKo ?_
    rw[cK,gE]
    exact key55f (.inr ⟨d,hP,hd⟩)
  clear hK42
  cases hPs:(P i).isSome with
  | false=>
    have hP:P i=none:=by
     cases hq:P i with
     | none=>rfl
     | some v=>rw[hq] at hPs;cases hPs
    simp only[Bool.not_false,gU]
    exact key42 _ (.inl hP)
  | true=>
    simp only[Bool.not_true,gE]
    exact key42 _ hpx
 ·
  have hge:¬ (i:Int)<((nB S*nG S:Nat):Int):=of_decide_eq_false e
  have:i=nB S*nG S:=by omega
  subst this
  rw[Nat.sub_self] at hres
  have hres:(S1,(0:Int))=gR (gV P B (eZ S.g)) (nB S*nG S) 0 S:=hres
  have hnow:=hpts.env.now
  have hx:=nonePg N gN
  refine (aNo hr1 hpre (by omega) (t:=pK) (d:=eZ S.g) (fun s hs=>uK (g:=S.g) hr0.inv.may (by rw[hnow];exact hn) (.inr ⟨rfl,rfl⟩) (oI hr0.inv.may) s hs) (by rw[hgS];exact oI hr0.inv.may) (fun hk=>absurd rfl hk) (by rw[hpts.und.ep];exact Int.le_refl _) hx.1 hx.one hx.2.2).mono ?_
  rintro y N3 ⟨C',m',rfl,h3,k3⟩
  simp only[i64,aJ]
  unfold kM
  rw[← hres]
  simp only[ne_eq,not_true_eq_false,if_false]
  exact⟨by trivial,hN.step k3 ⟨C',m',h3⟩,hkN.trans k3 (fun _ h _=>h) (fun _ h _=>h)⟩
end
theorem eG.ep{S:Ps}(h:eG S)(x y:Int)(hx:S.ep≤x):eG { S with ep:=x,now:=y }:=
 ⟨h.may,h.len,h.pgs,⟨h.sq.le,h.sq.one⟩,fun b i v hv=>by
  obtain⟨a1,a2,a3,a4,a5⟩:=h.tag b i v hv
  exact⟨a1,a2,a3,a4,by show v.t.e≤x;omega⟩,h.bad,h.seq,h.cnt⟩
section
variable {A:bI} {M:aC} {S:Ps} {C:aQ} {m:List iC} {P:Int→Option (Option dE)} {B:Int→Option dE}
theorem aI6{S:Ps}{P:Int→Option (Option dE)}{B:Int→Option dE}(h:tR S)(hP:aAB S.g P)(hops:S.ops+dL S*162+2000≤4294967295)(hep:S.ep+1≤16777215)(hc:(kM (bH S) (gV P B (eZ S.g))).2=0):
 Pre { (kM (bH S) (gV P B (eZ S.g))).1 with now:=0 } (nB S)∧nB (kM (bH S) (gV P B (eZ S.g))).1=nB S∧(kM (bH S) (gV P B (eZ S.g))).1.ops≤S.ops+dL S*161:=by
 have hge:=h.inv.geo
 have hnp:nB S*nG S≤160:=by
  have:nB S*nG S≤20*8:=Nat.mul_le_mul (by omega) (by omega)
  omega
 have hK0:dL S=9*(nB S+1)+1:=rfl
 have hKb:dL (bH S)=dL S:=rfl
 have hnbb:nB (bH S)=nB S:=rfl
 have hngb:nG (bH S)=nG S:=rfl
 have hl0:=(eK S).2.1
 have hnow:0≤(bH S).now∧(bH S).now≤16777215:=⟨by show 0≤S.ep+1;have:=h.ep;omega,hep⟩
 have hac:aBs (bH S).g (bH S).now (gV P B (eZ S.g)):=aEK h.inv.may hP
 have hall:=yT hac hnow (by rw[hKb];show S.ops+_+_≤_;omega) (nB S*nG S) 0 (bH S) (by omega) (h.begin (ac:=gV P B (eZ S.g))).2
 rw[Nat.add_zero] at hall
 have hmulB:dL S*((nB S*nG S:Nat):Int)≤dL S*160:=Int.mul_le_mul_of_nonneg_left (by omega) (by omega)
 have hgb:(bH S).g=S.g:=rfl
 unfold kM at hc ⊢
 rw[hnbb,hngb,hgb] at hc ⊢
 rcases hall with⟨c,hp⟩|⟨c,_⟩
 rotate_left
 ·rw[if_pos (show (gR (gV P B (eZ S.g)) (nB S*nG S) 0 (bH S)).2≠0 by rw[c];simp),c] at hc
  cases hc
 have hne:¬ ((gR (gV P B (eZ S.g)) (nB S*nG S) 0 (bH S)).2≠0):=by rw[c];simp
 rw[if_neg hne] at hc ⊢
 generalize (gR (gV P B (eZ S.g)) (nB S*nG S) 0 (bH S)).1=R at*
 have hnbR:nB R=nB S:=hp.env.nB
 have hgR:R.g=S.g:=hp.env.g
 have hnowR:R.now=S.ep+1:=hp.env.now
 have hopR:S.ops≤R.ops∧R.ops≤S.ops+dL S*((nB S*nG S:Nat):Int):=hp.ops
 have hpre:Pre R (nB R+1):=⟨hp.und.inv,hp.lost,hp.phi,by omega⟩
 have hok:∀ s:Int,0≤s∧s≤4294967295→vZ (eZ S.g) pK.k pK.p s R.now=true:=fun s hs=>uK (g:=S.g) h.inv.may (by rw[hnowR];exact hnow) (.inr ⟨rfl,rfl⟩) (oI h.inv.may) s hs
 have hpost:=aE3 hpre hok (by rw[hgR];exact oI h.inv.may) (fun hk=>absurd rfl hk) (by rw[hp.und.ep];exact Int.le_refl _)
 have hpop:=hpost.ops
 rw[hnbR] at hpop
 rcases hpost.code with⟨c1,c2,c3,c4,_⟩|⟨c1,_⟩
 ·refine⟨⟨hpost.inv.ep _ 0 (Int.le_refl _),?_,?_,?_⟩,hpost.env.nB.trans hnbR,by omega⟩
  ·show (cG (gK R pK (eZ S.g)).1:Int)≤(gK R pK (eZ S.g)).1.g.sp
   rw[hpost.env.g];exact c3
  ·show 2+(gK R pK (eZ S.g)).1.g.sp≤(phi (gK R pK (eZ S.g)).1:Int)
   rw[hpost.env.g];exact c4
  ·show (gK R pK (eZ S.g)).1.ops+_+_≤_
   omega
 ·rw[hc] at c1;cases c1
theorem aHC(h:FR A M S C m)(hl:(cG S:Int)≤S.g.sp)(hp:2+S.g.sp≤phi S):aB tb.P 53 [.ptr A.f 0] M fun y N=>y=i64 0∧aE M N []:=by
 have hg:=h.geo
 have hph:=pO S
 refine aPN ?_
 unfold F53
 refine aG cZ ?_
 refine aG mQ ?_
 rw[bR]
 refine aG h.lbl ?_
 rw[aJ]
 refine bG fun K37 hK37=>?_
 refine⟨fun z n N=>z=0∧N=M,⟨0,rfl,rfl⟩,?_⟩
 rintro _ z n N ⟨rfl,rfl⟩
 rw[decide_eq_true (by omega:(0:Int)<(nB S:Int)),gU]
 refine bG fun K34 hK34=>?_
 refine (aKF h (is:=eW S) (vI aOm fun N' b hb _ hN'=>aE7 hN' hb)).mono ?_
 rintro r M32 ⟨rfl,k32⟩
 simp only[i64,aJ]
 refine (aDr (h.post k32)).mono ?_
 rintro r M36 ⟨rfl,k36⟩
 simp only[i64,aJ]
 have:(cnt (nB S) (eW S):Int)≥eO S:=by
  have:jL S=cnt (nB S) (eW S):=rfl
  unfold eO
  omega
 rw[decide_eq_true this,gU,hK37]
 exact⟨by first|trivial|rfl,k32.trans0 k36⟩
theorem aLr{b:Nat}{es:List (AV×AV)}(hg:M.get b=some (.map es)):cC tb false 80 (.map b) M=some (.val (.int .i64 (es.length:Int)),M):=by
 obtain⟨ti,h1,h2⟩:=aN6
 refine lF ?_
 unfold bP
 rw[h1]
 simp only[h2]
 have he:gX M (.map b)=some es:=by unfold gX;simp only;rw[hg]
 rw[he]
 rfl
theorem aGx{b:Nat}{es:List (AV×AV)}{t:TypeId}{ti:TI}(ht:tb.ty.get t=some ti)(hg:M.get b=some (.map es)):aLY tb t (.map b) M=some (.tup [],M.put b (.map [])):=by
 unfold aLY tL
 rw[ht]
 simp only[hg]
 rfl
theorem aIw{b:Nat}{pm:List (Int×AV)}{P:Int→Option (Option dE)}(h:jW M A b pm P)(hw:M.WF)(hb:b∈A.av){n:Int}{x:Option dE}(hn:P n=some x):
 ∃ pm',aPP tb 80 (.map b) (i64 n) M=some (.tup [],M.put b (.map (mG i64 (fun x:AV=>x) pm')))∧jW (M.put b (.map (mG i64 (fun x:AV=>x) pm'))) A b pm' (fun k=>if k=n then none else P k):=by
 obtain⟨⟨n',v⟩,hq,rfl⟩:=h.cov n _ hn
 obtain⟨pre,post,e,e1,e2⟩:=jS h.nd hq
 obtain⟨ti,h1,h2⟩:=aN6
 have hk:aE M (M.put b (.map (mG i64 (fun x:AV=>x) (pre++post)))) [b]:=aE.put hw (hw _ _ h.get) _
 have hT:∀ c∈[b],c∈A.av:=fun c hc=>by rw[List.mem_singleton] at hc;rw[hc];exact hb
 refine⟨pre++post,?_,by rw[aC.get_put,if_pos rfl],?_,fun q hq'=>?_,fun k y hk'=>?_⟩
 ·unfold aPP pL
  rw[h1]
  simp only[h2]
  rw[dR,h.get,e]
  simp only
  have hko:gM tb 60 3 (i64 n')=true:=mY.ok n'
  rw[hko,uS mY pre post 0 e1]
  simp only[cond_true,Option.map_some,Nat.zero_add]
  congr 4
  unfold mG
  rw[List.map_append,List.map_cons,List.eraseIdx_append_of_length_le (by simp)]
  simp
 ·have:=h.nd
  rw[e] at this
  rw[List.map_append,List.map_cons] at this
  rw[List.map_append]
  exact List.Nodup.sublist (List.Sublist.append_left (List.sublist_cons_self _ _) _) this
 ·have hqm:q∈pm:=by rw[e];rw[List.mem_append] at hq' ⊢;exact hq'.imp id fun h=>by simp[h]
  have hne:q.1≠n':=by
   rw[List.mem_append] at hq'
   exact hq'.elim (e1 q) (e2 q)
  simp only[if_neg hne]
  exact (h.ent q hqm).imp id fun⟨d,a1,a2⟩=>⟨d,a1,a2.keep hw hk hT⟩
 ·simp only at hk'
  by_cases ek:k=n'
  ·rw[if_pos ek] at hk';cases hk'
  ·rw[if_neg ek] at hk'
   obtain⟨q,hq',a1⟩:=h.cov k y hk'
   rw[e,List.mem_append,List.mem_cons] at hq'
   rcases hq' with hq'|rfl|hq'
   ·exact⟨q,by simp[hq'],a1⟩
   ·exact absurd a1.symm ek
   ·exact⟨q,by simp[hq'],a1⟩
theorem FM.setS(h:FM A M S P B){S':Ps}(hx:S'.x=S.x)(hg:S'.g=S.g)(hf:S'.fs=S.fs)(ho:S'.ops=S.ops)(hi:eG S'):
 FM A (M.put A.f (.cells (jF (dO A S')) true)) S' P B∧aE M (M.put A.f (.cells (jF (dO A S')) true)) A.wr:=by
 obtain⟨C,m,hr⟩:=h.fr
 obtain⟨a1,a2⟩:=hr.setF hx hg hf ho hi
 have hk:aE M (M.put A.f (.cells (jF (dO A S')) true)) A.wr:=a2.mono fun c hc _=>by rw[List.mem_singleton] at hc;subst hc;simp[bI.wr]
 exact⟨h.step hk ⟨C,m,a1⟩,hk⟩
def bI.mw(A:bI):List Nat:=A.mp::A.mb::A.ms::A.wr
theorem aFZ(h:FM A M S P B)(hext:∀ c∈A.ext,c<M.next)(hq:tR S)(hP:aAB S.g P)(hd:S.deg=false)(hops:S.ops+dL S*165+8000≤1000000000)(hep:S.ep+1≤16777215):
 aB tb.P 17 [.ptr A.f 0] M fun y N=>((∀ n,P n=none)→y=i64 0∧FM A N S P B∧aE M N A.mw)∧
  (¬ (∀ n,P n=none)→y=i64 (fQ S (gV P B (eZ S.g))).2∧aE M N A.mw∧
   ((fQ S (gV P B (eZ S.g))).2=0→FM A N (fQ S (gV P B (eZ S.g))).1 (fun _=>none) (fD P B))∧((fQ S (gV P B (eZ S.g))).2≠0→FM A N (fQ S (gV P B (eZ S.g))).1 P B∨FM A N (fQ S (gV P B (eZ S.g))).1 (fun _=>none) (fD P B))):=by
 obtain⟨C,m,hr⟩:=h.fr
 obtain⟨pm,hp⟩:=h.pend
 have hgeo:=hr.geo
 have hK0:dL S=9*(nB S+1)+1:=rfl
 have hwm:∀ c∈A.wr,c∈A.mw:=fun c hc=>by simp[bI.mw,hc]
 obtain⟨⟨w1,w2,w3⟩,w4,w5,w6⟩:=bI.maps h.dis
 have hav:=h.av_lt hext
 refine aJZ ?_
 unfold F17
 refine aG jA ?_
 rw[cK,gE]
 refine aG cZ ?_
 refine aG iL ?_
 rw[bR]
 refine aG hr.ldp ?_
 refine (aK1 M h.wf A.p C hr.chip).mono ?_
 rintro y N ⟨rfl,rfl⟩
 rw[hr.rel.calm.off]
 simp only[cK,Bool.not_false,Bool.not_true,gE]
 refine aG cZ ?_
 refine aG xM ?_
 rw[bR]
 refine aG h.ldg ?_
 rw[cK,hd,gE]
 refine (aB2 hr).mono ?_
 have hw0:jE S=(S,0):=by unfold jE;rw[if_pos hq.lost]
 rw[hw0]
 rintro y M18 ⟨rfl,hr18,k18⟩
 simp only[i64,aJ]
 have K18:aE N M18 A.wr:=k18.mono fun c hc _=>by rw[List.mem_singleton] at hc;subst hc;simp[bI.wr]
 have h18:=h.step K18 ⟨C,m,hr18⟩
 have hp18:=hp.keep h.wf K18 w2 fun c hc=>bI.wr_av hc
 refine bG fun K28 hK28=>?_
 have key28t:(∀ n,P n=none)→K28 true:=by
  intro hno
  rw[hK28]
  dsimp only
  rw[gU]
  exact⟨fun _=>⟨by first|trivial|rfl,h18,K18.mono fun c hc _=>hwm c hc⟩,fun hn=>absurd hno hn⟩
 have key28f:¬ (∀ n,P n=none)→K28 false:=by
  intro hne
  rw[hK28]
  dsimp only
  rw[gE]
  clear hK28 key28t
  refine (aHC hr18 hq.lost hq.phi).mono ?_
  rintro y M30 ⟨rfl,k30⟩
  simp only[i64,aJ]
  simp only[bne_self_eq_false,gE]
  have h30:=h18.post k30
  have fa7:∀ N,bV tb 83 (.ptr A.f 0) 7 N=some (.ptr A.f 11,N):=fun N=>bW (by unfold eZf;rw[aBb];rfl)
  have fa8:∀ N,bV tb 83 (.ptr A.f 0) 8 N=some (.ptr A.f 12,N):=fun N=>bW (by unfold eZf;rw[aBb];rfl)
  have hep0:0≤S.ep:=by rw[hq.ep];exact (eK S).2.1
  refine aG cZ ?_
  refine aG (fa7 _) ?_
  rw[bR]
  refine aG (aR (dI dR rfl h30.flA (o:=11) (v:=i64 S.ep) rfl)) ?_
  simp only[i64,aJ]
  refine aG cZ ?_
  refine aG (fa7 _) ?_
  rw[bR,ib (by omega)]
  refine aG (lM (cO dR rfl rfl h30.flA (by simp[jF]))) ?_
  obtain⟨h42,k42⟩:=h30.setS (S':={ S with ep:=S.ep+1,now:=S.now }) rfl rfl rfl rfl (hq.inv.ep (S.ep+1) S.now (by omega))
  have es1:(jF (dO A S)).set 11 (.val (.int .i64 (S.ep+1)))=jF (dO A { S with ep:=S.ep+1,now:=S.now }):=rfl
  rw[es1]
  generalize M30.put A.f (.cells (jF (dO A { S with ep:=S.ep+1,now:=S.now })) true)=M42 at*
  refine aG cZ ?_
  refine aG (fa7 _) ?_
  rw[bR]
  refine aG (aR (dI dR rfl h42.flA (o:=11) (v:=i64 (S.ep+1)) rfl)) ?_
  simp only[i64,aJ]
  refine aG cZ ?_
  refine aG (fa8 _) ?_
  rw[bR]
  refine aG (lM (cO dR rfl rfl h42.flA (by simp[jF]))) ?_
  obtain⟨h53,k53⟩:=h42.setS (S':=bH S) rfl rfl rfl rfl (hq.inv.ep (S.ep+1) (S.ep+1) (by omega))
  have es2:(jF (dO A { S with ep:=S.ep+1,now:=S.now })).set 12 (.val (.int .i64 (S.ep+1)))=jF (dO A (bH S)):=rfl
  rw[es2]
  generalize M42.put A.f (.cells (jF (dO A (bH S))) true)=M53 at*
  have K53:aE N M53 A.wr:=((K18.trans k30 (fun _ h _=>h) (by simp)).trans k42 (fun _ h _=>h) (fun _ h _=>h)).trans k53 (fun _ h _=>h) (fun _ h _=>h)
  have hext53:∀ c∈A.ext,c<M53.next:=fun c hc=>Nat.lt_of_lt_of_le (hext c hc) K53.nxt
  obtain⟨hund,hpts⟩:=hq.begin (ac:=gV P B (eZ S.g))
  refine (aO6 h53 hext53 hpts (aEK hq.inv.may hP) ⟨by show 0≤S.ep+1;omega,hep⟩ (by show S.ops+dL S*163+5000≤_;omega)).mono ?_
  rintro y M55 ⟨rfl,h55,k55⟩
  simp only[i64,aJ]
  have hzer:eZ (bH S).g=eZ S.g:=rfl
  rw[hzer] at h55 ⊢
  generalize hR:kM (bH S) (gV P B (eZ S.g))=R at*
  have hflx:fQ S (gV P B (eZ S.g))=if R.2≠0 then ({ R.1 with now:=0 },R.2) else lZ { R.1 with now:=0 }:=by unfold fQ;rw[hR]
  refine aG cZ ?_
  refine aG (fa8 _) ?_
  rw[bR]
  obtain⟨C55,m55,hr55⟩:=h55.fr
  refine aG (lM (cO dR rfl rfl h55.flA (by simp[jF]))) ?_
  obtain⟨h61,k61⟩:=h55.setS (S':={ R.1 with now:=0 }) rfl rfl rfl rfl (hr55.inv.ep R.1.ep 0 (Int.le_refl _))
  have es3:(jF (dO A R.1)).set 12 (.val (.int .i64 0))=jF (dO A { R.1 with now:=0 }):=rfl
  rw[es3]
  generalize M55.put A.f (.cells (jF (dO A { R.1 with now:=0 })) true)=M61 at*
  have K61:aE N M61 A.wr:=(K53.trans k55 (fun _ h _=>h) (fun _ h _=>h)).trans k61 (fun _ h _=>h) (fun _ h _=>h)
  refine aS (fun e=>?_) (fun e=>?_)
  ·have e:R.2≠0:=by simpa using e
   rw[if_pos e] at hflx
   rw[hflx]
   exact⟨fun hno=>absurd hno hne,fun _=>⟨by first|trivial|rfl,K61.mono fun c hc _=>hwm c hc,fun e'=>absurd e' e,fun _=> .inl h61⟩⟩
  ·have e:R.2=0:=by simpa using e
   rw[if_neg (by rw[e];simp)] at hflx
   have hp61:jW M61 A A.mp pm P:=hp.keep h.wf K61 w2 fun c hc=>bI.wr_av hc
   obtain⟨bm,hb61⟩:=h61.base
   obtain⟨C61,m61,hr61⟩:=h61.fr
   have hmpL:A.mp<M61.next:=h61.wf _ _ hp61.get
   refine aG cZ ?_
   refine aG xD ?_
   rw[bR]
   refine aG h61.lmp ?_
   have he:lC M61 (.map A.mp)=some (some A.mp,mG i64 (fun x:AV=>x) pm):=by unfold lC;simp only;rw[hp61.get]
   rw[he,eQ]
   have kkill:aE M61 (M61.kill A.mp) [A.mp]:=⟨h61.wf.kill _,Nat.le_refl _,fun c _ hc=>by rw[aC.get_kill,if_neg (by simpa using hc)]⟩
   have hT1:∀ c∈[A.mp],c∈A.av:=fun c hc=>by rw[List.mem_singleton] at hc;rw[hc];exact hO.1
   have hT2:∀ c∈[A.mb],c∈A.av:=fun c hc=>by rw[List.mem_singleton] at hc;rw[hc];exact hO.2.1
   have stepX:∀ {M1 M2:aC} {S1:Ps} {C1:aQ} {m1:List iC} {c0:Nat},FR A M1 S1 C1 m1→aE M1 M2 [c0]→c0∈A.av→c0∉A.wr→FR A M2 S1 C1 m1:=fun {M1 M2 S1 C1 m1 c0} hr1 hk1 h1 h2=>by
    refine hr1.keepS hk1 fun c hc=>?_
    rw[List.mem_singleton] at hc
    subst hc
    refine⟨h2,fun hm=>hr1.fsx _ hm h1,fun q hq hm=>?_⟩
    obtain⟨_,_,_,_,_,_,_,_,e6⟩:=hr1.lnk q hq
    exact e6 _ hm h1
   refine⟨fun rem n Q=>∃ (rem':List (Int×AV)) (bm':List (Int×AV)),rem=mG i64 (fun x:AV=>x) rem'∧(∀ q∈rem',q∈pm)∧(rem'.map (·.1)).Nodup∧FR A Q { R.1 with now:=0 } C61 m61∧jW Q A A.mb bm' (fun k=>if k∈rem'.map (·.1) then (B k).map some else (fD P B k).map some)∧aE (M61.kill A.mp) Q [A.mb],
    ⟨pm,bm,rfl,fun _ h=>h,hp61.nd,stepX hr61 kkill hO.1 w2,?_,⟨kkill.wf,Nat.le_refl _,fun _ _ _=>rfl⟩⟩,?_⟩
   ·have h1:=hb61.keep h61.wf kkill (by simp[w4]) hT1
    refine⟨h1.get,h1.nd,fun q hq=>?_,fun k x hk=>h1.cov k x ?_⟩
    ·rcases h1.ent q hq with⟨a1,a2⟩|⟨d,a1,a2⟩
     ·cases hB:B q.1 with
      | none=>rw[hB] at a2;cases a2
      | some d=>rw[hB] at a2;cases a2
     ·refine .inr ⟨d,?_,a2⟩
      split
      ·exact a1
      ·rename_i hnk
       have hPn:P q.1=none:=by
        cases hpp:P q.1 with
        | none=>rfl
        | some v=>
          obtain⟨q',hq',e'⟩:=hp61.cov _ _ hpp
          exact absurd (List.mem_map.2 ⟨q',hq',e'⟩) hnk
       unfold fD
       rw[hPn]
       exact a1
    ·split at hk
     ·exact hk
     ·rename_i hnk
      have hPn:P k=none:=by
       cases hpp:P k with
       | none=>rfl
       | some v=>
         obtain⟨q',hq',e'⟩:=hp61.cov _ _ hpp
         exact absurd (List.mem_map.2 ⟨q',hq',e'⟩) hnk
      unfold fD at hk
      rw[hPn] at hk
      exact hk
   rintro _ rem Q ⟨rem',bm',rfl,hsub,hnd,hrQ,hbQ,hkQ⟩
   refine⟨fun hnil=>?_,fun i kx vx hi=>?_⟩
   ·have hrm:rem'=[]:=by
     cases rem' with
     | nil=>rfl
     | cons a l=>simp[mG] at hnil
    subst hrm
    have hQlt:A.mp<Q.next:=Nat.lt_of_lt_of_le hmpL hkQ.nxt
    rw[show mW Q (some A.mp,mG i64 (fun x:AV=>x) pm)=Q.put A.mp (.map (mG i64 (fun x:AV=>x) pm)) from rfl]
    have kS:aE Q (Q.put A.mp (.map (mG i64 (fun x:AV=>x) pm))) [A.mp]:=aE.put hkQ.wf hQlt _
    have gS:(Q.put A.mp (.map (mG i64 (fun x:AV=>x) pm))).get A.mp=some (.map (mG i64 (fun x:AV=>x) pm)):=by rw[aC.get_put,if_pos rfl]
    have stQ:Q.get A.ms=some (.map []):=by
     have hms:=h61.wf _ _ h61.stale
     rw[hkQ.old _ (show A.ms<(M61.kill A.mp).next from hms) (by simp;exact fun e=>w5 e.symm),aC.get_kill,if_neg (fun e=>w6 e.symm)]
     exact h61.stale
    have stS:(Q.put A.mp (.map (mG i64 (fun x:AV=>x) pm))).get A.ms=some (.map []):=by rw[aC.get_put,if_neg (fun e=>w6 e.symm)];exact stQ
    have hrS:=stepX hrQ kS hO.1 w2
    have hbS:=hbQ.keep hkQ.wf kS (by simp[w4]) hT1
    generalize Q.put A.mp (.map (mG i64 (fun x:AV=>x) pm))=Q1 at*
    have flS:∀ {Q':aC},FR A Q' { R.1 with now:=0 } C61 m61→aH tb 80 (.ptr A.f 8) Q'=some (.map A.mp,Q')∧aH tb 81 (.ptr A.f 9) Q'=some (.map A.ms,Q'):=fun {Q'} hr'=>⟨aR (dI rR rfl hr'.fl (o:=8) (v:= .map A.mp) rfl),aR (dI aHU rfl hr'.fl (o:=9) (v:= .map A.ms) rfl)⟩
    refine aG cZ ?_
    refine aG xD ?_
    rw[bR]
    refine aG (flS hrS).1 ?_
    refine aG (aGx rR gS) ?_
    have kC:aE Q1 (Q1.put A.mp (.map [])) [A.mp]:=aE.put kS.wf (kS.wf _ _ gS) _
    have hrC:=stepX hrS kC hO.1 w2
    have hbC:=hbS.keep kS.wf kC (by simp[w4]) hT1
    have gC:(Q1.put A.mp (.map [])).get A.mp=some (.map []):=by rw[aC.get_put,if_pos rfl]
    have stC:(Q1.put A.mp (.map [])).get A.ms=some (.map []):=by rw[aC.get_put,if_neg (fun e=>w6 e.symm)];exact stS
    generalize Q1.put A.mp (.map [])=Q2 at*
    refine aG cZ ?_
    refine aG aNj ?_
    rw[bR]
    refine aG (flS hrC).2 ?_
    refine aG (aGx aHU stC) ?_
    have kD:aE Q2 (Q2.put A.ms (.map [])) [A.ms]:=aE.put kC.wf (kC.wf _ _ stC) _
    have hrD:=stepX hrC kD hO.2.2 w3
    have hbD:=hbC.keep kC.wf kD (by simp[w5]) (fun c hc=>by rw[List.mem_singleton] at hc;rw[hc];exact hO.2.2)
    have gD:(Q2.put A.ms (.map [])).get A.mp=some (.map []):=by rw[aC.get_put,if_neg (fun e=>w6 e)];exact gC
    have stD:(Q2.put A.ms (.map [])).get A.ms=some (.map []):=by rw[aC.get_put,if_pos rfl]
    generalize Q2.put A.ms (.map [])=Q3 at*
    have KQ3:aE N Q3 A.mw:=by
     refine ((((((K61.mono (S':=A.mw) fun c hc _=>hwm c hc).trans kkill (fun _ h _=>h) ?_).trans hkQ (fun _ h _=>h) ?_).trans kS (fun _ h _=>h) ?_).trans kC (fun _ h _=>h) ?_).trans kD (fun _ h _=>h) ?_)
     ·exact fun c hc _=>by rw[List.mem_singleton] at hc;subst hc;simp[bI.mw]
     ·exact fun c hc _=>by rw[List.mem_singleton] at hc;subst hc;simp[bI.mw]
     ·exact fun c hc _=>by rw[List.mem_singleton] at hc;subst hc;simp[bI.mw]
     ·exact fun c hc _=>by rw[List.mem_singleton] at hc;subst hc;simp[bI.mw]
     ·exact fun c hc _=>by rw[List.mem_singleton] at hc;subst hc;simp[bI.mw]
    have hfm:FM A Q3 { R.1 with now:=0 } (fun _=>none) (fD P B):=by
     refine⟨⟨C61,m61,hrD⟩,⟨[],gD,List.nodup_nil,fun q hq=>by simp at hq,fun n x hx=>by cases hx⟩,⟨bm',?_⟩,stD⟩
     have:(fun k:Int=>if k∈([]:List (Int×AV)).map (·.1) then (B k).map some else (fD P B k).map some)=fun n=>(fD P B n).map some:=by funext k;simp
     rw[this] at hbD
     exact hbD
    have hpre:=aI6 hq hP (by omega) hep (B:=B) (by rw[hR];exact e)
    rw[hR] at hpre
    have hops2:R.1.ops+1000≤1000000000:=by
     have:=hpre.2.2
     omega
    refine (aF7 hrD (show Pre { R.1 with now:=0 } (nB R.1) by rw[hpre.2.1];exact hpre.1) hops2).mono ?_
    rintro y Q4 ⟨C4,m4,rfl,hr4,k4⟩
    simp only[i64,aJ]
    rw[hflx]
    have h4:=hfm.step k4 ⟨C4,m4,hr4⟩
    refine⟨fun hno=>absurd hno hne,fun _=>⟨by first|trivial|rfl,KQ3.trans k4 (fun _ h _=>h) (fun c hc _=>hwm c hc),fun _=>h4,fun _=> .inr h4⟩⟩
   ·
    obtain⟨q,hqi,e1⟩:∃ q,rem'[i]? =some q∧(kx,vx)=(i64 q.1,q.2):=by
     unfold mG at hi
     rw[List.getElem?_map] at hi
     obtain⟨q,h1,h2⟩:=Option.map_eq_some_iff.1 hi
     exact⟨q,h1,h2.symm⟩
    injection e1 with e1 e2
    subst e1 e2
    have hqm:q∈pm:=hsub q (List.mem_of_getElem? hqi)
    have hpr:=mO hqi
    have hme:(mG i64 (fun x:AV=>x) rem').eraseIdx i=mG i64 (fun x:AV=>x) (rem'.eraseIdx i):=nO _ _ _
    rw[hme]
    have hsub':∀ q'∈rem'.eraseIdx i,q'∈pm:=fun q' h'=>hsub q' (List.mem_of_mem_eraseIdx h')
    have hkp:(rem'.map (·.1)).Perm (q.1::(rem'.eraseIdx i).map (·.1)):=hpr.map _
    have hnd2:=hkp.nodup_iff.1 hnd
    rw[List.nodup_cons] at hnd2
    have hkeys:∀ k,k∈(rem'.eraseIdx i).map (·.1)↔(k∈rem'.map (·.1)∧k≠q.1):=fun k=>by
     rw[hkp.mem_iff,List.mem_cons]
     constructor
     ·intro hk
      exact⟨.inr hk,fun e=>hnd2.1 (e▸hk)⟩
     ·rintro⟨h1|h1,h2⟩
      ·exact absurd h1 h2
      ·exact h1
    simp only[i64,aJ]
    refine aG cZ ?_
    refine aG aDF ?_
    rw[bR]
    have lmb:aH tb 80 (.ptr A.f 7) Q=some (.map A.mb,Q):=aR (dI rR rfl hrQ.fl (o:=7) (v:= .map A.mb) rfl)
    refine aG lmb ?_
    have toQ:∀ d,PgS M61 A q.2 d→PgS Q A q.2 d:=fun d hd=>(hd.keep h61.wf kkill hT1).keep kkill.wf hkQ hT2
    rcases hp61.ent q hqm with⟨e3,e4⟩|⟨d,e4,e5⟩
    ·obtain⟨pm',p1,p2,_⟩:=hbQ.put hkQ.wf hO.2.1 q.1 q.2 none (.inl ⟨e3,rfl⟩)
     refine aG p1 ?_
     rw[e3]
     have e6:cR tb .eql 37 (.tmp 79) (.const (.slice none 0 0)) eR eR (Q.put A.mb (.map (mG i64 (fun x:AV=>x) pm')))=some (.val (.bool true),Q.put A.mb (.map (mG i64 (fun x:AV=>x) pm'))):=aCG
     refine aG e6 ?_
     rw[cK,gU]
     have k1:aE Q (Q.put A.mb (.map (mG i64 (fun x:AV=>x) pm'))) [A.mb]:=aE.put hkQ.wf (hkQ.wf _ _ hbQ.get) _
     have hr1:=stepX hrQ k1 hO.2.1 w1
     have kk1:=hkQ.trans k1 (fun _ h _=>h) (fun _ h _=>h)
     generalize Q.put A.mb (.map (mG i64 (fun x:AV=>x) pm'))=Q1 at*
     refine aG cZ ?_
     refine aG aDF ?_
     rw[bR]
     have lmb1:aH tb 80 (.ptr A.f 7) Q1=some (.map A.mb,Q1):=aR (dI rR rfl hr1.fl (o:=7) (v:= .map A.mb) rfl)
     refine aG lmb1 ?_
     obtain⟨pm2,d1,d2⟩:=aIw p2 k1.wf hO.2.1 (n:=q.1) (x:=none) (by unfold mH;rw[if_pos rfl])
     refine aG d1 ?_
     have k2:aE Q1 (Q1.put A.mb (.map (mG i64 (fun x:AV=>x) pm2))) [A.mb]:=aE.put k1.wf (k1.wf _ _ p2.get) _
     refine⟨rem'.eraseIdx i,pm2,rfl,hsub',hnd2.2,stepX hr1 k2 hO.2.1 w1,?_,kk1.trans k2 (fun _ h _=>h) (fun _ h _=>h)⟩
     have hfun:(fun k:Int=>if k∈(rem'.eraseIdx i).map (·.1) then (B k).map some else (fD P B k).map some)=fun k=>if k=q.1 then none else mH (fun k=>if k∈rem'.map (·.1) then (B k).map some else (fD P B k).map some) q.1 none k:=by
      funext k
      by_cases ek:k=q.1
      ·rw[if_pos ek,if_neg (fun hm=>((hkeys k).1 hm).2 ek)]
       unfold fD
       rw[ek,e4]
       rfl
      ·rw[if_neg ek]
       unfold mH
       rw[if_neg ek]
       dsimp only
       by_cases hm:k∈rem'.map (·.1)
       ·rw[if_pos hm,if_pos ((hkeys k).2 ⟨hm,ek⟩)]
       ·rw[if_neg hm,if_neg (fun h=>hm ((hkeys k).1 h).1)]
     rw[hfun]
     exact d2
    ·obtain⟨pm',p1,p2,_⟩:=hbQ.put hkQ.wf hO.2.1 q.1 q.2 (some d) (.inr ⟨d,rfl,toQ d e5⟩)
     refine aG p1 ?_
     have e6:cR tb .eql 37 (.tmp 79) (.const (.slice none 0 0)) q.2 eR (Q.put A.mb (.map (mG i64 (fun x:AV=>x) pm')))=some (.val (.bool false),Q.put A.mb (.map (mG i64 (fun x:AV=>x) pm'))):=by
      obtain⟨b,o,c1,c2,e',hsl⟩:=e5.2.1
      rw[hsl]
      exact aKo
     refine aG e6 ?_
     rw[cK,gE]
     have k1:aE Q (Q.put A.mb (.map (mG i64 (fun x:AV=>x) pm'))) [A.mb]:=aE.put hkQ.wf (hkQ.wf _ _ hbQ.get) _
     refine⟨rem'.eraseIdx i,pm',rfl,hsub',hnd2.2,stepX hrQ k1 hO.2.1 w1,?_,hkQ.trans k1 (fun _ h _=>h) (fun _ h _=>h)⟩
     have hfun:(fun k:Int=>if k∈(rem'.eraseIdx i).map (·.1) then (B k).map some else (fD P B k).map some)=mH (fun k=>if k∈rem'.map (·.1) then (B k).map some else (fD P B k).map some) q.1 (some d):=by
      funext k
      unfold mH
      by_cases ek:k=q.1
      ·rw[if_pos ek,if_neg (fun hm=>((hkeys k).1 hm).2 ek)]
       unfold fD
       rw[ek,e4]
       rfl
      ·rw[if_neg ek]
       dsimp only
       by_cases hm:k∈rem'.map (·.1)
       ·rw[if_pos hm,if_pos ((hkeys k).2 ⟨hm,ek⟩)]
       ·rw[if_neg hm,if_neg (fun h=>hm ((hkeys k).1 h).1)]
     rw[hfun]
     exact p2
 clear hK28
 simp only[bne_self_eq_false,gE]
 refine aG cZ ?_
 refine aG xD ?_
 rw[bR]
 refine aG h18.lmp ?_
 refine aG (aLr hp18.get) ?_
 rw[aJ]
 unfold mG
 rw[List.length_map]
 by_cases hno:∀ n,P n=none
 ·have:pm=[]:=by
   cases pm with
   | nil=>rfl
   | cons q l=>
     rcases hp.ent q (by simp) with⟨_,a⟩|⟨d,a,_⟩
     ·rw[hno] at a;cases a
     ·rw[hno] at a;cases a
  subst this
  exact key28t hno
 ·have:pm.length≠0:=fun e=>hno fun n=>by
   cases hpp:P n with
   | none=>rfl
   | some v=>
     obtain⟨q',hq',_⟩:=hp.cov _ _ hpp
     rw[List.eq_nil_of_length_eq_zero e] at hq'
     simp at hq'
  have hb:((pm.length:Int)==0)=false:=by
   cases e:((pm.length:Int)==0) with
   | false=>rfl
   | true=>rw[beq_iff_eq] at e;omega
  rw[hb]
  exact key28f hno
end
theorem uV{m:List (Int×Fd)}(hn:(m.map (·.1)).Nodup)(p:Int)(f:Fd)(q:Int×Fd):q∈aAr m p f↔q=(p,f)∨(q∈m∧q.1≠p):=by
 unfold aAr
 cases h:wU m p with
 | none=>
   have hno:=qU h
   simp only[List.mem_append,List.mem_singleton]
   constructor
   ·rintro (h1|h1)
    ·exact .inr ⟨h1,fun e=>hno (List.mem_map.2 ⟨q,h1,e⟩)⟩
    ·exact .inl h1
   ·rintro (h1|⟨h1,_⟩)
    ·exact .inr h1
    ·exact .inl h1
 | some r=>
   have hr:=aAC h
   obtain⟨hlt,hre⟩:=List.getElem?_eq_some_iff.1 hr
   have hmem:(p,r.2)∈m:=List.mem_of_getElem? hr
   simp only
   have e1:m=m.take r.1++(p,r.2)::m.drop (r.1+1):=by
    have h0:=List.take_append_drop r.1 m
    rw[List.drop_eq_getElem_cons hlt,hre] at h0
    exact h0.symm
   have e2:m.set r.1 (p,f)=m.take r.1++(p,f)::m.drop (r.1+1):=by rw[List.set_eq_take_append_cons_drop,if_pos hlt]
   rw[e2]
   have hn':=hn
   rw[e1,List.map_append,List.map_cons,List.nodup_append,List.nodup_cons] at hn'
   obtain⟨_,⟨n1,_⟩,n2⟩:=hn'
   have k1:∀ q∈m.take r.1,q.1≠p:=fun q hq e=>n2 q.1 (List.mem_map.2 ⟨q,hq,rfl⟩) p (by simp) e
   have k2:∀ q∈m.drop (r.1+1),q.1≠p:=fun q hq e=>n1 (List.mem_map.2 ⟨q,hq,e⟩)
   have hm:q∈m↔q∈m.take r.1∨q=(p,r.2)∨q∈m.drop (r.1+1):=by
    conv=>lhs;rw[e1]
    simp only[List.mem_append,List.mem_cons]
   rw[hm,List.mem_append,List.mem_cons]
   constructor
   ·rintro (h1|h1|h1)
    ·exact .inr ⟨.inl h1,k1 q h1⟩
    ·exact .inl h1
    ·exact .inr ⟨.inr (.inr h1),k2 q h1⟩
   ·rintro (h1|⟨h1|h1|h1,h2⟩)
    ·exact .inr (.inl h1)
    ·exact .inl h1
    ·rw[h1] at h2;exact absurd rfl h2
    ·exact .inr (.inr h1)
def dk(last:Int)(t:Tg):Prop:=(t.k=1∨t.k=2)∧t.e≤last
structure aHH (last:Int) (pre:List Fd) (m:List (Int×Fd)):Prop where
 nd:(m.map (·.1)).Nodup
 snd:∀ q∈m,q.2∈pre∧dk last q.2.t∧q.2.t.p=q.1∧∀ g∈pre,dk last g.t→g.t.p=q.1→fW g.t q.2.t=false
 cmp:∀ g∈pre,dk last g.t→∃ q∈m,q.1=g.t.p
theorem aHH.step{last:Int}{pre:List Fd}{m:List (Int×Fd)}(h:aHH last pre m)(x:Fd):aHH last (pre++[x]) (nwS last m x):=by
 unfold nwS
 by_cases hx:dk last x.t
 ·have hc:¬ ((x.t.k≠1∧x.t.k≠2)∨x.t.e>last):=by
   obtain⟨h1,h2⟩:=hx
   omega
  rw[if_neg hc]
  have put:(∀ y,(x.t.p,y)∈m→fW x.t y.t=true)→aHH last (pre++[x]) (aAr m x.t.p x):=fun hn=>by
   refine⟨(vA h.nd).1,fun q hq=>?_,fun g hg hd=>?_⟩
   ·rcases (uV h.nd _ _ q).1 hq with rfl|⟨hq,hne⟩
    ·refine⟨by simp,hx,rfl,fun g hg hd hp=>?_⟩
     rw[List.mem_append,List.mem_singleton] at hg
     rcases hg with hg|rfl
     ·obtain⟨⟨c,y⟩,hy,hyc⟩:=h.cmp g hg hd
      simp only at hyc
      have hcp:c=x.t.p:=by rw[hyc];exact hp
      subst hcp
      exact xT ((h.snd _ hy).2.2.2 g hg hd hp) (hn y hy)
     ·rw[cN];exact .inr ⟨rfl,Int.le_refl _⟩
    ·obtain⟨h1,h2,h3,h4⟩:=h.snd q hq
     refine⟨by simp[h1],h2,h3,fun g hg hd hp=>?_⟩
     rw[List.mem_append,List.mem_singleton] at hg
     rcases hg with hg|rfl
     ·exact h4 g hg hd hp
     ·exact absurd hp.symm hne
   ·rw[List.mem_append,List.mem_singleton] at hg
    rcases hg with hg|rfl
    ·obtain⟨q,hq,e⟩:=h.cmp g hg hd
     by_cases e2:q.1=x.t.p
     ·exact⟨(x.t.p,x),(uV h.nd _ _ _).2 (.inl rfl),by rw[← e,e2]⟩
     ·exact⟨q,(uV h.nd _ _ _).2 (.inr ⟨hq,e2⟩),e⟩
    ·exact⟨_,(uV h.nd _ _ _).2 (.inl rfl),rfl⟩
  cases hl:wU m x.t.p with
  | none=>
    have hno:=qU hl
    exact put fun y hy=>absurd (List.mem_map.2 ⟨_,hy,rfl⟩) hno
  | some r=>
    have hr:=List.mem_of_getElem? (aAC hl)
    have uniq:∀ y,(x.t.p,y)∈m→y=r.2:=fun y hy=>by
     obtain⟨pre',post',e,e1,e2⟩:=jS h.nd hr
     rw[e,List.mem_append,List.mem_cons] at hy
     rcases hy with hy|hy|hy
     ·exact absurd rfl (e1 _ hy)
     ·injection hy
     ·exact absurd rfl (e2 _ hy)
    simp only
    by_cases hnw:fW x.t r.2.t=true
    ·rw[if_pos hnw]
     exact put fun y hy=>by rw[uniq y hy];exact hnw
    ·rw[if_neg hnw]
     refine⟨h.nd,fun q hq=>?_,fun g hg hd=>?_⟩
     ·obtain⟨h1,h2,h3,h4⟩:=h.snd q hq
      refine⟨by simp[h1],h2,h3,fun g hg hd hp=>?_⟩
      rw[List.mem_append,List.mem_singleton] at hg
      rcases hg with hg|rfl
      ·exact h4 g hg hd hp
      ·have hq':(g.t.p,q.2)∈m:=by rw[hp];exact hq
       rw[uniq _ hq']
       simpa using hnw
     ·rw[List.mem_append,List.mem_singleton] at hg
      rcases hg with hg|rfl
      ·exact h.cmp g hg hd
      ·exact⟨_,hr,rfl⟩
 ·have hc:(x.t.k≠1∧x.t.k≠2)∨x.t.e>last:=by
   unfold dk at hx
   by_cases h1:x.t.e>last
   ·exact .inr h1
   ·left
    constructor
    ·intro h2;exact hx ⟨.inl h2,by omega⟩
    ·intro h2;exact hx ⟨.inr h2,by omega⟩
  rw[if_pos hc]
  refine⟨h.nd,fun q hq=>?_,fun g hg hd=>?_⟩
  ·obtain⟨h1,h2,h3,h4⟩:=h.snd q hq
   refine⟨by simp[h1],h2,h3,fun g hg hd hp=>?_⟩
   rw[List.mem_append,List.mem_singleton] at hg
   rcases hg with hg|rfl
   ·exact h4 g hg hd hp
   ·exact absurd hd hx
  ·rw[List.mem_append,List.mem_singleton] at hg
   rcases hg with hg|rfl
   ·exact h.cmp g hg hd
   ·exact absurd hd hx
theorem aKp(last:Int)(l:List Fd):∀ n,n≤l.length→aHH last (l.take n) (nwN last l n)
 | 0,_=>⟨List.nodup_nil,fun q hq=>by simp[nwN] at hq,fun g hg=>by simp at hg⟩
 | n+1,h=>by
   have ih:=aKp last l n (by omega)
   rw[aEr (by omega),List.take_add_one,List.getElem?_eq_getElem (by omega)]
   exact ih.step _
theorem aFu(l:List Fd):aHH (cM l) l (nwF l):=by
 have:=aKp (cM l) l l.length (Nat.le_refl _)
 rw[List.take_length] at this
 exact this
theorem aGJ{S:Ps}(hi:eG S){l:List Fd}(hl:∀ f,f∈l↔f∈fds S){p:Int}(hp:0≤p)(b i:Nat)(v:rO):jG S (p,false) b i v↔bK S b i=some v∧(p,(⟨(b:Int),(i:Int),v.t⟩:Fd))∈nwF l:=by
 have hlast:cM l=bJ S:=vU hl
 have hok:=aFu l
 rw[hlast] at hok
 have kk:∀ b i w,bK S b i=some w→(dk (bJ S) w.t∧w.t.p=p↔dW S w.t=some (p,false)):=fun b i w hw=>by
  have hm:=iJ (hi.tag b i w hw).1
  unfold dW kQ dk
  by_cases h3:w.t.k=3
  ·rw[if_pos h3]
   simp[h3]
   omega
  ·rw[if_neg h3]
   by_cases h4:w.t.e>bJ S
   ·rw[if_pos h4]
    constructor
    ·intro h;omega
    ·intro h;split at h <;> simp at h
   ·rw[if_neg h4]
    simp
    omega
 have inl:∀ b i w,bK S b i=some w→(⟨(b:Int),(i:Int),w.t⟩:Fd)∈l:=fun b i w hw=>(hl _).2 (mem_fds.2 ⟨b,i,w,hw,rfl⟩)
 constructor
 ·rintro⟨h1,h2,h3⟩
  obtain⟨d1,d2⟩:=(kk b i v h1).2 h2
  obtain⟨⟨c,f⟩,hf,hc⟩:=hok.cmp _ (inl b i v h1) d1
  simp only at hc
  have hcp:c=p:=by rw[hc];exact d2
  subst hcp
  obtain⟨s1,s2,s3,s4⟩:=hok.snd _ hf
  obtain⟨b',i',w,hw,e⟩:=mem_fds.1 ((hl _).1 s1)
  simp only at e s2 s3 s4
  subst e
  have n1:=s4 _ (inl b i v h1) d1 d2
  have n2:=h3 b' i' w hw ((kk b' i' w hw).1 ⟨s2,s3⟩)
  rw[cN] at n1 n2
  simp only at n1 n2
  obtain⟨rfl,rfl⟩:=hi.sq.one _ _ _ _ _ _ h1 hw (by omega)
  rw[h1] at hw
  injection hw with hw
  subst hw
  exact⟨h1,hf⟩
 ·rintro⟨h1,hf⟩
  obtain⟨s1,s2,s3,s4⟩:=hok.snd _ hf
  refine⟨h1,(kk b i v h1).1 ⟨s2,s3⟩,fun b' i' u hu hcu=>?_⟩
  obtain⟨u1,u2⟩:=(kk b' i' u hu).2 hcu
  exact s4 _ (inl b' i' u hu) u1 u2
theorem aGz{m:List (Int×Fd)}(hn:(m.map (·.1)).Nodup){p:Int}{f:Fd}(h:(p,f)∈m):ofF m p=f:=by
 unfold ofF
 cases hl:wU m p with
 | none=>exact absurd (List.mem_map.2 ⟨_,h,rfl⟩) (qU hl)
 | some r=>
   have hr:=List.mem_of_getElem? (aAC hl)
   obtain⟨pre',post',e,e1,e2⟩:=jS hn h
   rw[e,List.mem_append,List.mem_cons] at hr
   rcases hr with hr|hr|hr
   ·exact absurd rfl (e1 _ hr)
   ·cases hr;rfl
   ·exact absurd rfl (e2 _ hr)
theorem aMY{S:Ps}(hi:eG S){l:List Fd}(hl:∀ f,f∈l↔f∈fds S){ps:List Int}(hps:ps.Perm ((nwF l).map (·.1)))(f:Fd):
 f∈((ps.map (ofF (nwF l))).filter fun f=>decide (f.t.k=1))↔∃ (b i:Nat) (v:rO),f=⟨b,i,v.t⟩∧jG S (v.t.p,false) b i v∧v.t.k=1:=by
 have hok:=aFu l
 rw[List.mem_filter,List.mem_map,decide_eq_true_eq]
 constructor
 ·rintro⟨⟨p,hp,rfl⟩,hk⟩
  obtain⟨q,hq,rfl⟩:=List.mem_map.1 (hps.mem_iff.1 hp)
  have e:=aGz hok.nd (show (q.1,q.2)∈nwF l from hq)
  rw[e] at hk ⊢
  obtain⟨s1,s2,s3,s4⟩:=hok.snd q hq
  obtain⟨b,i,w,hw,e'⟩:=mem_fds.1 ((hl _).1 s1)
  have hwp:w.t.p=q.1:=by rw[← s3,e']
  have h0:=(iJ (hi.tag b i w hw).1).2.2.2.1
  refine⟨b,i,w,e',(aGJ hi hl h0 b i w).2 ⟨hw,?_⟩,by rw[e'] at hk;exact hk⟩
  rw[hwp,← e'];exact hq
 ·rintro⟨b,i,v,rfl,hb,hk⟩
  have h0:=(iJ (hi.tag b i v hb.1).1).2.2.2.1
  obtain⟨_,hm⟩:=(aGJ hi hl h0 b i v).1 hb
  exact⟨⟨v.t.p,hps.mem_iff.2 (List.mem_map.2 ⟨_,hm,rfl⟩),aGz hok.nd hm⟩,hk⟩
end Go.Proofs.YtlogedcoiogagaaGreat
