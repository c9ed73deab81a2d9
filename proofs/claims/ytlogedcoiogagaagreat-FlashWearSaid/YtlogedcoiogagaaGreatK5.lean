import Derived.Test.YtlogedcoiogagaaGreatK3
import Derived.Test.YtlogedcoiogagaaGreatK4
set_option linter.unusedSimpArgs false
set_option linter.unusedVariables false
set_option linter.unusedSectionVars false
set_option maxRecDepth 100000
namespace Go.Proofs.YtlogedcoiogagaaGreat
open Go.AM
def oX(S:Ps):Int:=if (decide (first1 (xOpen S) (nB S)<0)&&decide ((freeN S:Int)>target S))=true then xFresh S else first1 (xOpen S) (nB S)
theorem plcL_step(k:Nat)(S:Ps):plcL (k+1) S=if oX S≥0 then (S,oX S,0) else (if (collectX S).2≠0 then ((collectX S).1, -1,(collectX S).2) else plcL k (collectX S).1):=rfl
theorem oX_ge{S:Ps}(h:Pre S 0)(hp:Prog S):0≤oX S:=by
 unfold oX
 have hph:=phi_eq S
 have hlost:=h.lost
 obtain⟨f1,f2⟩:=first1_spec (xOpen S) (nB S)
 by_cases hn:first1 (xOpen S) (nB S)<0
 ·have h3:3+S.g.sp≤phi S:=by
   rcases hp with⟨b,hb,hob⟩|hp
   ·have:=f1 hn b hb
    rw[this] at hob;cases hob
   ·exact hp
  obtain⟨g1,g2,g3⟩:=fresh_some (S:=S) (by omega)
  have hc:(decide (first1 (xOpen S) (nB S)<0)&&decide ((freeN S:Int)>target S))=true:=by
   rw[Bool.and_eq_true,decide_eq_true_eq,decide_eq_true_eq]
   unfold target
   exact⟨hn,by omega⟩
  rw[if_pos hc]
  exact g1
 ·have hc:¬ ((decide (first1 (xOpen S) (nB S)<0)&&decide ((freeN S:Int)>target S))=true):=by
   rw[Bool.and_eq_true,decide_eq_true_eq]
   exact fun h=>hn h.1
  rw[if_neg hc]
  omega
theorem oX_lt{S:Ps}(h:Pre S 0)(hn:¬ oX S≥0):(∀ b,b<nB S→xOpen S b=false)∧(freeN S:Int)≤target S:=by
 unfold oX at hn
 have hph:=phi_eq S
 have hlost:=h.lost
 obtain⟨f1,f2⟩:=first1_spec (xOpen S) (nB S)
 by_cases hc:(decide (first1 (xOpen S) (nB S)<0)&&decide ((freeN S:Int)>target S))=true
 ·rw[if_pos hc] at hn
  rw[Bool.and_eq_true,decide_eq_true_eq,decide_eq_true_eq] at hc
  unfold target at hc
  obtain⟨g1,_⟩:=fresh_some (S:=S) (by omega)
  omega
 ·rw[if_neg hc] at hn
  rw[Bool.and_eq_true,decide_eq_true_eq,decide_eq_true_eq] at hc
  have h1:first1 (xOpen S) (nB S)<0:=by omega
  exact⟨f1 h1,by
   by_cases h2:(freeN S:Int)>target S
   ·exact absurd ⟨h1,h2⟩ hc
   ·omega⟩
theorem first1_congr{is js:Nat→Bool}:∀ {n:Nat},(∀ k,k<n→is k=js k)→first1 is n=first1 js n
 | 0,_=>rfl
 | n+1,h=>by rw[first1,first1,first1_congr fun k hk=>h k (by omega),h n (by omega)]
section
variable {A:Adr} {M:Mem} {S:Ps} {C:Chip} {m:List Fnd}
def plcA(r:Ps×Int×Int):AV:=if r.2.2=0 then .tup [placeA r.2.1 (xUsed r.1 r.2.1.toNat:Int),i64 0] else .tup [placeA 0 0,i64 r.2.2]
theorem j_place(h:FR A M S C m)(h0:Pre S (nB S+1))(ho:S.ops+3000≤1000000000):
 CallA tb.P 120 [.ptr A.f 0] M fun y N=>∃ C' m',y=plcA (placeX S)∧FR A N (placeX S).1 C' m'∧Keep M N A.wr:=by
 have hg:=h.geo
 have hop0:=h0.ops
 have hpost:=plc_ok h0
 have hk2:2≤nB S*nG S:=by
  have:8*4≤nB S*nG S:=Nat.mul_le_mul (by omega) (by omega)
  omega
 have hmax:nB S*nG S≤160:=by
  have:nB S*nG S≤20*8:=Nat.mul_le_mul (by omega) (by omega)
  omega
 refine F120_ok ?_
 unfold F120
 refine lZi fun M1 hM1=>?_
 have e1:M1=M.new (.cells [.ptr A.f 0] true):=hM1
 have k1:Keep M M1 []:=by rw[e1];exact Keep.new h.wf _
 have g1:M1.get M.next=some (.cells [.ptr A.f 0] true):=by rw[e1];exact get_new _ _
 have n1:M1.next=M.next+1:=by rw[e1];rfl
 clear hM1 e1
 refine lZi fun M2 hM2=>?_
 have e2:M2=M1.new (.cells [i64 0,i64 0] true):=hM2
 have k2:Keep M M2 []:=k1.trans0 (by rw[e2];exact Keep.new k1.wf _)
 have g2:M2.get M1.next=some (.cells [i64 0,i64 0] true):=by rw[e2];exact get_new _ _
 have g2':M2.get M.next=some (.cells [.ptr A.f 0] true):=by rw[e2,Mem.get_new,if_neg (by omega)];exact g1
 clear hM2 e2
 have hX:=h.aside (T:=[M1.next]) (fun c hc=>by rw[List.mem_singleton] at hc;omega)
 have hwlt:∀ c∈A.wr,c<M.next:=h.lt
 have eA:∃ A':Adr,FR A' M S C m∧A'.f=A.f∧A'.p=A.p∧A'.wr=A.wr∧M1.next∈A'.ext∧∀ {N:Mem} {S:Ps} {C:Chip} {m:List Fnd},FR A' N S C m→FR A N S C m:=
  ⟨_,hX,rfl,rfl,rfl,by simp,fun h=>h.back⟩
 obtain⟨A',hX,eAf,eAp,eAw,eAx,eAb⟩:=eA
 have h2:=hX.post k2
 have lq:∀ N,N.get M.next=some (.cells [.ptr A.f 0] true)→eLd tb 30 (.ptr M.next 0) N=some (.ptr A'.f 0,N):=fun N hg=>by rw[eAf];exact lZs (lZc ty30 rfl hg rfl)
 refine bZi (lq _ g2') ?_
 refine bZi eZn ?_
 refine bZi fa_g ?_
 rw[zZp]
 refine bZi h2.lbl ?_
 rw[zZi]
 refine bZi (lq _ g2') ?_
 refine bZi eZn ?_
 refine bZi fa_g ?_
 rw[zZp]
 refine bZi h2.lpg ?_
 rw[zZi]
 have em:iMul .i64 (nB S:Int) (nG S:Int)=((nB S*nG S:Nat):Int):=by
  rw[Int.natCast_mul]
  have:((nB S:Int)*(nG S:Int))=((nB S*nG S:Nat):Int):=by rw[Int.natCast_mul]
  exact wrap_i64' (by omega) (by omega)
 rw[em]
 have fin:∀ (N:Mem) (x y:Int) (e:AV) (S1:Ps) (C1:Chip) (m1:List Fnd) (K:AV×Mem→Prop),FR A' N S1 C1 m1→Keep M N A.wr→(∃ cs,N.get M1.next=some (.cells cs true)∧cs.length=2)→(∀ N',FR A N' S1 C1 m1→Keep M N' A.wr→bindO (eRes tb [.c 85 (.ptr M1.next 0),.v e] N') (fun x'=>x'= .tup [placeA x y,e])→K (uZa,N'))→bindO (eSt tb 85 (.ptr M1.next 0) (placeA x y) N) K:=by
  rintro N x y e S1 C1 m1 K hN hk ⟨cs,hg,hl⟩ hK
  refine bZi (place_stE x y hg hl) ?_
  have kp:Keep N (N.put M1.next (.cells [i64 x,i64 y] true)) [M1.next]:=Keep.put hN.wf (hN.wf _ _ hg) _
  have h1wr:M1.next∉A.wr:=fun hm=>by have:=hwlt _ hm;omega
  refine hK _ (eAb (hN.keepX kp fun c hc=>?_)) (hk.trans kp (fun _ h _=>h) (fun c hc hlt=>by rw[List.mem_singleton] at hc;omega)) ?_
  ·rw[List.mem_singleton] at hc
   subst hc
   exact⟨eAx,by rw[eAw];exact h1wr⟩
  ·exact bZi (place_res (by rw[Mem.get_put,if_pos rfl])) rfl
 refine⟨fun z n N=>∃ (k:Nat) (S1:Ps) (C1:Chip) (m1:List Fnd),z=k∧n=2-k∧FR A' N S1 C1 m1∧Keep M N A.wr∧plcL (nB S*nG S-k) S1=placeX S∧N.get M.next=some (.cells [.ptr A.f 0] true)∧(∃ cs,N.get M1.next=some (.cells cs true)∧cs.length=2)∧((k=0∧S1=S)∨(k=1∧Prog S1∧Pre S1 0∧nB S1=nB S)),
  ⟨_,0,S,C,m,rfl,rfl,h2,k2.mono (by simp),rfl,g2',⟨_,g2,rfl⟩,.inl ⟨rfl,rfl⟩⟩,?_⟩
 rintro _ z n N ⟨k,S1,C1,m1,rfl,rfl,hN,hkN,hres,gN,gN',hkS⟩
 have hk1:k≤1:=by rcases hkS with⟨h,_⟩|⟨h,_⟩ <;> omega
 have hnb:nB S1=nB S:=by rcases hkS with⟨_,rfl⟩|⟨_,_,_,h⟩;exact rfl;exact h
 have hpre1:Pre S1 0:=by
  rcases hkS with⟨_,rfl⟩|⟨_,_,h,_⟩
  ·exact⟨h0.inv,h0.lost,h0.phi,by omega⟩
  ·exact h
 rw[decide_eq_true (by omega:(k:Int)<((nB S*nG S:Nat):Int)),cZt]
 have hsub:nB S*nG S-k=(nB S*nG S-(k+1))+1:=by omega
 rw[hsub,plcL_step] at hres
 refine bZi (lq _ gN) ?_
 have gNf:∀ N',Keep N N' []→N'.get M.next=some (.cells [.ptr A'.f 0] true):=fun N' hk=>by rw[eAf];exact hk.get hN.wf gN (by simp)
 refine (j_these hN (is:=xOpen S1) (ask_fn (a:=[]) (cs:=[.ptr M.next 0]) fn150 fun N' b hb hk hN'=>j_open hN' (gNf N' hk) hb)).mono ?_
 rintro x M24 ⟨hx,k24,fx⟩
 have h24:=hN.post k24
 refine (s_index M24 hx.at (by rw[isX_len];have:=h24.geo;omega)).mono ?_
 rintro r M26 ⟨rfl,rfl⟩
 rw[isX_len,first1_congr (js:=xOpen S1) fun j hj=>isX_get _ hj]
 simp only[i64,zZi]
 have g24:=k24.get hN.wf gN (by simp)
 have g24':∃ cs,M26.get M1.next=some (.cells cs true)∧cs.length=2:=by
  obtain⟨cs,h1,h2⟩:=gN'
  exact⟨cs,k24.get hN.wf h1 (by simp),h2⟩
 have hk24:Keep M M26 A.wr:=hkN.trans k24 (fun _ h _=>h) (by simp)
 refine lZi fun K48 hK48=>?_
 have key48:∀ (z:Int) (N2:Mem),Keep M26 N2 []→z=oX S1→K48 z N2:=by
  intro z N2 kN2 hz
  rw[hK48,hz]
  clear hK48
  have hN2:=h24.post kN2
  have gN2:=kN2.get h24.wf g24 (by simp)
  have gN2':∃ cs,N2.get M1.next=some (.cells cs true)∧cs.length=2:=by
   obtain⟨cs,h1,h2⟩:=g24'
   exact⟨cs,kN2.get h24.wf h1 (by simp),h2⟩
  have hkN2:Keep M N2 A.wr:=hk24.trans kN2 (fun _ h _=>h) (by simp)
  refine cZi (fun e=>?_) (fun e=>?_)
  ·have e:=of_decide_eq_true e
   rw[if_pos e] at hres
   rw[← hres] at hpost ⊢
   rcases hpost.code with⟨_,_,_,q1,q2,_⟩|⟨q,_⟩
   rotate_left
   ·cases q
   obtain⟨o,hoo⟩:∃ o:Nat,oX S1=o:=⟨_,(Int.toNat_of_nonneg e).symm⟩
   refine bZi (lq _ gN2) ?_
   refine bZi eZn ?_
   refine bZi fa_chip ?_
   rw[zZp]
   refine bZi hN2.ldp ?_
   have q2:oX S1<nB S1:=q2
   rw[hoo] at q2 ⊢
   refine (j_used hN2 (b:=o) (by omega)).mono ?_
   rintro r N3 ⟨rfl,kN3⟩
   simp only[i64,zZi]
   refine fin N3 (o:Int) (xUsed S1 o:Int) (i64 0) S1 C1 m1 _ (hN2.post kN3) (hkN2.trans kN3 (fun _ h _=>h) (by simp)) ?_ ?_
   ·obtain⟨cs,h1,h2⟩:=gN2'
    exact⟨cs,kN3.get hN2.wf h1 (by simp),h2⟩
   ·intro N4 h4 hk4 hres4
    unfold bindO at hres4 ⊢
    cases he:eRes tb [.c 85 (.ptr M1.next 0),.v (i64 0)] N4 with
    | none=>rw[he] at hres4;exact hres4.elim
    | some v=>
      rw[he] at hres4
      simp only[i64] at he
      rw[he]
      refine⟨C1,m1,?_,h4,hk4⟩
      unfold plcA
      rw[if_pos rfl]
      have:v= .tup [placeA (o:Int) (xUsed S1 o:Int),i64 0]:=hres4
      rw[this]
      rfl
  ·have e:=of_decide_eq_false e
   rw[if_neg e] at hres
   obtain⟨q1,q2⟩:=oX_lt hpre1 e
   rcases hkS with⟨hk0,rfl⟩|⟨hk0,hprog,_,_⟩
   rotate_left
   ·exact absurd (oX_ge hpre1 hprog) (by omega)
   obtain⟨cp,cpr⟩:=coll_ok h0 q1 q2
   refine bZi (lq _ gN2) ?_
   refine (j_collect hN2 h0 q1 q2 (by omega)).mono ?_
   rintro r M62 ⟨C',m',rfl,h62,k62⟩
   rw[eAw] at k62
   simp only[i64,zZi]
   have hwr1:M1.next∉A.wr:=fun hm=>by have:=hwlt _ hm;omega
   have hwr0:M.next∉A.wr:=fun hm=>by have:=hwlt _ hm;omega
   have kk:Keep M M62 A.wr:=hkN2.trans k62 (fun _ h _=>h) (fun _ h _=>h)
   have g62':∃ cs,M62.get M1.next=some (.cells cs true)∧cs.length=2:=by
    obtain⟨cs,h1,h2⟩:=gN2'
    exact⟨cs,k62.get hN2.wf h1 hwr1,h2⟩
   refine cZi (fun e3=>?_) (fun e3=>?_)
   ·have e3:(collectX S1).2≠0:=by simpa using e3
    rw[if_pos e3] at hres
    rw[← hres]
    refine fin M62 0 0 (i64 (collectX S1).2) _ C' m' _ h62 kk g62' ?_
    intro N4 h4 hk4 hres4
    unfold bindO at hres4 ⊢
    cases he:eRes tb [.c 85 (.ptr M1.next 0),.v (i64 (collectX S1).2)] N4 with
    | none=>rw[he] at hres4;exact hres4.elim
    | some v=>
      rw[he] at hres4
      simp only[i64] at he
      rw[he]
      refine⟨C',m',?_,h4,hk4⟩
      unfold plcA
      rw[if_neg e3]
      exact hres4
   ·have e3:(collectX S1).2=0:=by simpa using e3
    rw[if_neg (by rw[e3];simp)] at hres
    have hcop:=cp.ops
    rcases cp.code with⟨_,c2,c3,c4,_⟩|⟨c1,_⟩
    ·refine⟨_,by omega,k+1,_,C',m',iInc (by omega),rfl,h62,kk,hres,k62.get hN2.wf gN2 hwr0,g62',.inr ⟨by omega,cpr e3,⟨cp.inv,by rw[cp.env.g];exact c3,by rw[cp.env.g];have:=h0.phi;omega,by omega⟩,cp.env.nB⟩⟩
    ·rw[e3] at c1;cases c1
 clear hK48
 refine lZi fun K40 hK40=>?_
 have key40:∀ (t:Bool) (N2:Mem),Keep M26 N2 []→t=(decide (first1 (xOpen S1) (nB S1)<0)&&decide ((freeN S1:Int)>target S1))→K40 t N2:=by
  intro t N2 kN2 ht
  rw[hK40]
  clear hK40
  have hox:oX S1=if t=true then xFresh S1 else first1 (xOpen S1) (nB S1):=by rw[ht];rfl
  refine cZi (fun e=>?_) (fun e=>?_)
  ·rw[if_pos e] at hox
   refine bZi (lq _ (kN2.get h24.wf g24 (by simp))) ?_
   refine (j_fresh (h24.post kN2)).mono ?_
   rintro r N3 ⟨rfl,kN3⟩
   exact⟨_,_,rfl,key48 _ _ (kN2.trans0 kN3) hox.symm⟩
  ·rw[if_neg (by rw[e];simp)] at hox
   exact key48 _ _ kN2 hox.symm
 clear hK40
 refine cZi (fun e=>?_) (fun e=>⟨trivial,key40 _ _ (Keep.refl h24.wf) (by rw[e];rfl)⟩)
 refine bZi (lq _ g24) ?_
 refine bZi (lq _ g24) ?_
 refine bZi (lq _ g24) ?_
 refine (j_many h24 (is:=xFree S1) (ask_fn fn81 fun N' b hb _ hN'=>j_free hN' hb)).mono ?_
 rintro r M32 ⟨rfl,k32⟩
 simp only[i64,zZi]
 have h32:=h24.post k32
 refine⟨bZi (lq _ (k32.get h24.wf g24 (by simp))) rfl,?_⟩
 refine (j_target h32).mono ?_
 rintro r M36 ⟨rfl,k36⟩
 simp only[i64,zZi]
 exact key40 _ _ (k32.trans0 k36) (by rw[e];rfl)
end
set_option maxRecDepth 100000
section
variable {A:Adr} {M:Mem} {S:Ps} {C:Chip} {m:List Fnd}
theorem putX_eq(S:Ps)(t:Tg)(d:List (BitVec 8)):putX S t d=if (placeX S).2.2≠0 then ((placeX S).1,(placeX S).2.2) else progX (placeX S).1 (placeX S).2.1.toNat { t with e:=(placeX S).1.now } d:=rfl
theorem j_put(h:FR A M S C m)(h0:Pre S (nB S+1))(ho:S.ops+3000≤1000000000){t:Tg}{x:AV}{d:List (BitVec 8)}
 (hok:∀ s:Int,0≤s∧s≤4294967295→okL d t.k t.p s S.now=true) (hd:(d.length:Int)=S.g.by') (hp:t.k≠3→t.p<logG S.g) (he:S.now≤S.ep) (hx:BytesAt M x d) (hone:x.one=true) (hxa:∀ c,inBlk x c→c∉A.av):
 CallA tb.P 86 [.ptr A.f 0,tgA t,x] M fun y N=>∃ C' m',y=i64 (putX S t d).2∧FR A N (putX S t d).1 C' m'∧Keep M N A.wr:=by
 have hg:=h.geo
 have hpost:=plc_ok h0
 have hop:=hpost.ops
 refine F86_ok ?_
 unfold F86
 refine⟨_,_,_,_,rfl,?_⟩
 refine lZi fun M5 hM5=>?_
 have e5:M5=M.new (.cells (tgC t) true):=hM5
 have k5:Keep M M5 []:=by rw[e5];exact Keep.new h.wf _
 have g5:M5.get M.next=some (.cells (tgC t) true):=by rw[e5];exact get_new _ _
 clear hM5 e5
 have hwlt:∀ c∈A.wr,c<M.next:=h.lt
 have hwr:M.next∉A.wr:=fun hm=>by have:=hwlt _ hm;omega
 have eA:∃ A':Adr,FR A' M S C m∧A'.f=A.f∧A'.wr=A.wr∧M.next∈A'.ext∧(∀ {N:Mem} {S:Ps} {C:Chip} {m:List Fnd},FR A' N S C m→FR A N S C m)∧∀ c,inBlk x c→c∉A'.av:=
  ⟨_,h.aside (T:=[M.next]) (fun c hc=>by rw[List.mem_singleton] at hc;omega),rfl,rfl,by simp,fun h=>h.back,fun c hc hm=>by
   simp only[Adr.av,List.mem_append,List.mem_singleton] at hm
   have hlt:=SlAt.blk_lt hx h.wf hc
   rcases hm with hm|hm|hm
   ·exact hxa c hc (by simp only[Adr.av,List.mem_append];exact .inl hm)
   ·omega
   ·exact hxa c hc (by simp only[Adr.av,List.mem_append];exact .inr hm)⟩
 obtain⟨A',hX,eAf,eAw,eAx,eAb,eAd⟩:=eA
 have h5:=hX.post k5
 rw[← eAf]
 refine (j_place h5 h0 ho).mono ?_
 rintro y M7 ⟨C1,m1,rfl,h7,k7⟩
 rw[eAw] at k7
 have g7:=k7.get k5.wf g5 hwr
 have K7:Keep M M7 A.wr:=(k5.mono (S':=A.wr) (by simp)).trans k7 (fun _ h _=>h) (fun _ h _=>h)
 rw[putX_eq]
 have box:∀ (a c:Int),∃ M12:Mem,M7.new (.cells [i64 0,i64 0] true)=M7.new (.cells [i64 0,i64 0] true)∧eSt tb 85 (.ptr M7.next 0) (placeA a c) (M7.new (.cells [i64 0,i64 0] true))=some (uZa,M12)∧Keep M7 M12 []∧M12.get M7.next=some (.cells [i64 a,i64 c] true):=fun a c=>by
  have k11:Keep M7 (M7.new (.cells [i64 0,i64 0] true)) []:=Keep.new h7.wf _
  exact⟨_,rfl,place_stE a c (get_new _ _) rfl,kZn k11 (Nat.le_refl _) (Nat.lt_succ_self _) _,by rw[Mem.get_put,if_pos rfl]⟩
 by_cases hc0:(placeX S).2.2=0
 ·rw[if_neg (by rw[hc0];simp)]
  have hpl:plcA (placeX S)= .tup [placeA (placeX S).2.1 (xUsed (placeX S).1 (placeX S).2.1.toNat:Int),i64 0]:=by unfold plcA;rw[if_pos hc0]
  rw[hpl]
  rcases hpost.code with⟨_,p2,p3,q1,q2,q3,q4,_⟩|⟨q,_⟩
  rotate_left
  ·rw[hc0] at q;cases q
  obtain⟨o,hoo⟩:∃ o:Nat,(placeX S).2.1=o:=⟨_,(Int.toNat_of_nonneg q1).symm⟩
  rw[hoo] at q2 q3 q4 ⊢
  rw[Int.toNat_natCast] at q3 q4 ⊢
  refine⟨_,_,_,rfl,?_⟩
  refine lZi fun M11 hM11=>?_
  obtain⟨M12,_,b1,b2,b3⟩:=box (o:Int) (xUsed (placeX S).1 o:Int)
  rw[show M11=M7.new (.cells [i64 0,i64 0] true) from hM11]
  refine bZi b1 ?_
  simp only[bne_self_eq_false,cZf]
  have h12:=h7.post b2
  have g12:=b2.get h7.wf g7 (by simp)
  have fa8:∀ N,eFA tb 83 (.ptr A'.f 0) 8 N=some (.ptr A'.f 12,N):=fun N=>eFA_some (by unfold eZf;rw[ty83];rfl)
  refine bZi eZn ?_
  refine bZi (fa8 _) ?_
  rw[zZp]
  refine bZi (lZs (lZc ty3 rfl h12.fl (o:=12) (v:=i64 (placeX S).1.now) rfl)) ?_
  simp only[i64,zZi]
  refine bZi (sZs (st_cell ty3 rfl rfl g12 (by simp[tgC]))) ?_
  have hset:(tgC t).set 3 (.val (.int .i64 (placeX S).1.now))=tgC { t with e:=(placeX S).1.now }:=rfl
  rw[hset]
  have hn12:M.next<M12.next:=h12.wf _ _ g12
  have kp:Keep M12 (M12.put M.next (.cells (tgC { t with e:=(placeX S).1.now }) true)) [M.next]:=Keep.put h12.wf hn12 _
  have h19:=h12.keepX kp fun c hc=>by
   rw[List.mem_singleton] at hc
   subst hc
   exact⟨eAx,by rw[eAw];exact hwr⟩
  have g19:(M12.put M.next (.cells (tgC { t with e:=(placeX S).1.now }) true)).get M.next=some (.cells (tgC { t with e:=(placeX S).1.now }) true):=by rw[Mem.get_put,if_pos rfl]
  have n7:M.next<M7.next:=h7.wf _ _ g7
  have b3':(M12.put M.next (.cells (tgC { t with e:=(placeX S).1.now }) true)).get M7.next=some (.cells [i64 (o:Int),i64 (xUsed (placeX S).1 o:Int)] true):=by rw[Mem.get_put,if_neg (by omega)];exact b3
  have K19:Keep M (M12.put M.next (.cells (tgC { t with e:=(placeX S).1.now }) true)) A.wr:=(K7.trans b2 (fun _ h _=>h) (by simp)).trans kp (fun _ h _=>h) (fun c hc hlt=>by rw[List.mem_singleton] at hc;omega)
  generalize M12.put M.next (.cells (tgC { t with e:=(placeX S).1.now }) true)=M19 at*
  refine bZi (lZs (place_ld b3').2.2) ⟨_,_,rfl,?_⟩
  refine bZi (lZs (tag_ld g19).2.2.2.2) ⟨_,_,_,_,rfl,?_⟩
  have hnow:(placeX S).1.now=S.now:=hpost.env.now
  have hgg:(placeX S).1.g=S.g:=hpost.env.g
  have hx19:BytesAt M19 x d:=SlAt.keep hx h.wf K19 fun c hc hm=>hxa c hc (Adr.wr_av hm)
  refine (j_program h19 (t:={ t with e:=(placeX S).1.now }) (by omega) q3 q4 (by omega) (fun s hs=>by simp only;rw[hnow];exact hok s hs) (by rw[hgg];exact hd) (by rw[hgg];exact hp) (by simp only;rw[hnow,hpost.env.ep];exact he) hx19 hone eAd).mono ?_
  rintro y N ⟨C2,m2,rfl,hN,kN⟩
  rw[eAw] at kN
  simp only[i64,zZi]
  exact⟨C2,m2,by trivial,eAb hN,K19.trans kN (fun _ h _=>h) (fun _ h _=>h)⟩
 ·rw[if_pos hc0]
  have hpl:plcA (placeX S)= .tup [placeA 0 0,i64 (placeX S).2.2]:=by unfold plcA;rw[if_neg hc0]
  rw[hpl]
  refine⟨_,_,_,rfl,?_⟩
  refine lZi fun M11 hM11=>?_
  obtain⟨M12,_,b1,b2,b3⟩:=box 0 0
  rw[show M11=M7.new (.cells [i64 0,i64 0] true) from hM11]
  refine bZi b1 ?_
  refine cZi (fun _=>?_) (fun e=>?_)
  ·exact⟨C1,m1,rfl,eAb (h7.post b2),K7.trans b2 (fun _ h _=>h) (by simp)⟩
  ·have e:(placeX S).2.2=0:=by simpa using e
   exact absurd e hc0
end
structure PutPost (S:Ps) (t:Tg) (d:List (BitVec 8)) (r:Ps×Int):Prop where
 inv:PInv r.1
 env:Env S r.1
 ops:S.ops≤r.1.ops∧r.1.ops≤S.ops+9*(nB S+1)+1
 lostM:∀ c,xLost S c=true→xLost r.1 c=true
 code:(r.2=0∧r.1.deg=S.deg∧(lostN r.1:Int)≤S.g.sp∧2+S.g.sp≤phi r.1∧∃ (S1:Ps) (o:Nat),Same S S1∧Env S S1∧PInv S1∧o<S1.x.length∧r.1=pushX S1 o { t with e:=S.now } d)∨
  (r.2=12∧r.1.deg=true∧S.g.sp<(lostN r.1:Int)∧(Same S r.1∨∃ (S1:Ps) (o:Nat),Same S S1∧Env S S1∧PInv S1∧o<S1.x.length∧r.1={ pushX S1 o { t with e:=S.now } d with deg:=true }))
theorem putX_def(S:Ps)(t:Tg)(d:List (BitVec 8)):putX S t d=if (placeX S).2.2≠0 then ((placeX S).1,(placeX S).2.2) else progX (placeX S).1 (placeX S).2.1.toNat { t with e:=(placeX S).1.now } d:=rfl
theorem put_ok{S:Ps}(h:Pre S (nB S+1)){t:Tg}{d:List (BitVec 8)}(hok:∀ s:Int,0≤s∧s≤4294967295→okL d t.k t.p s S.now=true)(hd:(d.length:Int)=S.g.by')(hp:t.k≠3→t.p<logG S.g)(he:S.now≤S.ep):PutPost S t d (putX S t d):=by
 have hpl:=plc_ok h
 have hop:=hpl.ops
 have hop0:=h.ops
 have hseq:=hpl.inv.seq
 rw[putX_def]
 rcases hpl.code with⟨c1,c2,c3,q1,q2,q3,q4,q5⟩|⟨c1,c2,c3⟩
 ·rw[if_neg (by rw[c1];simp)]
  obtain⟨o,hoo⟩:∃ o:Nat,(placeX S).2.1=o:=⟨_,(Int.toNat_of_nonneg q1).symm⟩
  rw[hoo] at q2 q3 q4 q5 ⊢
  rw[Int.toNat_natCast] at q3 q4 q5 ⊢
  have hnow:(placeX S).1.now=S.now:=hpl.env.now
  have hg:(placeX S).1.g=S.g:=hpl.env.g
  rw[hnow]
  have hx:o<(placeX S).1.x.length:=by rw[hpl.inv.len];omega
  have hinv:PInv (pushX (placeX S).1 o { t with e:=S.now } d):=hpl.inv.push (t:={ t with e:=S.now }) (by omega) q3 q4 (hok _ (by omega)) (by rw[hg];exact hd) (by rw[hg];exact hp) (by simp only;rw[hpl.env.ep];exact he)
  have henv:Env S (pushX (placeX S).1 o { t with e:=S.now } d):=hpl.env.trans ⟨rfl,rfl,rfl,rfl⟩
  have hlm:∀ c,xLost S c=true→xLost (pushX (placeX S).1 o { t with e:=S.now } d) c=true:=fun c hc=>(lost_push _ _ c).2 (hpl.lostM c hc)
  have hops:S.ops≤(pushX (placeX S).1 o { t with e:=S.now } d).ops∧(pushX (placeX S).1 o { t with e:=S.now } d).ops≤S.ops+9*(nB S+1)+1:=by
   show S.ops≤(placeX S).1.ops+1∧(placeX S).1.ops+1≤_
   omega
  unfold progX
  rcases worn_cases (pushX (placeX S).1 o { t with e:=S.now } d) with⟨e,hw⟩|⟨e,hw⟩
  ·rw[e]
   refine⟨hinv,henv,hops,hlm,.inl ⟨rfl,c2,by rw[← henv.g];exact hw,?_,_,o,hpl.same,hpl.env,hpl.inv,hx,rfl⟩⟩
   have hphi:=phi_push (S:=(placeX S).1) (b:=o) (by omega) hx { t with e:=S.now } d
   rw[hg] at q5
   show 2+S.g.sp≤(phi (pushX (placeX S).1 o { t with e:=S.now } d):Int)
   rcases q5 with⟨u1,u2⟩|⟨u1,u2⟩
   ·have hfl:xFL (placeX S).1 o=false:=by
     unfold xFL
     rw[q3,Bool.false_or]
     simp;omega
    rw[hfl] at hphi
    simp only[Bool.false_eq_true,if_false] at hphi
    split at hphi <;> omega
   ·have hfl:xFL (placeX S).1 o=true:=by
     unfold xFL
     rw[q3,Bool.false_or,u1]
     rfl
    rw[hfl] at hphi
    simp only[if_true] at hphi
    split at hphi <;> omega
  ·rw[e]
   exact⟨hinv.deg true,henv.trans ⟨rfl,rfl,rfl,rfl⟩,hops,hlm,.inr ⟨rfl,rfl,by rw[← henv.g];exact hw,.inr ⟨_,o,hpl.same,hpl.env,hpl.inv,hx,rfl⟩⟩⟩
 ·rw[if_pos (by rw[c1];simp)]
  exact⟨hpl.inv,hpl.env,⟨hop.1,by show (placeX S).1.ops≤_;omega⟩,hpl.lostM,.inr ⟨c1,c2,c3,.inl hpl.same⟩⟩
theorem new_last{S:Ps}{b:Nat}(hb:b<S.x.length){t:Tg}(hk:t.k≠3)(d:List (BitVec 8)):lastX (pushX S b t d)=lastX S:=by
 obtain⟨h1,h2,h3⟩:=lastX_spec S
 refine lastX_eq (fun b' i' u hu hk'=>?_) h2 ?_
 ·rw[verAt_push hb] at hu
  split at hu
  ·injection hu with hu
   subst hu
   exact absurd hk' hk
  ·exact h1 _ _ _ hu hk'
 ·refine h3.imp id fun⟨b',i',u,hu,hk',e⟩=>⟨b',i',u,?_,hk',e⟩
  rw[verAt_push hb,if_neg]
  ·exact hu
  ·rintro⟨rfl,rfl⟩
   have:=verAt_used hu;omega
theorem new_best{S:Ps}(hs:Seqs S){b:Nat}(hb:b<S.x.length){t:Tg}(hk:t.k≠3)(hp:0≤t.p)(he:t.e=S.now)(hn:lastX S<S.now)(d:List (BitVec 8))(c:Int×Bool)(b' i':Nat)(u:Ver):
 Best (pushX S b t d) c b' i' u↔(if c=(t.p,true) then b'=b∧i'=xUsed S b∧u=⟨{ t with s:=S.seq+1 },d⟩ else Best S c b' i' u):=by
 have hl:=new_last hb hk d
 have hc:∀ v,cls (pushX S b t d) v=cls S v:=fun v=>by unfold cls;rw[hl];rfl
 have hct:∀ s:Int,cls S { t with s:=s }=some (t.p,true):=fun s=>by
  unfold cls clsF
  simp only
  rw[if_neg hk,if_pos (by omega),if_pos he]
 have hold:∀ b1 i1 w,verAt S b1 i1=some w→¬ (b1=b∧i1=xUsed S b):=fun b1 i1 w hw hh=>by
  have:=verAt_used hw
  rw[hh.1] at this
  omega
 have hclass:∀ {w:Ver},cls S w.t=some (t.p,true)→w.t.e=S.now:=fun {w} hw=>by
  unfold cls clsF at hw
  by_cases h3:w.t.k=3
  ·rw[if_pos h3] at hw
   injection hw with hw
   injection hw with h1 h2
   omega
  ·rw[if_neg h3] at hw
   by_cases h4:w.t.e>lastX S
   ·rw[if_pos h4] at hw
    by_cases h5:w.t.e=S.now
    ·exact h5
    ·rw[if_neg h5] at hw;cases hw
   ·rw[if_neg h4] at hw
    injection hw with hw
    injection hw with _ hw
    cases hw
 unfold Best
 simp only[hc]
 by_cases e:c=(t.p,true)
 ·subst e
  rw[if_pos rfl]
  constructor
  ·rintro⟨h1,h2,h3⟩
   have h4:=h3 b (xUsed S b) ⟨{ t with s:=S.seq+1 },d⟩ (by rw[verAt_push hb,if_pos ⟨rfl,rfl⟩]) (hct _)
   rw[verAt_push hb] at h1
   split at h1
   ·rename_i hh
    injection h1 with h1
    exact⟨hh.1,hh.2,h1.symm⟩
   ·exfalso
    have h5:=hclass h2
    have h6:=hs.le _ _ _ h1
    rw[newer_not] at h4
    simp only at h4
    omega
  ·rintro⟨rfl,rfl,rfl⟩
   refine⟨by rw[verAt_push hb,if_pos ⟨rfl,rfl⟩],hct _,fun b1 i1 w hw hcw=>?_⟩
   rw[verAt_push hb] at hw
   split at hw
   ·injection hw with hw
    subst hw
    rw[newer_not];right;exact⟨rfl,Int.le_refl _⟩
   ·have h5:=hclass hcw
    have h6:=hs.le _ _ _ hw
    rw[newer_not]
    simp only
    omega
 ·rw[if_neg e]
  constructor
  ·rintro⟨h1,h2,h3⟩
   rw[verAt_push hb] at h1
   split at h1
   ·injection h1 with h1
    subst h1
    have:=(hct (S.seq+1)).symm.trans h2
    injection this with this
    exact absurd this.symm e
   ·refine⟨h1,h2,fun b1 i1 w hw hcw=>h3 b1 i1 w ?_ hcw⟩
    rw[verAt_push hb,if_neg (hold _ _ _ hw)]
    exact hw
  ·rintro⟨h1,h2,h3⟩
   refine⟨by rw[verAt_push hb,if_neg (hold _ _ _ h1)];exact h1,h2,fun b1 i1 w hw hcw=>?_⟩
   rw[verAt_push hb] at hw
   split at hw
   ·injection hw with hw
    subst hw
    have:=(hct (S.seq+1)).symm.trans hcw
    injection this with this
    exact absurd this.symm e
   ·exact h3 b1 i1 w hw hcw
theorem new_has{S:Ps}(hs:Seqs S){b:Nat}(hb:b<S.x.length){t:Tg}(hk:t.k≠3)(hp:0≤t.p)(he:t.e=S.now)(hn:lastX S<S.now)(d:List (BitVec 8))(c:Int×Bool)(k p e:Int)(d':List (BitVec 8)):
 Has (pushX S b t d) c k p e d'↔(if c=(t.p,true) then k=t.k∧p=t.p∧e=t.e∧d'=d else Has S c k p e d'):=by
 unfold Has
 simp only[new_best hs hb hk hp he hn d]
 by_cases h:c=(t.p,true)
 ·rw[if_pos h]
  simp only[h,if_true]
  constructor
  ·rintro⟨_,_,v,⟨rfl,rfl,rfl⟩,rfl,rfl,rfl,rfl⟩
   exact⟨rfl,rfl,rfl,rfl⟩
  ·rintro⟨rfl,rfl,rfl,rfl⟩
   exact⟨_,_,_,⟨rfl,rfl,rfl⟩,rfl,rfl,rfl,rfl⟩
 ·rw[if_neg h]
  simp only[h,if_false]
structure Under (S:Ps):Prop where
 inv:PInv S
 now:S.now=lastX S+1
 ep:S.ep=S.now
theorem com_last{S:Ps}(h:Under S){b:Nat}(hb:b<S.x.length){t:Tg}(hk:t.k=3)(he:t.e=S.now)(d:List (BitVec 8)):lastX (pushX S b t d)=S.now:=by
 obtain⟨h1,h2,h3⟩:=lastX_spec S
 have h4:=h.now
 refine lastX_eq (fun b' i' u hu hk'=>?_) (by omega) (.inr ⟨b,xUsed S b,⟨{ t with s:=S.seq+1 },d⟩,by rw[verAt_push hb,if_pos ⟨rfl,rfl⟩],hk,he⟩)
 rw[verAt_push hb] at hu
 split at hu
 ·injection hu with hu
  subst hu
  show t.e≤_
  omega
 ·have:=h1 _ _ _ hu hk'
  omega
theorem com_best{S:Ps}(h:Under S){b:Nat}(hb:b<S.x.length){t:Tg}(hk:t.k=3)(he:t.e=S.now)(d:List (BitVec 8)){p:Int}(hp:0≤p)(b' i':Nat)(u:Ver):
 Best (pushX S b t d) (p,false) b' i' u↔Best S (p,true) b' i' u∨((∀ b1 i1 w,¬ Best S (p,true) b1 i1 w)∧Best S (p,false) b' i' u):=by
 have hl:=com_last h hb hk he d
 have hnow:=h.now
 have hep:=h.ep
 have htag:=fun b i v hv=>(h.inv.tag b i v hv).2.2.2.2
 have hold:∀ b1 i1 w,verAt S b1 i1=some w→¬ (b1=b∧i1=xUsed S b):=fun b1 i1 w hw hh=>by
  have:=verAt_used hw
  rw[hh.1] at this
  omega
 have c':∀ w:Tg,w.e≤S.now→(cls (pushX S b t d) w=some (p,false)↔w.k≠3∧w.p=p):=fun w hw=>by
  unfold cls clsF
  rw[hl]
  by_cases h3:w.k=3
  ·rw[if_pos h3]
   simp[h3]
   omega
  ·rw[if_neg h3,if_neg (by omega)]
   simp[h3]
 have cF:∀ w:Tg,w.e≤S.now→(cls S w=some (p,false)↔w.k≠3∧w.p=p∧w.e≤lastX S):=fun w hw=>by
  unfold cls clsF
  by_cases h3:w.k=3
  ·rw[if_pos h3]
   simp[h3]
   omega
  ·rw[if_neg h3]
   by_cases h4:w.e>lastX S
   ·rw[if_pos h4]
    split
    ·simp;omega
    ·simp;omega
   ·rw[if_neg h4]
    simp[h3]
    omega
 have cT:∀ w:Tg,w.e≤S.now→(cls S w=some (p,true)↔w.k≠3∧w.p=p∧w.e=S.now):=fun w hw=>by
  unfold cls clsF
  by_cases h3:w.k=3
  ·rw[if_pos h3]
   simp[h3]
   omega
  ·rw[if_neg h3]
   by_cases h4:w.e>lastX S
   ·rw[if_pos h4,if_pos (by omega)]
    simp[h3]
    omega
   ·rw[if_neg h4]
    simp
    omega
 have verp:∀ b1 i1 w,verAt (pushX S b t d) b1 i1=some w→w.t.e≤S.now∧(w.t.k≠3→verAt S b1 i1=some w):=fun b1 i1 w hw=>by
  rw[verAt_push hb] at hw
  split at hw
  ·injection hw with hw
   subst hw
   exact⟨by show t.e≤_;omega,fun hk'=>absurd hk hk'⟩
  ·exact⟨by have:=htag _ _ _ hw;omega,fun _=>hw⟩
 have vers:∀ b1 i1 w,verAt S b1 i1=some w→verAt (pushX S b t d) b1 i1=some w∧w.t.e≤S.now:=fun b1 i1 w hw=>⟨by rw[verAt_push hb,if_neg (hold _ _ _ hw)];exact hw,by have:=htag _ _ _ hw;omega⟩
 constructor
 ·rintro⟨h1,h2,h3⟩
  obtain⟨e1,e2⟩:=verp _ _ _ h1
  obtain⟨k3,kp⟩:=(c' u.t e1).1 h2
  have h1':=e2 k3
  by_cases hf:u.t.e=S.now
  ·left
   refine⟨h1',(cT u.t e1).2 ⟨k3,kp,hf⟩,fun b1 i1 w hw hcw=>?_⟩
   obtain⟨w1,w2⟩:=vers _ _ _ hw
   obtain⟨w3,w4,_⟩:=(cT w.t w2).1 hcw
   exact h3 _ _ _ w1 ((c' w.t w2).2 ⟨w3,w4⟩)
  ·right
   refine⟨fun b1 i1 w hw=>?_,h1',(cF u.t e1).2 ⟨k3,kp,by omega⟩,fun b1 i1 w hw hcw=>?_⟩
   ·obtain⟨w1,w2⟩:=vers _ _ _ hw.1
    obtain⟨w3,w4,w5⟩:=(cT w.t w2).1 hw.2.1
    have:=h3 _ _ _ w1 ((c' w.t w2).2 ⟨w3,w4⟩)
    rw[newer_not] at this
    omega
   ·obtain⟨w1,w2⟩:=vers _ _ _ hw
    obtain⟨w3,w4,_⟩:=(cF w.t w2).1 hcw
    exact h3 _ _ _ w1 ((c' w.t w2).2 ⟨w3,w4⟩)
 ·rintro (⟨h1,h2,h3⟩|⟨hno,h1,h2,h3⟩)
  ·obtain⟨w1,w2⟩:=vers _ _ _ h1
   obtain⟨k3,kp,ke⟩:=(cT u.t w2).1 h2
   refine⟨w1,(c' u.t w2).2 ⟨k3,kp⟩,fun b1 i1 w hw hcw=>?_⟩
   obtain⟨e1,e2⟩:=verp _ _ _ hw
   obtain⟨m3,mp⟩:=(c' w.t e1).1 hcw
   have hw':=e2 m3
   by_cases hf:w.t.e=S.now
   ·exact h3 _ _ _ hw' ((cT w.t e1).2 ⟨m3,mp,hf⟩)
   ·rw[newer_not];omega
  ·obtain⟨w1,w2⟩:=vers _ _ _ h1
   obtain⟨k3,kp,ke⟩:=(cF u.t w2).1 h2
   refine⟨w1,(c' u.t w2).2 ⟨k3,kp⟩,fun b1 i1 w hw hcw=>?_⟩
   obtain⟨e1,e2⟩:=verp _ _ _ hw
   obtain⟨m3,mp⟩:=(c' w.t e1).1 hcw
   have hw':=e2 m3
   by_cases hf:w.t.e=S.now
   ·obtain⟨b2,i2,v2,hb2⟩:=best_ex hw' ((cT w.t e1).2 ⟨m3,mp,hf⟩)
    exact absurd hb2 (hno _ _ _)
   ·exact h3 _ _ _ hw' ((cF w.t e1).2 ⟨m3,mp,by omega⟩)
theorem com_has{S:Ps}(h:Under S){b:Nat}(hb:b<S.x.length){t:Tg}(hk:t.k=3)(he:t.e=S.now)(d:List (BitVec 8)){p:Int}(hp:0≤p)(k q e:Int)(d':List (BitVec 8)):
 Has (pushX S b t d) (p,false) k q e d'↔Has S (p,true) k q e d'∨((∀ k q e d',¬ Has S (p,true) k q e d')∧Has S (p,false) k q e d'):=by
 unfold Has
 simp only[com_best h hb hk he d hp]
 constructor
 ·rintro⟨b1,i1,v,h1|⟨h1,h2⟩,h3⟩
  ·exact .inl ⟨b1,i1,v,h1,h3⟩
  ·refine .inr ⟨?_,b1,i1,v,h2,h3⟩
   rintro k q e d' ⟨b2,i2,w,h4,_⟩
   exact h1 _ _ _ h4
 ·rintro (⟨b1,i1,v,h1,h3⟩|⟨h1,b1,i1,v,h2,h3⟩)
  ·exact⟨b1,i1,v,.inl h1,h3⟩
  ·exact⟨b1,i1,v,.inr ⟨fun b2 i2 w hw=>h1 _ _ _ _ ⟨b2,i2,w,hw,rfl,rfl,rfl,rfl⟩,h2⟩,h3⟩
abbrev Dat:=List (BitVec 8)
def zer(g:Geo):Dat:=List.replicate g.by'.toNat 0#8
def act(P:Int→Option (Option Dat))(B:Int→Option Dat)(z:Dat)(n:Nat):Option (Tg×Dat):=match P n with
 | some (some d)=>some (⟨1,n,0,0⟩,d)
 | some none=>if (B n).isSome=true then some (⟨2,n,0,0⟩,z) else none
 | none=>none
def ptsL(ac:Nat→Option (Tg×Dat)):Nat→Nat→Ps→Ps×Int
 | 0,_,S=>(S,0)
 | k+1,n,S=>match ac n with
   | none=>ptsL ac k (n+1) S
   | some (t,d)=>if (putX S t d).2≠0 then putX S t d else ptsL ac k (n+1) (putX S t d).1
def tgC3:Tg:=⟨3,0,0,0⟩
def putsX(S:Ps)(ac:Nat→Option (Tg×Dat)):Ps×Int:=
 if (ptsL ac (nB S*nG S) 0 S).2≠0 then ptsL ac (nB S*nG S) 0 S else putX (ptsL ac (nB S*nG S) 0 S).1 tgC3 (zer S.g)
def beginX(S:Ps):Ps:={ S with ep:=S.ep+1,now:=S.ep+1 }
def flushX(S:Ps)(ac:Nat→Option (Tg×Dat)):Ps×Int:=
 if (putsX (beginX S) ac).2≠0 then ({ (putsX (beginX S) ac).1 with now:=0 },(putsX (beginX S) ac).2) else levelX { (putsX (beginX S) ac).1 with now:=0 }
theorem cls_now{S:Ps}{x:Int}{t:Tg}{p:Int}:cls { S with now:=x } t=some (p,false)↔cls S t=some (p,false):=by
 have hl:lastX { S with now:=x }=lastX S:=rfl
 unfold cls clsF
 rw[hl]
 by_cases h3:t.k=3
 ·rw[if_pos h3,if_pos h3]
 ·rw[if_neg h3,if_neg h3]
  by_cases h4:t.e>lastX S
  ·rw[if_pos h4,if_pos h4]
   constructor
   ·intro h;split at h <;> simp at h
   ·intro h;split at h <;> simp at h
  ·rw[if_neg h4,if_neg h4]
theorem has_now{S:Ps}{x:Int}{p k q e:Int}{d:Dat}:Has { S with now:=x } (p,false) k q e d↔Has S (p,false) k q e d:=by
 unfold Has Best
 simp only[cls_now]
 exact Iff.rfl
def BaseOk(S:Ps)(B:Int→Option Dat):Prop:=∀ p:Int,0≤p→∀ d,B p=some d↔∃ e,Has S (p,false) 1 p e d
theorem BaseOk.same{S S':Ps}{B:Int→Option Dat}(h:BaseOk S B)(hs:Same S S'):BaseOk S' B:=fun p hp d=>by
 rw[h p hp d]
 exact⟨fun⟨e,he⟩=>⟨e,(hs.has _ _ _ _ _).2 he⟩,fun⟨e,he⟩=>⟨e,(hs.has _ _ _ _ _).1 he⟩⟩
theorem BaseOk.now{S:Ps}{B:Int→Option Dat}(h:BaseOk S B)(x:Int):BaseOk { S with now:=x } B:=fun p hp d=>by
 rw[h p hp d]
 exact⟨fun⟨e,he⟩=>⟨e,has_now.2 he⟩,fun⟨e,he⟩=>⟨e,has_now.1 he⟩⟩
theorem BaseOk.deg{S:Ps}{B:Int→Option Dat}(h:BaseOk S B)(x:Bool):BaseOk { S with deg:=x } B:=h.same (Same.deg S x)
def ovl(P:Int→Option (Option Dat))(B:Int→Option Dat)(n:Int):Option Dat:=match P n with
 | some x=>x
 | none=>B n
structure PendOk (g:Geo) (P:Int→Option (Option Dat)):Prop where
 rng:∀ n x,P n=some x→0≤n∧n<logG g
 len:∀ n d,P n=some (some d)→(d.length:Int)=g.by'
structure Quiet (S:Ps):Prop where
 inv:PInv S
 now:S.now=0
 ep:S.ep=lastX S
 lost:(lostN S:Int)≤S.g.sp
 phi:2+S.g.sp≤phi S
def putK(S:Ps):Int:=9*(nB S+1)+1
structure Pts (S0:Ps) (ac:Nat→Option (Tg×Dat)) (n:Nat) (S:Ps):Prop where
 und:Under S
 env:Env S0 S
 deg:S.deg=S0.deg
 lost:(lostN S:Int)≤S.g.sp
 phi:2+S.g.sp≤phi S
 ops:S0.ops≤S.ops∧S.ops≤S0.ops+putK S0*n
 last:lastX S=lastX S0
 lostM:∀ c,xLost S0 c=true→xLost S c=true
 old:∀ p k q e d,0≤p→(Has S (p,false) k q e d↔Has S0 (p,false) k q e d)
 new:∀ p k q e d,0≤p→(Has S (p,true) k q e d↔∃ t,p<n∧ac p.toNat=some (t,d)∧k=t.k∧q=p∧e=S0.now)
structure ActOk (g:Geo) (now:Int) (ac:Nat→Option (Tg×Dat)):Prop where
 k:∀ n t d,ac n=some (t,d)→(t.k=1∨t.k=2)∧t.p=n∧(n:Int)<logG g∧(d.length:Int)=g.by'
theorem okL_act{g:Geo}(hg:mayG g=true){now:Int}(hn:0≤now∧now≤16777215){k p:Int}{d:Dat}(hk:(k=1∨k=2)∧0≤p∧p<logG g∨k=3∧p=0)(hd:(d.length:Int)=g.by')(s:Int)(hs:0≤s∧s≤4294967295):okL d k p s now=true:=by
 have hm:=mayG_iff.1 hg
 obtain⟨_,h2⟩:=logG_le hg
 have h3:(g.bl-g.sp-3)*g.pg≤20*8:=Int.mul_le_mul (by omega) (by omega) (by omega) (by omega)
 refine okL_of ⟨by omega,by omega,by omega,by omega,by omega,fun _=>by omega,by omega,by omega,by omega,by omega⟩
structure Fell (S0 S:Ps):Prop where
 inv:PInv S
 env:Env S0 S
 deg:S.deg=true
 lost:S.g.sp<(lostN S:Int)
theorem same_under{S S1:Ps}(h:Under S)(hs:Same S S1)(he:Env S S1)(hi:PInv S1):Under S1:=⟨hi,by rw[hs.now,hs.last];exact h.now,by rw[he.ep,hs.now];exact h.ep⟩
theorem pts_step{S0 S:Ps}{ac:Nat→Option (Tg×Dat)}{n:Nat}(h:Pts S0 ac n S)(hac:ActOk S0.g S0.now ac)(hn:0≤S0.now∧S0.now≤16777215)(hops:S0.ops+putK S0*161+1000≤4294967295)(hn160:n<160){t:Tg}{d:Dat}(hat:ac n=some (t,d)):
 ((putX S t d).2=0∧Pts S0 ac (n+1) (putX S t d).1)∨
 ((putX S t d).2=12∧Fell S0 (putX S t d).1∧lastX (putX S t d).1=lastX S0∧(S0.ops≤(putX S t d).1.ops∧(putX S t d).1.ops≤S0.ops+putK S0*(n+1))∧∀ p k q e d',0≤p→(Has (putX S t d).1 (p,false) k q e d'↔Has S0 (p,false) k q e d')):=by
 obtain⟨k1,k2,k3,k4⟩:=hac.k n t d hat
 have hnb:=h.env.nB
 have hg:=h.env.g
 have hnow:=h.env.now
 have hop:=h.ops
 have hge:=h.und.inv.geo
 have hK:putK S0*(n+1:Nat)=putK S0*n+putK S0:=by rw[Int.natCast_add,Int.mul_add];omega
 have hK0:putK S0=9*(nB S0+1)+1:=rfl
 have hKn:putK S0*n≤putK S0*160:=Int.mul_le_mul_of_nonneg_left (by omega) (by omega)
 have hpre:Pre S (nB S+1):=⟨h.und.inv,h.lost,h.phi,by omega⟩
 have hok:∀ s:Int,0≤s∧s≤4294967295→okL d t.k t.p s S.now=true:=fun s hs=>okL_act (g:=S.g) h.und.inv.may (by rw[hnow];exact hn) (.inl ⟨k1,by omega,by rw[hg];omega⟩) (by rw[hg];exact k4) s hs
 have hp:=put_ok hpre hok (by rw[hg];exact k4) (fun _=>by rw[hg,k2];exact k3) (by rw[h.und.ep];omega)
 have hpop:=hp.ops
 have hne3:t.k≠3:=by omega
 have hp0:0≤t.p:=by omega
 have key:∀ (S1:Ps) (o:Nat),Same S S1→Env S S1→PInv S1→o<S1.x.length→
  (lastX (pushX S1 o { t with e:=S.now } d)=lastX S0)∧
  (∀ p k q e d',0≤p→(Has (pushX S1 o { t with e:=S.now } d) (p,false) k q e d'↔Has S0 (p,false) k q e d'))∧
  (∀ p k q e d',0≤p→(Has (pushX S1 o { t with e:=S.now } d) (p,true) k q e d'↔∃ t',p<(n+1:Nat)∧ac p.toNat=some (t',d')∧k=t'.k∧q=p∧e=S0.now)):=by
  intro S1 o hs he hi ho
  have hu1:=same_under h.und hs he hi
  have hn1:S.now=S1.now:=hs.now.symm
  have hlt:lastX S1<S1.now:=by have:=hu1.now;omega
  have hh:=new_has hi.sq ho (t:={ t with e:=S.now }) hne3 hp0 hn1 hlt d
  refine⟨(new_last ho (t:={ t with e:=S.now }) hne3 d).trans (hs.last.trans h.last),fun p k q e d' hp=>?_,fun p k q e d' hp=>?_⟩
  ·rw[hh,if_neg (by intro e;injection e with _ e;cases e),hs.has,h.old _ _ _ _ _ hp]
  ·rw[hh]
   by_cases hpn:p=n
   ·have hpt:((p,true):Int×Bool)=(t.p,true):=by rw[k2,hpn]
    rw[if_pos hpt]
    constructor
    ·rintro⟨rfl,rfl,rfl,rfl⟩
     refine⟨t,by omega,?_,rfl,by show t.p=p;omega,hnow⟩
     rw[hpn,Int.toNat_natCast];exact hat
    ·rintro⟨t',_,e1,e2,e3,e4⟩
     rw[hpn,Int.toNat_natCast,hat] at e1
     injection e1 with e1
     injection e1 with e1 e1'
     subst e1 e1'
     exact⟨e2,by show q=t.p;omega,by rw[e4,← hnow],rfl⟩
   ·rw[if_neg (by intro e;injection e with e _;exact hpn (e.trans k2)),hs.has,h.new _ _ _ _ _ hp]
    constructor
    ·rintro⟨t',h1,h2⟩
     exact⟨t',by omega,h2⟩
    ·rintro⟨t',h1,h2⟩
     exact⟨t',by omega,h2⟩
 rcases hp.code with⟨c1,c2,c3,c4,S1,o,hs,he,hi,ho,hr⟩|⟨c1,c2,c3,hr⟩
 ·left
  obtain⟨a1,a2,a3⟩:=key S1 o hs he hi ho
  rw[← hr] at a1 a2 a3
  refine⟨c1,⟨hp.inv,by rw[hp.env.now,a1,hnow];have:=h.und.now;rw[hnow,h.last] at this;exact this,by rw[hp.env.ep,hp.env.now];exact h.und.ep⟩,h.env.trans hp.env,c2.trans h.deg,by rw[hp.env.g];exact c3,by rw[hp.env.g];exact c4,⟨by omega,by rw[hK];rw[hnb] at hpop;omega⟩,a1,fun c hc=>hp.lostM c (h.lostM c hc),a2,a3⟩
 ·right
  refine⟨c1,⟨hp.inv,h.env.trans hp.env,c2,by rw[hp.env.g];exact c3⟩,?_⟩
  have hops':S0.ops≤(putX S t d).1.ops∧(putX S t d).1.ops≤S0.ops+putK S0*(n+1):=by
   have:putK S0*((n:Int)+1)=putK S0*n+putK S0:=by rw[Int.mul_add];omega
   rw[this];rw[hnb] at hpop;omega
  rcases hr with hr|⟨S1,o,hs,he,hi,ho,hr⟩
  ·exact⟨hr.last.trans h.last,hops',fun p k q e d' hp=>by rw[hr.has,h.old _ _ _ _ _ hp]⟩
  ·obtain⟨a1,a2,a3⟩:=key S1 o hs he hi ho
   have hd:=Same.deg (pushX S1 o { t with e:=S.now } d) true
   refine⟨?_,hops',fun p k q e d' hp=>?_⟩
   ·rw[hr];exact hd.last.trans a1
   ·rw[hr,hd.has,a2 _ _ _ _ _ hp]
theorem Pts.skip{S0 S:Ps}{ac:Nat→Option (Tg×Dat)}{n:Nat}(h:Pts S0 ac n S)(hat:ac n=none):Pts S0 ac (n+1) S:=by
 have hK0:putK S0=9*(nB S0+1)+1:=rfl
 have hK:putK S0*(n+1:Nat)=putK S0*n+putK S0:=by rw[Int.natCast_add,Int.mul_add];omega
 have hop:=h.ops
 refine⟨h.und,h.env,h.deg,h.lost,h.phi,⟨hop.1,by rw[hK];omega⟩,h.last,h.lostM,h.old,fun p k q e d hp=>?_⟩
 rw[h.new _ _ _ _ _ hp]
 constructor
 ·rintro⟨t,h1,h2⟩
  exact⟨t,by omega,h2⟩
 ·rintro⟨t,h1,h2,h3⟩
  refine⟨t,?_,h2,h3⟩
  by_cases e:p=n
  ·rw[e,Int.toNat_natCast,hat] at h2;cases h2
  ·omega
theorem pts_all{S0:Ps}{ac:Nat→Option (Tg×Dat)}(hac:ActOk S0.g S0.now ac)(hn:0≤S0.now∧S0.now≤16777215)(hops:S0.ops+putK S0*161+1000≤4294967295):∀ (k n:Nat) (S:Ps),k+n≤160→Pts S0 ac n S→
 ((ptsL ac k n S).2=0∧Pts S0 ac (k+n) (ptsL ac k n S).1)∨
 ((ptsL ac k n S).2=12∧Fell S0 (ptsL ac k n S).1∧lastX (ptsL ac k n S).1=lastX S0∧(S0.ops≤(ptsL ac k n S).1.ops∧(ptsL ac k n S).1.ops≤S0.ops+putK S0*(k+n:Nat))∧∀ p k' q e d',0≤p→(Has (ptsL ac k n S).1 (p,false) k' q e d'↔Has S0 (p,false) k' q e d'))
 | 0,n,S,_,h=> .inl ⟨rfl,by rw[Nat.zero_add];exact h⟩
 | k+1,n,S,hk,h=>by
   have hadd:k+1+n=k+(n+1):=by omega
   rw[hadd,ptsL]
   cases hat:ac n with
   | none=>exact pts_all hac hn hops k (n+1) S (by omega) (h.skip hat)
   | some td=>
     obtain⟨t,d⟩:=td
     simp only
     rcases pts_step h hac hn hops (by omega) hat with⟨c,hp⟩|⟨c,hf,hl,ho,hh⟩
     ·rw[if_neg (by rw[c];simp)]
      exact pts_all hac hn hops k (n+1) _ (by omega) hp
     ·rw[if_pos (by rw[c];simp)]
      have hK0:putK S0=9*(nB S0+1)+1:=rfl
      have hm:putK S0*((n:Int)+1)≤putK S0*((k+(n+1):Nat):Int):=Int.mul_le_mul_of_nonneg_left (by omega) (by omega)
      exact .inr ⟨c,hf,hl,⟨ho.1,by omega⟩,hh⟩
theorem len_zer{g:Geo}(h:mayG g=true):((zer g).length:Int)=g.by':=by
 have:=mayG_iff.1 h
 unfold zer
 rw[List.length_replicate]
 omega
theorem act_ok{g:Geo}(hg:mayG g=true){now:Int}{P:Int→Option (Option Dat)}{B:Int→Option Dat}(hP:PendOk g P):ActOk g now (act P B (zer g)):=by
 refine⟨fun n t d h=>?_⟩
 unfold act at h
 split at h
 ·rename_i d' e
  injection h with h
  injection h with h1 h2
  subst h1 h2
  have:=hP.rng n _ e
  exact⟨.inl rfl,rfl,this.2,hP.len n _ e⟩
 ·rename_i e
  split at h
  ·injection h with h
   injection h with h1 h2
   subst h1 h2
   have:=hP.rng n _ e
   exact⟨.inr rfl,rfl,this.2,len_zer hg⟩
  ·cases h
 ·cases h
theorem Quiet.begin{S:Ps}{ac:Nat→Option (Tg×Dat)}(h:Quiet S):Under (beginX S)∧Pts (beginX S) ac 0 (beginX S):=by
 have hl:lastX (beginX S)=lastX S:=rfl
 have hep:=h.ep
 have h0:=(lastX_spec S).2.1
 have hu:Under (beginX S):=⟨⟨h.inv.may,h.inv.len,h.inv.pgs,⟨h.inv.sq.le,h.inv.sq.one⟩,fun b i v hv=>by
  obtain⟨a1,a2,a3,a4,a5⟩:=h.inv.tag b i v hv
  exact⟨a1,a2,a3,a4,by show v.t.e≤S.ep+1;omega⟩,h.inv.bad,h.inv.seq,h.inv.cnt⟩,by rw[hl];show S.ep+1=_;omega,rfl⟩
 refine⟨hu,hu,Env.refl _,rfl,h.lost,h.phi,⟨Int.le_refl _,by simp⟩,rfl,fun _ h=>h,fun _ _ _ _ _ _=>Iff.rfl,fun p k q e d hp=>⟨?_,fun⟨t,h1,_⟩=>by omega⟩⟩
 rintro⟨b,i,v,hb,_⟩
 have hv:verAt S b i=some v:=hb.1
 have he:=(h.inv.tag b i v hv).2.2.2.2
 have hc:=hb.2.1
 unfold cls clsF at hc
 rw[hl] at hc
 by_cases h3:v.t.k=3
 ·rw[if_pos h3] at hc
  injection hc with hc
  injection hc with hc _
  omega
 ·rw[if_neg h3,if_neg (by omega)] at hc
  injection hc with hc
  injection hc with _ hc
  cases hc
theorem BaseOk.rng{S:Ps}{B:Int→Option Dat}(h:BaseOk S B)(hi:PInv S){p:Int}(hp:0≤p){d:Dat}(hb:B p=some d):p<logG S.g∧(d.length:Int)=S.g.by':=by
 obtain⟨e,b,i,v,hv,h1,h2,h3,h4⟩:=(h p hp d).1 hb
 obtain⟨_,a2,_,a4,_⟩:=hi.tag b i v hv.1
 rw[h4] at a2
 exact⟨by have:=a4 (by omega);omega,a2⟩
theorem has_begin{S:Ps}{p k q e:Int}{d:Dat}:Has (beginX S) (p,false) k q e d↔Has S (p,false) k q e d:=has_now (S:={ S with ep:=S.ep+1 }) (x:=S.ep+1)
structure FlPost (S:Ps) (P:Int→Option (Option Dat)) (B:Int→Option Dat) (r:Ps×Int):Prop where
 env:r.1.g=S.g∧r.1.fs=S.fs
 inv:PInv r.1
 now:r.1.now=0
 ops:S.ops≤r.1.ops∧r.1.ops≤S.ops+putK S*(nB S*nG S+1:Nat)+9*nB S
 code:(r.2=0∧Quiet r.1∧r.1.deg=S.deg∧r.1.ep=S.ep+1∧BaseOk r.1 (ovl P B))∨
  (r.2=12∧r.1.deg=true∧S.g.sp<(lostN r.1:Int)∧(BaseOk r.1 B∨BaseOk r.1 (ovl P B)))
theorem flush_ok{S:Ps}{P:Int→Option (Option Dat)}{B:Int→Option Dat}(h:Quiet S)(hB:BaseOk S B)(hP:PendOk S.g P)(hops:S.ops+putK S*162+2000≤4294967295)(hep:S.ep+1≤16777215):
 FlPost S P B (flushX S (act P B (zer S.g))):=by
 have hge:=h.inv.geo
 have hnp:nB S*nG S≤160:=by
  have:nB S*nG S≤20*8:=Nat.mul_le_mul (by omega) (by omega)
  omega
 have hK0:putK S=9*(nB S+1)+1:=rfl
 have hKb:putK (beginX S)=putK S:=rfl
 have hnbb:nB (beginX S)=nB S:=rfl
 have hngb:nG (beginX S)=nG S:=rfl
 have hl0:=(lastX_spec S).2.1
 have hseq:=h.inv.seq
 have hnow:0≤(beginX S).now∧(beginX S).now≤16777215:=⟨by show 0≤S.ep+1;have:=h.ep;omega,hep⟩
 have hac:ActOk (beginX S).g (beginX S).now (act P B (zer S.g)):=act_ok h.inv.may hP
 have hall:=pts_all hac hnow (by rw[hKb];show S.ops+_+_≤_;omega) (nB S*nG S) 0 (beginX S) (by omega) (h.begin (ac:=act P B (zer S.g))).2
 rw[Nat.add_zero] at hall
 have hmulK:putK S*((nB S*nG S+1:Nat):Int)=putK S*((nB S*nG S:Nat):Int)+putK S:=by rw[Int.natCast_add,Int.mul_add];omega
 have hmulB:putK S*((nB S*nG S:Nat):Int)≤putK S*160:=Int.mul_le_mul_of_nonneg_left (by omega) (by omega)
 unfold flushX putsX
 rw[hnbb,hngb]
 have hgb:(beginX S).g=S.g:=rfl
 rw[hgb]
 rcases hall with⟨c,hp⟩|⟨c,hf,hl,ho,hh⟩
 rotate_left
 ·
  have hne:(ptsL (act P B (zer S.g)) (nB S*nG S) 0 (beginX S)).2≠0:=by rw[c];simp
  rw[if_pos hne,if_pos hne]
  have hopsF:S.ops≤(ptsL (act P B (zer S.g)) (nB S*nG S) 0 (beginX S)).1.ops∧(ptsL (act P B (zer S.g)) (nB S*nG S) 0 (beginX S)).1.ops≤S.ops+putK S*((nB S*nG S+1:Nat):Int)+9*nB S:=by
   have h1:S.ops≤(ptsL (act P B (zer S.g)) (nB S*nG S) 0 (beginX S)).1.ops:=ho.1
   have h2:(ptsL (act P B (zer S.g)) (nB S*nG S) 0 (beginX S)).1.ops≤S.ops+putK S*((nB S*nG S:Nat):Int):=ho.2
   rw[hmulK]
   omega
  have hlst:S.g.sp<(lostN (ptsL (act P B (zer S.g)) (nB S*nG S) 0 (beginX S)).1:Int):=by
   have:=hf.lost
   rw[hf.env.g] at this
   exact this
  refine⟨⟨hf.env.g,hf.env.fs⟩,⟨hf.inv.may,hf.inv.len,hf.inv.pgs,⟨hf.inv.sq.le,hf.inv.sq.one⟩,hf.inv.tag,hf.inv.bad,hf.inv.seq,hf.inv.cnt⟩,rfl,?_,.inr ⟨c,hf.deg,hlst,.inl ?_⟩⟩
  ·exact hopsF
  ·refine BaseOk.now (fun p hp d=>?_) 0
   rw[hB p hp d]
   exact⟨fun⟨e,he⟩=>⟨e,(hh _ _ _ _ _ hp).2 (has_begin.2 he)⟩,fun⟨e,he⟩=>⟨e,has_begin.1 ((hh _ _ _ _ _ hp).1 he)⟩⟩
 generalize hR:(ptsL (act P B (zer S.g)) (nB S*nG S) 0 (beginX S)).1=R at*
 rw[if_neg (show ¬ ((ptsL (act P B (zer S.g)) (nB S*nG S) 0 (beginX S)).2≠0) by rw[c];simp)]
 have hnbR:nB R=nB S:=hp.env.nB
 have hgR:R.g=S.g:=hp.env.g
 have hnowR:R.now=S.ep+1:=hp.env.now
 have hopR:=hp.ops
 rw[hKb] at hopR
 have hopR':S.ops≤R.ops∧R.ops≤S.ops+putK S*((nB S*nG S:Nat):Int):=hopR
 have hpre:Pre R (nB R+1):=⟨hp.und.inv,hp.lost,hp.phi,by omega⟩
 have hok:∀ s:Int,0≤s∧s≤4294967295→okL (zer S.g) tgC3.k tgC3.p s R.now=true:=fun s hs=>okL_act (g:=S.g) h.inv.may (by rw[hnowR];exact hnow) (.inr ⟨rfl,rfl⟩) (len_zer h.inv.may) s hs
 have hpost:=put_ok hpre hok (by rw[hgR];exact len_zer h.inv.may) (fun hk=>absurd rfl hk) (by rw[hp.und.ep];exact Int.le_refl _)
 have hpop:=hpost.ops
 have key:∀ (S1:Ps) (o:Nat),Same R S1→Env R S1→PInv S1→o<S1.x.length→
  lastX (pushX S1 o { tgC3 with e:=R.now } (zer S.g))=R.now∧BaseOk (pushX S1 o { tgC3 with e:=R.now } (zer S.g)) (ovl P B):=by
  intro S1 o hs he hi ho
  have hu1:=same_under hp.und hs he hi
  have hn1:R.now=S1.now:=hs.now.symm
  refine⟨(com_last hu1 ho (t:={ tgC3 with e:=R.now }) rfl hn1 _).trans hs.now,fun p hp0 d=>?_⟩
  have hc:=fun k q e d'=>com_has hu1 ho (t:={ tgC3 with e:=R.now }) rfl hn1 (zer S.g) hp0 k q e d'
  simp only[hc,hs.has]
  have hnew:=fun k q e d'=>hp.new p k q e d' hp0
  have hold:=fun k q e d'=>hp.old p k q e d' hp0
  have hlt:∀ x,P p=some x→p<((nB S*nG S:Nat):Int):=fun x hx=>by
   have h1:=hP.rng p x hx
   obtain⟨_,h2⟩:=logG_le h.inv.may
   have h3:(S.g.bl-S.g.sp-3)*S.g.pg≤S.g.bl*S.g.pg:=Int.mul_le_mul_of_nonneg_right (by have:=mayG_iff.1 h.inv.may;omega) (by omega)
   rw[hge.1,hge.2.1,← Int.natCast_mul] at h3
   rw[hge.1,hge.2.1] at h2
   omega
  have hpn:((p.toNat:Nat):Int)=p:=Int.toNat_of_nonneg hp0
  have hBS:∀ d,B p=some d↔∃ e,Has (beginX S) (p,false) 1 p e d:=fun d=>by
   rw[hB p hp0 d]
   exact⟨fun⟨e,he⟩=>⟨e,has_begin.2 he⟩,fun⟨e,he⟩=>⟨e,has_begin.1 he⟩⟩
  unfold ovl
  cases hPp:P p with
  | none=>
    have hact:act P B (zer S.g) p.toNat=none:=by unfold act;rw[hpn,hPp]
    have hno:∀ k q e d',¬ Has R (p,true) k q e d':=fun k q e d' hx=>by
     obtain⟨t,_,h2,_⟩:=(hnew k q e d').1 hx
     rw[hact] at h2;cases h2
    simp only
    rw[hBS d]
    constructor
    ·rintro⟨e,he⟩
     exact⟨e,.inr ⟨hno,(hold _ _ _ _).2 he⟩⟩
    ·rintro⟨e,h1|⟨_,h2⟩⟩
     ·exact absurd h1 (hno _ _ _ _)
     ·exact⟨e,(hold _ _ _ _).1 h2⟩
  | some x=>
    have hpl:=hlt x hPp
    cases x with
    | some dd=>
      have hact:act P B (zer S.g) p.toNat=some (⟨1,p,0,0⟩,dd):=by unfold act;rw[hpn,hPp]
      simp only
      constructor
      ·intro h1
       injection h1 with h1
       subst h1
       exact⟨(beginX S).now,.inl ((hnew _ _ _ _).2 ⟨_,hpl,hact,rfl,rfl,rfl⟩)⟩
      ·rintro⟨e,h1|⟨h1,_⟩⟩
       ·obtain⟨t,_,h2,_⟩:=(hnew _ _ _ _).1 h1
        rw[hact] at h2
        injection h2 with h2
        injection h2 with _ h2
        rw[h2]
       ·exact absurd ((hnew _ _ _ _).2 ⟨_,hpl,hact,rfl,rfl,rfl⟩) (h1 _ _ _ _)
    | none=>
      simp only
      constructor
      ·intro h1;cases h1
      ·rintro⟨e,h1|⟨h1,h2⟩⟩
       ·exfalso
        obtain⟨t,_,h2,h3,_⟩:=(hnew _ _ _ _).1 h1
        unfold act at h2
        rw[hpn,hPp] at h2
        simp only at h2
        split at h2
        ·injection h2 with h2
         injection h2 with h2 _
         subst h2
         simp at h3
        ·cases h2
       ·exfalso
        have h3:=(hold _ _ _ _).1 h2
        have hBp:B p=some d:=(hBS d).2 ⟨e,h3⟩
        have hact:act P B (zer S.g) p.toNat=some (⟨2,p,0,0⟩,zer S.g):=by unfold act;rw[hpn,hPp,hBp];rfl
        exact absurd ((hnew _ _ _ _).2 ⟨_,hpl,hact,rfl,rfl,rfl⟩) (h1 _ _ _ _)
 rcases hpost.code with⟨c1,c2,c3,c4,S1,o,hs,he,hi,ho,hr⟩|⟨c1,c2,c3,hr⟩
 ·obtain⟨a1,a2⟩:=key S1 o hs he hi ho
  rw[← hr] at a1 a2
  rw[if_neg (by rw[c1];simp)]
  have hgQ:=hpost.env.g.trans hgR
  have hfsQ:=hpost.env.fs.trans hp.env.fs
  have hnbQ:=hpost.env.nB.trans hnbR
  have hepQ:=hpost.env.ep.trans (hp.und.ep.trans hnowR)
  have hinvQ:=hpost.inv
  clear hpost hr
  generalize (putX R tgC3 (zer S.g)).1=Q at*
  have hi0:PInv { Q with now:=0 }:=⟨hinvQ.may,hinvQ.len,hinvQ.pgs,⟨hinvQ.sq.le,hinvQ.sq.one⟩,hinvQ.tag,hinvQ.bad,hinvQ.seq,hinvQ.cnt⟩
  have hlev:=lev_ok (nB S) { Q with now:=0 } ⟨hi0,by show (lostN Q:Int)≤Q.g.sp;rw[hgQ,← hgR];exact c3,by show 2+Q.g.sp≤(phi Q:Int);rw[hgQ,← hgR];exact c4,by show Q.ops+_+_≤_;omega⟩
  have hlv:levelX { Q with now:=0 }=levL (nB S) { Q with now:=0 }:=by unfold levelX;rw[show nB { Q with now:=0 }=nB S from hnbQ]
  rw[hlv]
  have hlop:=hlev.ops
  have hlop':Q.ops≤(levL (nB S) { Q with now:=0 }).1.ops∧(levL (nB S) { Q with now:=0 }).1.ops≤Q.ops+9*nB S:=hlop
  have hlast0:lastX { Q with now:=0 }=S.ep+1:=by show lastX Q=_;rw[a1,hnowR]
  refine⟨⟨hlev.env.g.trans hgQ,hlev.env.fs.trans hfsQ⟩,hlev.inv,hlev.env.now,⟨by omega,by rw[hmulK];rw[hnbR] at hpop;omega⟩,?_⟩
  have hsp:(levL (nB S) { Q with now:=0 }).1.g.sp=R.g.sp:=by
   rw[hlev.env.g]
   show Q.g.sp=_
   rw[hgQ,hgR]
  rcases hlev.code with⟨d1,d2,d3,d4,_⟩|⟨d1,d2,d3⟩
  ·have d4:phi Q≤phi (levL (nB S) { Q with now:=0 }).1:=d4
   refine .inl ⟨d1,⟨hlev.inv,hlev.env.now,?_,by rw[hlev.env.g];exact d3,by rw[hsp];omega⟩,d2.trans (c2.trans hp.deg),hlev.env.ep.trans hepQ,(a2.now 0).same hlev.same⟩
   rw[hlev.env.ep,hlev.same.last,hlast0]
   exact hepQ
  ·exact .inr ⟨d1,d2,by have d3:Q.g.sp<((lostN (levL (nB S) { Q with now:=0 }).1:Nat):Int):=d3;have h9:Q.g.sp=S.g.sp:=(by rw[hgQ]);omega,.inr ((a2.now 0).same hlev.same)⟩
 ·rw[if_pos (by rw[c1];simp)]
  refine⟨⟨hpost.env.g.trans hgR,hpost.env.fs.trans hp.env.fs⟩,⟨hpost.inv.may,hpost.inv.len,hpost.inv.pgs,⟨hpost.inv.sq.le,hpost.inv.sq.one⟩,hpost.inv.tag,hpost.inv.bad,hpost.inv.seq,hpost.inv.cnt⟩,rfl,⟨by show S.ops≤(putX R tgC3 (zer S.g)).1.ops;omega,by show (putX R tgC3 (zer S.g)).1.ops≤_;rw[hmulK];rw[hnbR] at hpop;omega⟩,.inr ⟨c1,c2,by rw[hgR] at c3;exact c3,?_⟩⟩
  rcases hr with hr|⟨S1,o,hs,he,hi,ho,hr⟩
  ·left
   refine BaseOk.now (fun p hp0 d=>?_) 0
   rw[hB p hp0 d]
   exact⟨fun⟨e,he⟩=>⟨e,(hr.has _ _ _ _ _).2 ((hp.old _ _ _ _ _ hp0).2 (has_begin.2 he))⟩,fun⟨e,he⟩=>⟨e,has_begin.1 ((hp.old _ _ _ _ _ hp0).1 ((hr.has _ _ _ _ _).1 he))⟩⟩
  ·right
   obtain⟨a1,a2⟩:=key S1 o hs he hi ho
   rw[hr]
   exact (a2.deg true).now 0
def nilS:AV:= .val (.slice none 0 0)
theorem mt_page:MT 80 3 37 i64 (fun x:AV=>x) nilS:=by
 obtain⟨ti,h1,h2⟩:=ty80
 refine⟨⟨ti,_,_,h1,h2,ty3,ty37,rfl⟩,fun a b=>?_,fun a=>?_,fun a=>⟨_,rfl,by simp[sameV,sameScalar]⟩⟩
 ·rw[eqA_int]
  by_cases h:a=b
  ·simp[h]
  ·have:(a==b)=false:=by simpa using h
   rw[this];simp[h]
 ·unfold keyOk;rw[ty3]
def PgS(M:Mem)(A:Adr)(x:AV)(d:Dat):Prop:=BytesAt M x d∧(∃ b o n c e,x= .sl b o n c e)∧∀ c,inBlk x c→c∉A.av
theorem PgS.one{M:Mem}{A:Adr}{x:AV}{d:Dat}(h:PgS M A x d):x.one=true:=by
 obtain⟨_,⟨b,o,n,c,e,rfl⟩,_⟩:=h
 rfl
theorem PgS.keep{M N:Mem}{A:Adr}{x:AV}{d:Dat}{T:List Nat}(h:PgS M A x d)(hw:M.WF)(hk:Keep M N T)(hT:∀ c∈T,c∈A.av):PgS N A x d:=
 ⟨SlAt.keep h.1 hw hk fun c hc hm=>h.2.2 c hc (hT c hm),h.2.1,h.2.2⟩
structure MpOk (M:Mem) (A:Adr) (b:Nat) (pm:List (Int×AV)) (P:Int→Option (Option Dat)):Prop where
 get:M.get b=some (.map (mG i64 (fun x:AV=>x) pm))
 nd:(pm.map (·.1)).Nodup
 ent:∀ q∈pm,(q.2=nilS∧P q.1=some none)∨∃ d,P q.1=some (some d)∧PgS M A q.2 d
 cov:∀ n x,P n=some x→∃ q∈pm,q.1=n
theorem MpOk.keep{M N:Mem}{A:Adr}{b:Nat}{pm:List (Int×AV)}{P:Int→Option (Option Dat)}{T:List Nat}(h:MpOk M A b pm P)(hw:M.WF)(hk:Keep M N T)(hb:b∉T)(hT:∀ c∈T,c∈A.av):MpOk N A b pm P:=
 ⟨hk.get hw h.get hb,h.nd,fun q hq=>(h.ent q hq).imp id fun⟨d,h1,h2⟩=>⟨d,h1,h2.keep hw hk hT⟩,h.cov⟩
theorem MpOk.none{M:Mem}{A:Adr}{b:Nat}{pm:List (Int×AV)}{P:Int→Option (Option Dat)}(h:MpOk M A b pm P){n:Int}(hn:P n=none):eLk tb 80 (.map b) (i64 n) true M=some (.tup [nilS,.val (.bool false)],M):=
 lookG_no mt_page h.get (fun q hq e=>by
  rcases h.ent q hq with⟨_,h1⟩|⟨d,h1,_⟩
  ·rw[e,hn] at h1;cases h1
  ·rw[e,hn] at h1;cases h1) true
theorem MpOk.nil{M:Mem}{A:Adr}{b:Nat}{pm:List (Int×AV)}{P:Int→Option (Option Dat)}(h:MpOk M A b pm P){n:Int}(hn:P n=some Option.none):eLk tb 80 (.map b) (i64 n) true M=some (.tup [nilS,.val (.bool true)],M):=by
 obtain⟨⟨n',x⟩,hq,rfl⟩:=h.cov n _ hn
 rcases h.ent _ hq with⟨h1,_⟩|⟨d,h1,_⟩
 ·rw[← h1];exact lookG_yes mt_page h.get h.nd hq true
 ·rw[hn] at h1;cases h1
theorem MpOk.some{M:Mem}{A:Adr}{b:Nat}{pm:List (Int×AV)}{P:Int→Option (Option Dat)}(h:MpOk M A b pm P){n:Int}{d:Dat}(hn:P n=some (some d)):∃ x,eLk tb 80 (.map b) (i64 n) true M=Option.some (.tup [x,.val (.bool true)],M)∧PgS M A x d:=by
 obtain⟨⟨n',x⟩,hq,rfl⟩:=h.cov n _ hn
 rcases h.ent _ hq with⟨_,h1⟩|⟨d',h1,h2⟩
 ·rw[hn] at h1;cases h1
 ·rw[hn] at h1
  injection h1 with h1
  injection h1 with h1
  subst h1
  exact⟨x,lookG_yes mt_page h.get h.nd hq true,h2⟩
def updN(P:Int→Option (Option Dat))(n:Int)(x:Option Dat)(k:Int):Option (Option Dat):=if k=n then some x else P k
theorem MpOk.put{M:Mem}{A:Adr}{b:Nat}{pm:List (Int×AV)}{P:Int→Option (Option Dat)}(h:MpOk M A b pm P)(hw:M.WF)(hb:b∈A.av)(n:Int)(x:AV)(o:Option Dat)(hx:(x=nilS∧o=Option.none)∨∃ d,o=Option.some d∧PgS M A x d):
 ∃ pm',eMU tb 80 (.map b) (i64 n) x M=Option.some (uZa,M.put b (.map (mG i64 (fun x:AV=>x) pm')))∧MpOk (M.put b (.map (mG i64 (fun x:AV=>x) pm'))) A b pm' (updN P n o)∧pm'.length≤pm.length+1:=by
 obtain⟨pm',h1,h2,h3,h4⟩:=putG mt_page h.get h.nd n x
 have hk:Keep M (M.put b (.map (mG i64 (fun x:AV=>x) pm'))) [b]:=Keep.put hw (hw _ _ h.get) _
 have hT:∀ c∈[b],c∈A.av:=fun c hc=>by rw[List.mem_singleton] at hc;rw[hc];exact hb
 refine⟨pm',h1,⟨by rw[Mem.get_put,if_pos rfl],h2,fun q hq=>?_,fun k y hk'=>?_⟩,h4⟩
 ·rcases (h3 q).1 hq with rfl|⟨hq,hne⟩
  ·unfold updN
   simp only[if_true]
   rcases hx with⟨rfl,rfl⟩|⟨d,rfl,hd⟩
   ·exact .inl ⟨rfl,rfl⟩
   ·exact .inr ⟨d,rfl,hd.keep hw hk hT⟩
  ·unfold updN
   rw[if_neg hne]
   exact (h.ent q hq).imp id fun⟨d,e1,e2⟩=>⟨d,e1,e2.keep hw hk hT⟩
 ·unfold updN at hk'
  by_cases e:k=n
  ·exact⟨(n,x),(h3 _).2 (.inl rfl),e.symm⟩
  ·rw[if_neg e] at hk'
   obtain⟨q,hq,e1⟩:=h.cov k y hk'
   exact⟨q,(h3 _).2 (.inr ⟨hq,by rw[e1];exact e⟩),e1⟩
structure FM (A:Adr) (M:Mem) (S:Ps) (P:Int→Option (Option Dat)) (B:Int→Option Dat):Prop where
 fr:∃ C m,FR A M S C m
 pend:∃ pm,MpOk M A A.mp pm P
 base:∃ bm,MpOk M A A.mb bm (fun n=>(B n).map some)
 stale:M.get A.ms=some (.map [])
section
variable {A:Adr} {M:Mem} {S:Ps} {P:Int→Option (Option Dat)} {B:Int→Option Dat}
theorem Adr.maps{A:Adr}(h:A.all.Nodup):(A.mb∉A.wr∧A.mp∉A.wr∧A.ms∉A.wr)∧A.mb≠A.mp∧A.mb≠A.ms∧A.mp≠A.ms:=by
 unfold Adr.all at h
 simp only[List.nodup_cons,List.mem_cons,not_or] at h
 obtain⟨⟨h1,h2,h3,h4,h5⟩,⟨h6,h7,h8,h9⟩,⟨h10,h11,h12⟩,⟨h13,h14⟩,h15,h16⟩:=h
 unfold Adr.wr
 simp only[List.mem_cons,not_or]
 exact⟨⟨⟨fun e=>h2 e.symm,fun e=>h6 e.symm,h12⟩,⟨fun e=>h3 e.symm,fun e=>h7 e.symm,h14⟩,fun e=>h4 e.symm,fun e=>h8 e.symm,h15⟩,h10,h11,h13⟩
theorem FM.wf(h:FM A M S P B):M.WF:=by obtain⟨C,m,hr⟩:=h.fr;exact hr.wf
theorem FM.dis(h:FM A M S P B):A.all.Nodup:=by obtain⟨C,m,hr⟩:=h.fr;exact hr.dis
theorem av_mp:A.mp∈A.av∧A.mb∈A.av∧A.ms∈A.av:=by simp[Adr.av,Adr.all]
theorem FM.step{N:Mem}{S':Ps}(h:FM A M S P B)(hk:Keep M N A.wr)(hr:∃ C m,FR A N S' C m):FM A N S' P B:=by
 obtain⟨⟨n1,n2,n3⟩,_⟩:=Adr.maps h.dis
 obtain⟨pm,hp⟩:=h.pend
 obtain⟨bm,hb⟩:=h.base
 exact⟨hr,⟨pm,hp.keep h.wf hk n2 fun c hc=>Adr.wr_av hc⟩,⟨bm,hb.keep h.wf hk n1 fun c hc=>Adr.wr_av hc⟩,hk.get h.wf h.stale n3⟩
theorem FM.post{N:Mem}(h:FM A M S P B)(hk:Keep M N []):FM A N S P B:=by
 obtain⟨C,m,hr⟩:=h.fr
 exact h.step (hk.mono (by simp)) ⟨C,m,hr.post hk⟩
theorem FM.flA(h:FM A M S P B):M.get A.f=some (.cells (flC (flOf A S)) true):=by obtain⟨C,m,hr⟩:=h.fr;exact hr.fl
theorem fa_mp{f:Nat}{M:Mem}:eFA tb 83 (.ptr f 0) 4 M=some (.ptr f 8,M):=eFA_some (by unfold eZf;rw[ty83];rfl)
theorem fa_mb{f:Nat}{M:Mem}:eFA tb 83 (.ptr f 0) 3 M=some (.ptr f 7,M):=eFA_some (by unfold eZf;rw[ty83];rfl)
theorem fa_ms{f:Nat}{M:Mem}:eFA tb 83 (.ptr f 0) 5 M=some (.ptr f 9,M):=eFA_some (by unfold eZf;rw[ty83];rfl)
theorem fa_dg{f:Nat}{M:Mem}:eFA tb 83 (.ptr f 0) 9 M=some (.ptr f 13,M):=(fl_fa f).2.2.2.2.2.2
theorem FM.lmp(h:FM A M S P B):eLd tb 80 (.ptr A.f 8) M=some (.map A.mp,M):=lZs (lZc ty80' rfl h.flA (o:=8) (v:= .map A.mp) rfl)
theorem FM.lmb(h:FM A M S P B):eLd tb 80 (.ptr A.f 7) M=some (.map A.mb,M):=lZs (lZc ty80' rfl h.flA (o:=7) (v:= .map A.mb) rfl)
theorem FM.lms(h:FM A M S P B):eLd tb 81 (.ptr A.f 9) M=some (.map A.ms,M):=lZs (lZc ty81 rfl h.flA (o:=9) (v:= .map A.ms) rfl)
theorem FM.ldg(h:FM A M S P B):eLd tb 4 (.ptr A.f 13) M=some (.val (.bool S.deg),M):=lZs (lZc ty4 rfl h.flA (o:=13) (v:=bv S.deg) rfl)
theorem sl_eq{b o n c:Nat}{e:Option Nat}{M:Mem}{xo yo:Operand}:eBin tb .eql 37 xo yo (.sl b o n c e) nilS M=some (.val (.bool false),M):=eBin_some (by kernel_rfl)
theorem sl_ne{b o n c:Nat}{e:Option Nat}{M:Mem}{xo yo:Operand}:eBin tb .neq 37 xo yo (.sl b o n c e) nilS M=some (.val (.bool true),M):=eBin_some (by kernel_rfl)
theorem nil_eqS{M:Mem}{xo yo:Operand}:eBin tb .eql 37 xo yo nilS nilS M=some (.val (.bool true),M):=eBin_some (by kernel_rfl)
theorem nil_neS{M:Mem}{xo yo:Operand}:eBin tb .neq 37 xo yo nilS nilS M=some (.val (.bool false),M):=eBin_some (by kernel_rfl)
theorem j_get(h:FM A M S P B)(n:Int):CallA tb.P 64 [.ptr A.f 0,i64 n] M fun y N=>N=M∧((ovl P B n=none∧y= .tup [nilS,.val (.bool false)])∨∃ x d,ovl P B n=some d∧y= .tup [x,.val (.bool true)]∧PgS M A x d):=by
 obtain⟨pm,hp⟩:=h.pend
 obtain⟨bm,hb⟩:=h.base
 refine F64_ok ?_
 unfold F64
 simp only[i64,zZi]
 refine bZi eZn ?_
 refine bZi fa_mp ?_
 rw[zZp]
 refine bZi h.lmp ?_
 unfold ovl
 cases hP:P n with
 | none=>
   refine bZi (hp.none hP) ⟨_,_,rfl,?_⟩
   rw[cZf]
   refine bZi eZn ?_
   refine bZi fa_mb ?_
   rw[zZp]
   refine bZi h.lmb ?_
   cases hB:B n with
   | none=>exact bZi (hb.none (by rw[hB];rfl)) ⟨_,_,rfl,(by first|trivial|rfl),.inl ⟨rfl,rfl⟩⟩
   | some d=>
     obtain⟨x,h1,h2⟩:=hb.some (n:=n) (d:=d) (by rw[hB];rfl)
     exact bZi h1 ⟨_,_,rfl,(by first|trivial|rfl),.inr ⟨x,d,rfl,rfl,h2⟩⟩
 | some o=>
   cases o with
   | none=>
     refine bZi (hp.nil hP) ⟨_,_,rfl,?_⟩
     rw[cZt]
     refine bZi nil_neS ?_
     rw[zZb]
     exact⟨(by first|trivial|rfl),.inl ⟨rfl,rfl⟩⟩
   | some d=>
     obtain⟨x,h1,h2⟩:=hp.some hP
     refine bZi h1 ⟨_,_,rfl,?_⟩
     rw[cZt]
     obtain⟨b,o,c1,c2,e,rfl⟩:=h2.2.1
     refine bZi sl_ne ?_
     rw[zZb]
     exact⟨(by first|trivial|rfl),.inr ⟨_,d,rfl,rfl,h2⟩⟩
theorem j_ask(h:FM A M S P B){z:Int}(hz:0≤z∧z<logG S.g):CallA tb.P 51 [.ptr A.f 0,i64 z] M fun y N=>y=i64 0∧Keep M N []:=by
 obtain⟨C,m,hr⟩:=h.fr
 have:=f_asked M h.wf A.f (flOf A S) A.p C hr.flat z
 have e:askF C z=0:=by
  unfold askF
  rw[hr.rel.calm.off,hr.rel.g,if_neg (by simp),if_pos hz]
 rw[e] at this
 exact this
theorem j_read(h:FM A M S P B){z:Int}(hz:0≤z∧z<logG S.g)(hlen:∀ d,ovl P B z=some d→0<d.length∧d.length≤1000):
 CallA tb.P 30 [.ptr A.f 0,i64 z] M fun y N=>Keep M N []∧((ovl P B z=none∧y= .tup [nilS,i64 4])∨∃ x d,ovl P B z=some d∧y= .tup [x,i64 0]∧Gr N x d∧∀ c,inBlk x c→M.next≤c):=by
 refine F30_ok ?_
 unfold F30
 simp only[i64,zZi]
 refine (j_ask h hz).mono ?_
 rintro y N ⟨rfl,hk⟩
 simp only[i64,zZi]
 have hN:=h.post hk
 simp only[bne_self_eq_false,cZf]
 refine (j_get hN z).mono ?_
 rintro y N2 ⟨rfl,⟨h1,rfl⟩|⟨x,d,h1,rfl,h2⟩⟩
 ·refine⟨_,_,rfl,?_⟩
  simp only[Bool.not_false,cZt]
  exact⟨hk,.inl ⟨h1,rfl⟩⟩
 ·refine⟨_,_,rfl,?_⟩
  simp only[Bool.not_true,cZf]
  obtain⟨l1,l2⟩:=hlen d h1
  refine (t_clone N2 hN.wf x d h2.1 l1 (by omega)).mono ?_
  rintro y N3 ⟨g1,g2,g3⟩
  exact⟨hk.trans0 g2,.inr ⟨y,d,h1,rfl,g1,fun c hc=>Nat.le_trans hk.nxt (g3 c hc)⟩⟩
theorem FM.setP(h:FM A M S P B){pm:List (Int×AV)}{P':Int→Option (Option Dat)}(hp:MpOk (M.put A.mp (.map (mG i64 (fun x:AV=>x) pm))) A A.mp pm P'):FM A (M.put A.mp (.map (mG i64 (fun x:AV=>x) pm))) S P' B∧Keep M (M.put A.mp (.map (mG i64 (fun x:AV=>x) pm))) [A.mp]:=by
 obtain⟨⟨n1,n2,n3⟩,n4,n5,n6⟩:=Adr.maps h.dis
 obtain⟨C,m,hr⟩:=h.fr
 obtain⟨bm,hb⟩:=h.base
 obtain⟨pm0,hp0⟩:=h.pend
 have hk:Keep M (M.put A.mp (.map (mG i64 (fun x:AV=>x) pm))) [A.mp]:=Keep.put h.wf (h.wf _ _ hp0.get) _
 refine⟨⟨⟨C,m,hr.keepS hk fun c hc=>?_⟩,⟨pm,hp⟩,⟨bm,hb.keep h.wf hk (by simp[n4]) fun c hc=>?_⟩,by rw[Mem.get_put,if_neg (fun e=>n6 e.symm)];exact h.stale⟩,hk⟩
 ·rw[List.mem_singleton] at hc
  subst hc
  refine⟨n2,fun hm=>hr.fsx _ hm av_mp.1,fun q hq hm=>?_⟩
  obtain⟨_,_,_,_,_,_,_,_,e6⟩:=hr.lnk q hq
  exact e6 _ hm av_mp.1
 ·rw[List.mem_singleton] at hc
  rw[hc];exact av_mp.1
theorem Gr.pg{N:Mem}{A:Adr}{x:AV}{d:Dat}(h:Gr N x d)(h0:0<d.length)(hf:∀ c,inBlk x c→c∉A.av):PgS N A x d:=by
 refine⟨h.at,?_,hf⟩
 rcases h with⟨_,rfl⟩|⟨b,h1,_⟩
 ·simp at h0
 ·exact⟨_,_,_,_,_,h1⟩
theorem FM.av_lt(h:FM A M S P B)(hext:∀ c∈A.ext,c<M.next):∀ c∈A.av,c<M.next:=by
 obtain⟨C,m,hr⟩:=h.fr
 obtain⟨pm,hp⟩:=h.pend
 obtain⟨bm,hb⟩:=h.base
 intro c hc
 simp only[Adr.av,Adr.all,List.mem_append,List.mem_cons] at hc
 rcases hc with (rfl|rfl|rfl|rfl|rfl|hc)|hc
 ·exact h.wf _ _ hr.fl
 ·exact h.wf _ _ hr.mf
 ·exact h.wf _ _ hb.get
 ·exact h.wf _ _ hp.get
 ·exact h.wf _ _ h.stale
 ·exact hr.lt c (by simp[Adr.wr,hc])
 ·exact hext c hc
theorem j_write(h:FM A M S P B)(hext:∀ c∈A.ext,c<M.next){z:Int}(hz:0≤z∧z<logG S.g){w:AV}{d:Dat}(hw:BytesAt M w d)(hd:(d.length:Int)=S.g.by')(h0:0<d.length∧d.length≤1000):
 CallA tb.P 15 [.ptr A.f 0,i64 z,w] M fun y N=>(S.deg=false→y=i64 0∧FM A N S (updN P z (some d)) B∧Keep M N [A.mp])∧(S.deg=true→y=i64 13∧Keep M N []):=by
 refine F15_ok ?_
 unfold F15
 simp only[i64,zZi]
 refine (j_ask h hz).mono ?_
 rintro y N ⟨rfl,hk⟩
 simp only[i64,zZi]
 have hN:=h.post hk
 simp only[bne_self_eq_false,cZf]
 have hwN:BytesAt N w d:=SlAt.keep0 hw h.wf hk
 refine bZi (lZl hwN.len) ?_
 simp only[zZi]
 refine bZi eZn ?_
 refine bZi fa_g ?_
 rw[zZp]
 refine bZi (lZs (lZc ty3 rfl hN.flA (o:=3) (v:=i64 S.g.by') rfl)) ?_
 simp only[i64,zZi]
 rw[hd]
 simp only[bne_self_eq_false,cZf]
 refine bZi eZn ?_
 refine bZi fa_dg ?_
 rw[zZp]
 refine bZi hN.ldg ?_
 rw[zZb]
 refine cZi (fun e=>⟨fun e'=>(by rw[e] at e';cases e'),fun _=>⟨(by first|trivial|rfl),hk⟩⟩) (fun e=>?_)
 refine bZi eZn ?_
 refine bZi fa_mp ?_
 rw[zZp]
 refine bZi hN.lmp ?_
 refine (t_clone N hN.wf w d hwN h0.1 (by omega)).mono ?_
 rintro x N2 ⟨g1,g2,g3⟩
 have hN2:=hN.post g2
 refine⟨bZi hN2.lmp rfl,?_⟩
 obtain⟨pm,hp⟩:=hN2.pend
 have hav:=h.av_lt hext
 obtain⟨pm',p1,p2,_⟩:=hp.put hN2.wf av_mp.1 z x (some d) (.inr ⟨d,rfl,Gr.pg g1 h0.1 fun c hc hm=>by have h1:=g3 c hc;have h2:=hav c hm;have h3:=hk.nxt;omega⟩)
 refine bZi p1 ?_
 obtain⟨q1,q2⟩:=hN2.setP p2
 exact⟨fun _=>⟨(by first|trivial|rfl),q1,(hk.trans0 g2).trans q2 (by simp) (fun _ h _=>h)⟩,fun e'=>(by rw[e] at e';cases e')⟩
def pgN(f:Int→Option Dat)(n:Nat):List Int:=((List.range n).map fun i:Nat=>(i:Int)).filter fun i=>(f i).isSome
theorem pgN_succ(f:Int→Option Dat)(n:Nat):pgN f (n+1)=pgN f n++(if (f n).isSome=true then[(n:Int)] else[]):=by
 unfold pgN
 rw[List.range_succ,List.map_append,List.filter_append]
 congr 1
 simp only[List.map_cons,List.map_nil,List.filter_cons,List.filter_nil]
theorem pgN_len(f:Int→Option Dat)(n:Nat):(pgN f n).length≤n:=by
 unfold pgN
 have:=List.length_filter_le (fun i=>(f i).isSome) ((List.range n).map fun i:Nat=>(i:Int))
 simpa using this
theorem j_pages(h:FM A M S P B):CallA tb.P 29 [.ptr A.f 0] M fun y N=>GrV N y ((pgN (ovl P B) (logG S.g).toNat).map i64)∧Keep M N []∧∀ c,inBlk y c→M.next≤c:=by
 obtain⟨C,m,hr⟩:=h.fr
 refine F29_ok ?_
 unfold F29
 obtain⟨l1,l2⟩:=logG_le hr.inv.may
 have hm:=mayG_iff.1 hr.inv.may
 have l3:(S.g.bl-S.g.sp-3)*S.g.pg≤20*8:=Int.mul_le_mul (by omega) (by omega) (by omega) (by omega)
 have hlog:=f_logical M h.wf A.f (flOf A S) A.p C hr.flat
 rw[hr.rel.g] at hlog
 refine hlog.mono ?_
 rintro y M2 ⟨rfl,hk2⟩
 obtain⟨L,hL⟩:∃ L:Nat,logG S.g=L:=⟨(logG S.g).toNat,by omega⟩
 rw[hL]
 simp only[i64,zZi,Int.toNat_natCast]
 have h2:=h.post hk2
 refine⟨fun x i n Q=>∃ j:Nat,i=j∧n=L-j∧j≤L∧Keep M Q []∧GrV Q x ((pgN (ovl P B) j).map i64)∧∀ c,inBlk x c→M.next≤c,⟨_,0,rfl,rfl,Nat.zero_le _,hk2,.inl ⟨rfl,rfl⟩,fun c hc=>hc.elim⟩,?_⟩
 rintro _ x i n Q ⟨j,rfl,rfl,hj,hk,hx,fx⟩
 refine cZi (fun hlt=>?_) (fun hge=>?_)
 ·have hlt:j<L:=Int.ofNat_lt.1 (of_decide_eq_true hlt)
  have hQ:=h.post hk
  refine lZi fun K hK=>?_
  refine (j_get hQ (j:Int)).mono ?_
  rintro y N2 ⟨rfl,⟨h1,rfl⟩|⟨x',d,h1,rfl,_⟩⟩
  ·refine⟨_,_,rfl,?_⟩
   rw[cZf,hK]
   refine⟨_,by omega,j+1,iInc (by omega),rfl,hlt,hk,?_,fx⟩
   rw[pgN_succ,h1]
   simpa using hx
  ·refine⟨_,_,rfl,?_⟩
   rw[cZt,hK]
   clear hK
   refine lZi fun M21 hM21=>?_
   subst hM21
   have hpl:=pgN_len (ovl P B) j
   obtain⟨x2,N',g1,g2,g3,g4⟩:=GrV.grow ty25 ty3 rfl (by decide) hk.wf hx (i64 (j:Int)) rfl (by rw[List.length_map];omega)
   refine bZi g1 ?_
   have e:(pgN (ovl P B) (j+1)).map i64=(pgN (ovl P B) j).map i64++[i64 (j:Int)]:=by
    rw[pgN_succ,h1]
    simp
   rw[← e] at g2
   refine⟨_,by omega,j+1,iInc (by omega),rfl,hlt,keep_grow hk g3 fx,g2,fun c hc=>?_⟩
   have:=g4 c hc
   have:=hk.nxt
   omega
 ·have hge:¬ (j:Int)<(L:Int):=of_decide_eq_false hge
  have:j=L:=by omega
  subst this
  exact⟨hx,hk,fx⟩
end
theorem ptsL_none{ac:Nat→Option (Tg×Dat)}{k n:Nat}{S:Ps}(h:ac n=none):ptsL ac (k+1) n S=ptsL ac k (n+1) S:=by rw[ptsL,h]
theorem ptsL_some{ac:Nat→Option (Tg×Dat)}{k n:Nat}{S:Ps}{t:Tg}{d:Dat}(h:ac n=some (t,d)):ptsL ac (k+1) n S=if (putX S t d).2≠0 then putX S t d else ptsL ac k (n+1) (putX S t d).1:=by rw[ptsL,h]
section
variable {A:Adr} {M:Mem} {S:Ps} {P:Int→Option (Option Dat)} {B:Int→Option Dat}
theorem ms_by(M:Mem){n:Nat}(hn:n≤1000):evMakeSlice tb 37 (.val (.int .i64 (n:Int))) (.val (.int .i64 (n:Int))) M=some (.sl M.next 0 n n none,M.new (.cells (bvs (List.replicate n 0#8)) true)):=by
 unfold evMakeSlice
 rw[ty37]
 have h1:decide (0≤(n:Int))=true:=by simp
 have h2:decide ((n:Int)≤(n:Int))=true:=by simp
 have h3:decide (((1:Nat):Int)*(n:Int)≤281474976710656)=true:=by
  rw[decide_eq_true_eq];omega
 have h4:decide ((n:Int)<4611686018427387904)=true:=by
  rw[decide_eq_true_eq];omega
 simp only[ty5,h1,h2,h4,cond_true,Int.toNat_natCast]
 rw[h3,cond_true]
 have e:repA n (ofVs [.int .u8 0])=bvs (List.replicate n 0#8):=by
  have:=repA_one' (AV.val (.int .u8 0)) n
  rw[show bvs (List.replicate n 0#8)=List.replicate n (AV.val (.int .u8 0)) by unfold bvs;rw[List.map_replicate];rfl]
  exact this
 rw[e]
theorem j_puts(h:FM A M S P B)(hext:∀ c∈A.ext,c<M.next)(h0:Pts S (act P B (zer S.g)) 0 S)(hac:ActOk S.g S.now (act P B (zer S.g)))(hn:0≤S.now∧S.now≤16777215)(hops:S.ops+putK S*163+5000≤1000000000):
 CallA tb.P 54 [.ptr A.f 0] M fun y N=>y=i64 (putsX S (act P B (zer S.g))).2∧FM A N (putsX S (act P B (zer S.g))).1 P B∧Keep M N A.wr:=by
 obtain⟨C0,m0,hr0⟩:=h.fr
 have hg:=hr0.geo
 have hm:=mayG_iff.1 hr0.inv.may
 have hnp:nB S*nG S≤160:=by
  have:nB S*nG S≤20*8:=Nat.mul_le_mul (by omega) (by omega)
  omega
 have hK0:putK S=9*(nB S+1)+1:=rfl
 have hav:=h.av_lt hext
 refine F54_ok ?_
 unfold F54
 refine bZi eZn ?_
 refine bZi fa_g ?_
 rw[zZp]
 obtain⟨L,hL⟩:∃ L:Nat,S.g.by'=L:=⟨S.g.by'.toNat,by omega⟩
 refine bZi (lZs (lZc ty3 rfl h.flA (o:=3) (v:=i64 S.g.by') rfl)) ?_
 rw[hL]
 simp only[i64,zZi]
 refine bZi (ms_by M (n:=L) (by omega)) ?_
 have hz:zer S.g=List.replicate L 0#8:=by unfold zer;rw[hL];rfl
 have k7:Keep M (M.new (.cells (bvs (List.replicate L 0#8)) true)) []:=Keep.new h.wf _
 have g7:(M.new (.cells (bvs (List.replicate L 0#8)) true)).get M.next=some (.cells (bvs (List.replicate L 0#8)) true):=get_new _ _
 generalize M.new (.cells (bvs (List.replicate L 0#8)) true)=M7 at*
 have h7:=h.post k7
 have hav7:∀ c∈A.av,c<M.next:=hav
 have nonePg:∀ N,N.get M.next=some (.cells (bvs (List.replicate L 0#8)) true)→PgS N A (.sl M.next 0 L L none) (zer S.g):=fun N hg=>by
  refine⟨?_,⟨_,_,_,_,_,rfl⟩,fun c hc hm=>?_⟩
  ·rw[hz]
   refine⟨by simp,.inr ⟨M.next,0,L,none,by simp,⟨by simp,.inl rfl⟩,.inr ⟨_,_,hg,by simp,by rw[List.drop_zero,List.take_of_length_le (by simp)]⟩⟩⟩
  ·obtain⟨_,hc⟩:=hc
   have:=hav7 c hm
   omega
 have hwr:M.next∉A.wr:=fun hm=>by have:=hav7 _ (Adr.wr_av hm);omega
 refine bZi eZn ?_
 refine bZi fa_g ?_
 rw[zZp]
 refine bZi eZn ?_
 refine bZi fa_g ?_
 rw[zZp]
 obtain⟨C7,m7,hr7⟩:=h7.fr
 refine bZi hr7.lbl ?_
 rw[zZi]
 refine bZi hr7.lpg ?_
 rw[zZi]
 have em:iMul .i64 (nB S:Int) (nG S:Int)=((nB S*nG S:Nat):Int):=by
  rw[Int.natCast_mul]
  have:((nB S:Int)*(nG S:Int))=((nB S*nG S:Nat):Int):=by rw[Int.natCast_mul]
  exact wrap_i64' (by omega) (by omega)
 rw[em]
 refine⟨fun z n N=>∃ (i:Nat) (S1:Ps),z=i∧n=nB S*nG S-i∧i≤nB S*nG S∧Pts S (act P B (zer S.g)) i S1∧FM A N S1 P B∧Keep M N A.wr∧ptsL (act P B (zer S.g)) (nB S*nG S-i) i S1=ptsL (act P B (zer S.g)) (nB S*nG S) 0 S∧N.get M.next=some (.cells (bvs (List.replicate L 0#8)) true),
  ⟨_,0,S,rfl,rfl,Nat.zero_le _,h0,h7,k7.mono (by simp),rfl,g7⟩,?_⟩
 rintro _ z n N ⟨i,S1,rfl,rfl,hi,hpts,hN,hkN,hres,gN⟩
 have hnb:=hpts.env.nB
 have hgS:=hpts.env.g
 have hop1:=hpts.ops
 have hKi:putK S*(i:Int)≤putK S*160:=Int.mul_le_mul_of_nonneg_left (by omega) (by omega)
 have hpre:Pre S1 (nB S1+1):=⟨hpts.und.inv,hpts.lost,hpts.phi,by omega⟩
 obtain⟨C1,m1,hr1⟩:=hN.fr
 refine cZi (fun e=>?_) (fun e=>?_)
 ·
  have hlt:i<nB S*nG S:=Int.ofNat_lt.1 (of_decide_eq_true e)
  have hsub:nB S*nG S-i=(nB S*nG S-(i+1))+1:=by omega
  obtain⟨pm,hp⟩:=hN.pend
  obtain⟨bm,hb⟩:=hN.base
  refine lZi fun K71 hK71=>?_
  have key71:∀ (N2:Mem) (S2:Ps),Keep M N2 A.wr→FM A N2 S2 P B→Pts S (act P B (zer S.g)) (i+1) S2→ptsL (act P B (zer S.g)) (nB S*nG S-(i+1)) (i+1) S2=ptsL (act P B (zer S.g)) (nB S*nG S) 0 S→N2.get M.next=some (.cells (bvs (List.replicate L 0#8)) true)→K71 N2:=by
   intro N2 S2 a1 a2 a3 a4 a5
   rw[hK71]
   exact⟨_,by omega,i+1,S2,iInc (by omega),rfl,hlt,a3,a2,a1,a4,a5⟩
  clear hK71
  have skip:∀ N2,Keep N N2 []→act P B (zer S.g) i=none→K71 N2:=fun N2 k2 ha=>by
   rw[hsub,ptsL_none ha] at hres
   exact key71 N2 S1 (hkN.trans k2 (fun _ h _=>h) (by simp)) (hN.post k2) (hpts.skip ha) hres (k2.get hN.wf gN (by simp))
  have putIt:∀ (N2:Mem) (t:Tg) (x:AV) (d:Dat) (K:AV→Mem→Prop),Keep N N2 []→act P B (zer S.g) i=some (t,d)→PgS N2 A x d→
   (∀ (y:AV) (N3:Mem),y=i64 (putX S1 t d).2→FM A N3 (putX S1 t d).1 P B→Keep M N3 A.wr→N3.get M.next=some (.cells (bvs (List.replicate L 0#8)) true)→K y N3)→CallA tb.P 86 [.ptr A.f 0,tgA t,x] N2 K:=by
   intro N2 t x d K k2 ha hx hK
   obtain⟨b1,b2,b3,b4⟩:=hac.k i t d ha
   have hnow:=hpts.env.now
   have h2:=hr1.post k2
   refine (j_put h2 hpre (by omega) (t:=t) (x:=x) (d:=d) (fun s hs=>okL_act (g:=S.g) hr0.inv.may (by rw[hnow];exact hn) (.inl ⟨b1,by omega,by omega⟩) b4 s hs) (by rw[hgS];exact b4) (fun _=>by rw[hgS,b2];exact b3) (by rw[hpts.und.ep];exact Int.le_refl _) hx.1 hx.one hx.2.2).mono ?_
   rintro y N3 ⟨C',m',rfl,h3,k3⟩
   exact hK _ N3 rfl ((hN.post k2).step k3 ⟨C',m',h3⟩) ((hkN.trans k2 (fun _ h _=>h) (by simp)).trans k3 (fun _ h _=>h) (fun _ h _=>h)) (k3.get h2.wf (k2.get hN.wf gN (by simp)) hwr)
  have behind:∀ (t:Tg) (d:Dat) (N3:Mem),act P B (zer S.g) i=some (t,d)→FM A N3 (putX S1 t d).1 P B→Keep M N3 A.wr→N3.get M.next=some (.cells (bvs (List.replicate L 0#8)) true)→
   condB ((putX S1 t d).2 != 0) (i64 (putX S1 t d).2=i64 (putsX S (act P B (zer S.g))).2∧FM A N3 (putsX S (act P B (zer S.g))).1 P B∧Keep M N3 A.wr) (K71 N3):=by
   intro t d N3 ha a1 a2 a3
   rw[hsub,ptsL_some ha] at hres
   have hst:=pts_step hpts hac hn (by omega) (by omega) ha
   refine cZi (fun e=>?_) (fun e=>?_)
   ·have e:(putX S1 t d).2≠0:=by simpa using e
    rw[if_pos e] at hres
    unfold putsX
    rw[← hres,if_pos e]
    exact⟨rfl,a1,a2⟩
   ·have e:(putX S1 t d).2=0:=by simpa using e
    rw[if_neg (by rw[e];simp)] at hres
    rcases hst with⟨_,hp'⟩|⟨c,_⟩
    ·exact key71 N3 _ a2 a1 hp' hres a3
    ·rw[e] at c;cases c
  refine bZi eZn ?_
  refine bZi fa_mp ?_
  rw[zZp]
  refine bZi hN.lmp ?_
  have lookB:∃ (x:AV),eLk tb 80 (.map A.mb) (i64 (i:Int)) true N=some (.tup [x,.val (.bool (B i).isSome)],N):=by
   cases hB:B i with
   | none=>exact⟨nilS,hb.none (by rw[hB];rfl)⟩
   | some d=>
     obtain⟨x,h1,_⟩:=hb.some (n:=i) (d:=d) (by rw[hB];rfl)
     exact⟨x,h1⟩
  obtain⟨xb,hlb⟩:=lookB
  have lookP:∃ (x:AV),eLk tb 80 (.map A.mp) (i64 (i:Int)) true N=some (.tup [x,.val (.bool (P i).isSome)],N)∧(P i=none∨(P i=some none∧x=nilS)∨∃ d,P i=some (some d)∧PgS N A x d):=by
   cases hP:P i with
   | none=>exact⟨nilS,hp.none hP,.inl rfl⟩
   | some o=>
     cases o with
     | none=>exact⟨nilS,hp.nil hP,.inr (.inl ⟨rfl,rfl⟩)⟩
     | some d=>
       obtain⟨x,h1,h2⟩:=hp.some hP
       exact⟨x,h1,.inr (.inr ⟨d,rfl,h2⟩)⟩
  obtain⟨xp,hlp,hpx⟩:=lookP
  refine bZi hlp ⟨_,_,rfl,?_⟩
  refine bZi eZn ?_
  refine bZi fa_mb ?_
  rw[zZp]
  refine bZi hN.lmb ?_
  refine bZi hlb ⟨_,_,rfl,?_⟩
  refine lZi fun K42 hK42=>?_
  have key42:∀ x41:AV,(P i=none∨(P i=some none∧x41=nilS)∨∃ d,P i=some (some d)∧PgS N A x41 d)→K42 x41:=by
   intro x41 hx41
   rw[hK42]
   clear hK42
   refine lZi fun M43 hM43=>?_
   have e43:M43=N.new (.cells [i64 0,i64 0,i64 0,i64 0] true):=hM43
   have k43:Keep N M43 []:=by rw[e43];exact Keep.new hN.wf _
   have g43:M43.get N.next=some (.cells [i64 0,i64 0,i64 0,i64 0] true):=by rw[e43];exact get_new _ _
   have n43:M43.next=N.next+1:=by rw[e43];rfl
   clear hM43 e43
   refine bZi (tg_st ⟨1,i,0,0⟩ g43 rfl) ?_
   have k44:Keep N (M43.put N.next (.cells (tgC ⟨1,i,0,0⟩) true)) []:=kZn k43 (Nat.le_refl _) (by omega) _
   generalize hM44:M43.put N.next (.cells (tgC ⟨1,i,0,0⟩) true)=M44 at*
   have g44:M44.get N.next=some (.cells (tgC ⟨1,i,0,0⟩) true):=by rw[← hM44,Mem.get_put,if_pos rfl]
   have n44:M44.next=N.next+1:=by rw[← hM44];exact n43
   clear hM44
   have h44:=hN.post k44
   refine lZi fun K61 hK61=>?_
   have key61:∀ (t:Tg) (x:AV) (d:Dat) (N2:Mem),Keep N N2 []→N2.get N.next=some (.cells (tgC t) true)→act P B (zer S.g) i=some (t,d)→PgS N2 A x d→K61 x N2:=by
    intro t x d N2 k2 g2 ha hx
    rw[hK61]
    clear hK61
    refine bZi (lZs (tg_ld g2)) ⟨_,_,_,_,rfl,?_⟩
    refine putIt N2 t x d _ k2 ha hx ?_
    rintro y N3 rfl a1 a2 a3
    simp only[i64,zZi]
    exact behind t d N3 ha a1 a2 a3
   clear hK61
   refine lZi fun K55 hK55=>?_
   have key55t:act P B (zer S.g) i=none→K55 true:=by
    intro ha
    rw[hK55]
    dsimp only
    rw[cZt]
    exact skip _ k44 ha
   have key55f:(P i=some none∧x41=nilS∧(B i).isSome=true∨∃ d,P i=some (some d)∧PgS N A x41 d)→K55 false:=by
    intro hc
    rw[hK55]
    dsimp only
    rw[cZf]
    clear hK55
    rcases hc with⟨hP,rfl,hB⟩|⟨d,hP,hd⟩
    ·refine bZi nil_eqS ?_
     rw[zZb,cZt]
     refine bZi (sZs (st_cell ty3 rfl rfl g44 (by simp[tgC]))) ?_
     have ha:act P B (zer S.g) i=some (⟨2,i,0,0⟩,zer S.g):=by unfold act;rw[hP];simp[hB]
     have k45:Keep N (M44.put N.next (.cells ((tgC ⟨1,i,0,0⟩).set 0 (.val (.int .i64 2))) true)) []:=kZn k44 (Nat.le_refl _) (by omega) _
     refine key61 ⟨2,i,0,0⟩ _ (zer S.g) _ k45 (by rw[Mem.get_put,if_pos rfl];rfl) ha (nonePg _ (k45.get hN.wf gN (by simp)))
    ·have ha:act P B (zer S.g) i=some (⟨1,i,0,0⟩,d):=by unfold act;rw[hP]
     obtain⟨b,o,c1,c2,e',rfl⟩:=hd.2.1
     refine bZi sl_eq ?_
     rw[zZb,cZf]
     exact key61 ⟨1,i,0,0⟩ _ d _ k44 g44 ha (hd.keep hN.wf k44 (by simp))
   clear hK55
   refine bZi eZn ?_
   refine bZi fa_ms ?_
   rw[zZp]
   refine bZi h44.lms ?_
   have hst:eLk tb 81 (.map A.ms) (.val (.int .i64 (i:Int))) false M44=some (.val (.bool false),M44):=by
    have:=look_map (l:=[]) h44.stale (i:Int)
    have h2:=eLk_some this
    simp only[List.not_mem_nil,decide_false] at h2
    exact h2
   refine bZi hst ?_
   rw[zZb]
   simp only[Bool.not_false,cZt]
   rcases hx41 with hP|⟨hP,rfl⟩|⟨d,hP,hd⟩
   ·rw[hP]
    simp only[Option.isSome_none,Bool.not_false,cZt]
    exact key55t (by unfold act;rw[hP])
   ·rw[hP]
    simp only[Option.isSome_some,Bool.not_true,cZf]
    refine bZi nil_eqS ?_
    rw[zZb,cZt]
    cases hB:(B i).isSome with
    | true=>
      simp only[Bool.not_true]
      exact key55f (.inl ⟨hP,rfl,hB⟩)
    | false=>
      simp only[Bool.not_false]
      exact key55t (by unfold act;rw[hP];simp[hB])
   ·rw[hP]
    simp only[Option.isSome_some,Bool.not_true,cZf]
    obtain⟨b,o,c1,c2,e',rfl⟩:=hd.2.1
    refine bZi sl_eq ?_
    rw[zZb,cZf]
    exact key55f (.inr ⟨d,hP,hd⟩)
  clear hK42
  cases hPs:(P i).isSome with
  | false=>
    have hP:P i=none:=by
     cases hq:P i with
     | none=>rfl
     | some v=>rw[hq] at hPs;cases hPs
    simp only[Bool.not_false,cZt]
    exact key42 _ (.inl hP)
  | true=>
    simp only[Bool.not_true,cZf]
    exact key42 _ hpx
 ·
  have hge:¬ (i:Int)<((nB S*nG S:Nat):Int):=of_decide_eq_false e
  have:i=nB S*nG S:=by omega
  subst this
  rw[Nat.sub_self] at hres
  have hres:(S1,(0:Int))=ptsL (act P B (zer S.g)) (nB S*nG S) 0 S:=hres
  have hnow:=hpts.env.now
  have hx:=nonePg N gN
  refine (j_put hr1 hpre (by omega) (t:=tgC3) (d:=zer S.g) (fun s hs=>okL_act (g:=S.g) hr0.inv.may (by rw[hnow];exact hn) (.inr ⟨rfl,rfl⟩) (len_zer hr0.inv.may) s hs) (by rw[hgS];exact len_zer hr0.inv.may) (fun hk=>absurd rfl hk) (by rw[hpts.und.ep];exact Int.le_refl _) hx.1 hx.one hx.2.2).mono ?_
  rintro y N3 ⟨C',m',rfl,h3,k3⟩
  simp only[i64,zZi]
  unfold putsX
  rw[← hres]
  simp only[ne_eq,not_true_eq_false,if_false]
  exact⟨by trivial,hN.step k3 ⟨C',m',h3⟩,hkN.trans k3 (fun _ h _=>h) (fun _ h _=>h)⟩
end
theorem PInv.ep{S:Ps}(h:PInv S)(x y:Int)(hx:S.ep≤x):PInv { S with ep:=x,now:=y }:=
 ⟨h.may,h.len,h.pgs,⟨h.sq.le,h.sq.one⟩,fun b i v hv=>by
  obtain⟨a1,a2,a3,a4,a5⟩:=h.tag b i v hv
  exact⟨a1,a2,a3,a4,by show v.t.e≤x;omega⟩,h.bad,h.seq,h.cnt⟩
section
variable {A:Adr} {M:Mem} {S:Ps} {C:Chip} {m:List Fnd} {P:Int→Option (Option Dat)} {B:Int→Option Dat}
theorem puts_pre{S:Ps}{P:Int→Option (Option Dat)}{B:Int→Option Dat}(h:Quiet S)(hP:PendOk S.g P)(hops:S.ops+putK S*162+2000≤4294967295)(hep:S.ep+1≤16777215)(hc:(putsX (beginX S) (act P B (zer S.g))).2=0):
 Pre { (putsX (beginX S) (act P B (zer S.g))).1 with now:=0 } (nB S)∧nB (putsX (beginX S) (act P B (zer S.g))).1=nB S∧(putsX (beginX S) (act P B (zer S.g))).1.ops≤S.ops+putK S*161:=by
 have hge:=h.inv.geo
 have hnp:nB S*nG S≤160:=by
  have:nB S*nG S≤20*8:=Nat.mul_le_mul (by omega) (by omega)
  omega
 have hK0:putK S=9*(nB S+1)+1:=rfl
 have hKb:putK (beginX S)=putK S:=rfl
 have hnbb:nB (beginX S)=nB S:=rfl
 have hngb:nG (beginX S)=nG S:=rfl
 have hl0:=(lastX_spec S).2.1
 have hnow:0≤(beginX S).now∧(beginX S).now≤16777215:=⟨by show 0≤S.ep+1;have:=h.ep;omega,hep⟩
 have hac:ActOk (beginX S).g (beginX S).now (act P B (zer S.g)):=act_ok h.inv.may hP
 have hall:=pts_all hac hnow (by rw[hKb];show S.ops+_+_≤_;omega) (nB S*nG S) 0 (beginX S) (by omega) (h.begin (ac:=act P B (zer S.g))).2
 rw[Nat.add_zero] at hall
 have hmulB:putK S*((nB S*nG S:Nat):Int)≤putK S*160:=Int.mul_le_mul_of_nonneg_left (by omega) (by omega)
 have hgb:(beginX S).g=S.g:=rfl
 unfold putsX at hc ⊢
 rw[hnbb,hngb,hgb] at hc ⊢
 rcases hall with⟨c,hp⟩|⟨c,_⟩
 rotate_left
 ·rw[if_pos (show (ptsL (act P B (zer S.g)) (nB S*nG S) 0 (beginX S)).2≠0 by rw[c];simp),c] at hc
  cases hc
 have hne:¬ ((ptsL (act P B (zer S.g)) (nB S*nG S) 0 (beginX S)).2≠0):=by rw[c];simp
 rw[if_neg hne] at hc ⊢
 generalize (ptsL (act P B (zer S.g)) (nB S*nG S) 0 (beginX S)).1=R at*
 have hnbR:nB R=nB S:=hp.env.nB
 have hgR:R.g=S.g:=hp.env.g
 have hnowR:R.now=S.ep+1:=hp.env.now
 have hopR:S.ops≤R.ops∧R.ops≤S.ops+putK S*((nB S*nG S:Nat):Int):=hp.ops
 have hpre:Pre R (nB R+1):=⟨hp.und.inv,hp.lost,hp.phi,by omega⟩
 have hok:∀ s:Int,0≤s∧s≤4294967295→okL (zer S.g) tgC3.k tgC3.p s R.now=true:=fun s hs=>okL_act (g:=S.g) h.inv.may (by rw[hnowR];exact hnow) (.inr ⟨rfl,rfl⟩) (len_zer h.inv.may) s hs
 have hpost:=put_ok hpre hok (by rw[hgR];exact len_zer h.inv.may) (fun hk=>absurd rfl hk) (by rw[hp.und.ep];exact Int.le_refl _)
 have hpop:=hpost.ops
 rw[hnbR] at hpop
 rcases hpost.code with⟨c1,c2,c3,c4,_⟩|⟨c1,_⟩
 ·refine⟨⟨hpost.inv.ep _ 0 (Int.le_refl _),?_,?_,?_⟩,hpost.env.nB.trans hnbR,by omega⟩
  ·show (lostN (putX R tgC3 (zer S.g)).1:Int)≤(putX R tgC3 (zer S.g)).1.g.sp
   rw[hpost.env.g];exact c3
  ·show 2+(putX R tgC3 (zer S.g)).1.g.sp≤(phi (putX R tgC3 (zer S.g)).1:Int)
   rw[hpost.env.g];exact c4
  ·show (putX R tgC3 (zer S.g)).1.ops+_+_≤_
   omega
 ·rw[hc] at c1;cases c1
theorem j_restore(h:FR A M S C m)(hl:(lostN S:Int)≤S.g.sp)(hp:2+S.g.sp≤phi S):CallA tb.P 53 [.ptr A.f 0] M fun y N=>y=i64 0∧Keep M N []:=by
 have hg:=h.geo
 have hph:=phi_eq S
 refine F53_ok ?_
 unfold F53
 refine bZi eZn ?_
 refine bZi fa_g ?_
 rw[zZp]
 refine bZi h.lbl ?_
 rw[zZi]
 refine lZi fun K37 hK37=>?_
 refine⟨fun z n N=>z=0∧N=M,⟨0,rfl,rfl⟩,?_⟩
 rintro _ z n N ⟨rfl,rfl⟩
 rw[decide_eq_true (by omega:(0:Int)<(nB S:Int)),cZt]
 refine lZi fun K34 hK34=>?_
 refine (j_many h (is:=xFree S) (ask_fn fn81 fun N' b hb _ hN'=>j_free hN' hb)).mono ?_
 rintro r M32 ⟨rfl,k32⟩
 simp only[i64,zZi]
 refine (j_target (h.post k32)).mono ?_
 rintro r M36 ⟨rfl,k36⟩
 simp only[i64,zZi]
 have:(cnt (nB S) (xFree S):Int)≥target S:=by
  have:freeN S=cnt (nB S) (xFree S):=rfl
  unfold target
  omega
 rw[decide_eq_true this,cZt,hK37]
 exact⟨by first|trivial|rfl,k32.trans0 k36⟩
theorem len_map{b:Nat}{es:List (AV×AV)}(hg:M.get b=some (.map es)):eLen tb false 80 (.map b) M=some (.val (.int .i64 (es.length:Int)),M):=by
 obtain⟨ti,h1,h2⟩:=ty80
 refine lZl ?_
 unfold evLenCap
 rw[h1]
 simp only[h2]
 have he:entsOf M (.map b)=some es:=by unfold entsOf;simp only;rw[hg]
 rw[he]
 rfl
theorem clr_map{b:Nat}{es:List (AV×AV)}{t:TypeId}{ti:TI}(ht:tb.ty.get t=some ti)(hg:M.get b=some (.map es)):eClr tb t (.map b) M=some (.tup [],M.put b (.map [])):=by
 unfold eClr evClear
 rw[ht]
 simp only[hg]
 rfl
theorem mpok_del{b:Nat}{pm:List (Int×AV)}{P:Int→Option (Option Dat)}(h:MpOk M A b pm P)(hw:M.WF)(hb:b∈A.av){n:Int}{x:Option Dat}(hn:P n=some x):
 ∃ pm',eDel tb 80 (.map b) (i64 n) M=some (.tup [],M.put b (.map (mG i64 (fun x:AV=>x) pm')))∧MpOk (M.put b (.map (mG i64 (fun x:AV=>x) pm'))) A b pm' (fun k=>if k=n then none else P k):=by
 obtain⟨⟨n',v⟩,hq,rfl⟩:=h.cov n _ hn
 obtain⟨pre,post,e,e1,e2⟩:=split_key h.nd hq
 obtain⟨ti,h1,h2⟩:=ty80
 have hk:Keep M (M.put b (.map (mG i64 (fun x:AV=>x) (pre++post)))) [b]:=Keep.put hw (hw _ _ h.get) _
 have hT:∀ c∈[b],c∈A.av:=fun c hc=>by rw[List.mem_singleton] at hc;rw[hc];exact hb
 refine⟨pre++post,?_,by rw[Mem.get_put,if_pos rfl],?_,fun q hq'=>?_,fun k y hk'=>?_⟩
 ·unfold eDel evDelete
  rw[h1]
  simp only[h2]
  rw[ty3,h.get,e]
  simp only
  have hko:keyOk tb 60 3 (i64 n')=true:=mt_page.ok n'
  rw[hko,findG_at mt_page pre post 0 e1]
  simp only[cond_true,Option.map_some,Nat.zero_add]
  congr 4
  unfold mG
  rw[List.map_append,List.map_cons,List.eraseIdx_append_of_length_le (by simp)]
  simp
 ·have:=h.nd
  rw[e] at this
  rw[List.map_append,List.map_cons] at this
  rw[List.map_append]
  exact List.Nodup.sublist (List.Sublist.append_left (List.sublist_cons_self _ _) _) this
 ·have hqm:q∈pm:=by rw[e];rw[List.mem_append] at hq' ⊢;exact hq'.imp id fun h=>by simp[h]
  have hne:q.1≠n':=by
   rw[List.mem_append] at hq'
   exact hq'.elim (e1 q) (e2 q)
  simp only[if_neg hne]
  exact (h.ent q hqm).imp id fun⟨d,a1,a2⟩=>⟨d,a1,a2.keep hw hk hT⟩
 ·simp only at hk'
  by_cases ek:k=n'
  ·rw[if_pos ek] at hk';cases hk'
  ·rw[if_neg ek] at hk'
   obtain⟨q,hq',a1⟩:=h.cov k y hk'
   rw[e,List.mem_append,List.mem_cons] at hq'
   rcases hq' with hq'|rfl|hq'
   ·exact⟨q,by simp[hq'],a1⟩
   ·exact absurd a1.symm ek
   ·exact⟨q,by simp[hq'],a1⟩
theorem FM.setS(h:FM A M S P B){S':Ps}(hx:S'.x=S.x)(hg:S'.g=S.g)(hf:S'.fs=S.fs)(ho:S'.ops=S.ops)(hi:PInv S'):
 FM A (M.put A.f (.cells (flC (flOf A S')) true)) S' P B∧Keep M (M.put A.f (.cells (flC (flOf A S')) true)) A.wr:=by
 obtain⟨C,m,hr⟩:=h.fr
 obtain⟨a1,a2⟩:=hr.setF hx hg hf ho hi
 have hk:Keep M (M.put A.f (.cells (flC (flOf A S')) true)) A.wr:=a2.mono fun c hc _=>by rw[List.mem_singleton] at hc;subst hc;simp[Adr.wr]
 exact⟨h.step hk ⟨C,m,a1⟩,hk⟩
def Adr.mw(A:Adr):List Nat:=A.mp::A.mb::A.ms::A.wr
theorem j_flush(h:FM A M S P B)(hext:∀ c∈A.ext,c<M.next)(hq:Quiet S)(hP:PendOk S.g P)(hd:S.deg=false)(hops:S.ops+putK S*165+8000≤1000000000)(hep:S.ep+1≤16777215):
 CallA tb.P 17 [.ptr A.f 0] M fun y N=>((∀ n,P n=none)→y=i64 0∧FM A N S P B∧Keep M N A.mw)∧
  (¬ (∀ n,P n=none)→y=i64 (flushX S (act P B (zer S.g))).2∧Keep M N A.mw∧
   ((flushX S (act P B (zer S.g))).2=0→FM A N (flushX S (act P B (zer S.g))).1 (fun _=>none) (ovl P B))∧((flushX S (act P B (zer S.g))).2≠0→FM A N (flushX S (act P B (zer S.g))).1 P B∨FM A N (flushX S (act P B (zer S.g))).1 (fun _=>none) (ovl P B))):=by
 obtain⟨C,m,hr⟩:=h.fr
 obtain⟨pm,hp⟩:=h.pend
 have hgeo:=hr.geo
 have hK0:putK S=9*(nB S+1)+1:=rfl
 have hwm:∀ c∈A.wr,c∈A.mw:=fun c hc=>by simp[Adr.mw,hc]
 obtain⟨⟨w1,w2,w3⟩,w4,w5,w6⟩:=Adr.maps h.dis
 have hav:=h.av_lt hext
 refine F17_ok ?_
 unfold F17
 refine bZi nil_eq22 ?_
 rw[zZb,cZf]
 refine bZi eZn ?_
 refine bZi fa_chip ?_
 rw[zZp]
 refine bZi hr.ldp ?_
 refine (c_on M h.wf A.p C hr.chip).mono ?_
 rintro y N ⟨rfl,rfl⟩
 rw[hr.rel.calm.off]
 simp only[zZb,Bool.not_false,Bool.not_true,cZf]
 refine bZi eZn ?_
 refine bZi fa_dg ?_
 rw[zZp]
 refine bZi h.ldg ?_
 rw[zZb,hd,cZf]
 refine (j_worn hr).mono ?_
 have hw0:wornX S=(S,0):=by unfold wornX;rw[if_pos hq.lost]
 rw[hw0]
 rintro y M18 ⟨rfl,hr18,k18⟩
 simp only[i64,zZi]
 have K18:Keep N M18 A.wr:=k18.mono fun c hc _=>by rw[List.mem_singleton] at hc;subst hc;simp[Adr.wr]
 have h18:=h.step K18 ⟨C,m,hr18⟩
 have hp18:=hp.keep h.wf K18 w2 fun c hc=>Adr.wr_av hc
 refine lZi fun K28 hK28=>?_
 have key28t:(∀ n,P n=none)→K28 true:=by
  intro hno
  rw[hK28]
  dsimp only
  rw[cZt]
  exact⟨fun _=>⟨by first|trivial|rfl,h18,K18.mono fun c hc _=>hwm c hc⟩,fun hn=>absurd hno hn⟩
 have key28f:¬ (∀ n,P n=none)→K28 false:=by
  intro hne
  rw[hK28]
  dsimp only
  rw[cZf]
  clear hK28 key28t
  refine (j_restore hr18 hq.lost hq.phi).mono ?_
  rintro y M30 ⟨rfl,k30⟩
  simp only[i64,zZi]
  simp only[bne_self_eq_false,cZf]
  have h30:=h18.post k30
  have fa7:∀ N,eFA tb 83 (.ptr A.f 0) 7 N=some (.ptr A.f 11,N):=fun N=>eFA_some (by unfold eZf;rw[ty83];rfl)
  have fa8:∀ N,eFA tb 83 (.ptr A.f 0) 8 N=some (.ptr A.f 12,N):=fun N=>eFA_some (by unfold eZf;rw[ty83];rfl)
  have hep0:0≤S.ep:=by rw[hq.ep];exact (lastX_spec S).2.1
  refine bZi eZn ?_
  refine bZi (fa7 _) ?_
  rw[zZp]
  refine bZi (lZs (lZc ty3 rfl h30.flA (o:=11) (v:=i64 S.ep) rfl)) ?_
  simp only[i64,zZi]
  refine bZi eZn ?_
  refine bZi (fa7 _) ?_
  rw[zZp,ib (by omega)]
  refine bZi (sZs (st_cell ty3 rfl rfl h30.flA (by simp[flC]))) ?_
  obtain⟨h42,k42⟩:=h30.setS (S':={ S with ep:=S.ep+1,now:=S.now }) rfl rfl rfl rfl (hq.inv.ep (S.ep+1) S.now (by omega))
  have es1:(flC (flOf A S)).set 11 (.val (.int .i64 (S.ep+1)))=flC (flOf A { S with ep:=S.ep+1,now:=S.now }):=rfl
  rw[es1]
  generalize M30.put A.f (.cells (flC (flOf A { S with ep:=S.ep+1,now:=S.now })) true)=M42 at*
  refine bZi eZn ?_
  refine bZi (fa7 _) ?_
  rw[zZp]
  refine bZi (lZs (lZc ty3 rfl h42.flA (o:=11) (v:=i64 (S.ep+1)) rfl)) ?_
  simp only[i64,zZi]
  refine bZi eZn ?_
  refine bZi (fa8 _) ?_
  rw[zZp]
  refine bZi (sZs (st_cell ty3 rfl rfl h42.flA (by simp[flC]))) ?_
  obtain⟨h53,k53⟩:=h42.setS (S':=beginX S) rfl rfl rfl rfl (hq.inv.ep (S.ep+1) (S.ep+1) (by omega))
  have es2:(flC (flOf A { S with ep:=S.ep+1,now:=S.now })).set 12 (.val (.int .i64 (S.ep+1)))=flC (flOf A (beginX S)):=rfl
  rw[es2]
  generalize M42.put A.f (.cells (flC (flOf A (beginX S))) true)=M53 at*
  have K53:Keep N M53 A.wr:=((K18.trans k30 (fun _ h _=>h) (by simp)).trans k42 (fun _ h _=>h) (fun _ h _=>h)).trans k53 (fun _ h _=>h) (fun _ h _=>h)
  have hext53:∀ c∈A.ext,c<M53.next:=fun c hc=>Nat.lt_of_lt_of_le (hext c hc) K53.nxt
  obtain⟨hund,hpts⟩:=hq.begin (ac:=act P B (zer S.g))
  refine (j_puts h53 hext53 hpts (act_ok hq.inv.may hP) ⟨by show 0≤S.ep+1;omega,hep⟩ (by show S.ops+putK S*163+5000≤_;omega)).mono ?_
  rintro y M55 ⟨rfl,h55,k55⟩
  simp only[i64,zZi]
  have hzer:zer (beginX S).g=zer S.g:=rfl
  rw[hzer] at h55 ⊢
  generalize hR:putsX (beginX S) (act P B (zer S.g))=R at*
  have hflx:flushX S (act P B (zer S.g))=if R.2≠0 then ({ R.1 with now:=0 },R.2) else levelX { R.1 with now:=0 }:=by unfold flushX;rw[hR]
  refine bZi eZn ?_
  refine bZi (fa8 _) ?_
  rw[zZp]
  obtain⟨C55,m55,hr55⟩:=h55.fr
  refine bZi (sZs (st_cell ty3 rfl rfl h55.flA (by simp[flC]))) ?_
  obtain⟨h61,k61⟩:=h55.setS (S':={ R.1 with now:=0 }) rfl rfl rfl rfl (hr55.inv.ep R.1.ep 0 (Int.le_refl _))
  have es3:(flC (flOf A R.1)).set 12 (.val (.int .i64 0))=flC (flOf A { R.1 with now:=0 }):=rfl
  rw[es3]
  generalize M55.put A.f (.cells (flC (flOf A { R.1 with now:=0 })) true)=M61 at*
  have K61:Keep N M61 A.wr:=(K53.trans k55 (fun _ h _=>h) (fun _ h _=>h)).trans k61 (fun _ h _=>h) (fun _ h _=>h)
  refine cZi (fun e=>?_) (fun e=>?_)
  ·have e:R.2≠0:=by simpa using e
   rw[if_pos e] at hflx
   rw[hflx]
   exact⟨fun hno=>absurd hno hne,fun _=>⟨by first|trivial|rfl,K61.mono fun c hc _=>hwm c hc,fun e'=>absurd e' e,fun _=> .inl h61⟩⟩
  ·have e:R.2=0:=by simpa using e
   rw[if_neg (by rw[e];simp)] at hflx
   have hp61:MpOk M61 A A.mp pm P:=hp.keep h.wf K61 w2 fun c hc=>Adr.wr_av hc
   obtain⟨bm,hb61⟩:=h61.base
   obtain⟨C61,m61,hr61⟩:=h61.fr
   have hmpL:A.mp<M61.next:=h61.wf _ _ hp61.get
   refine bZi eZn ?_
   refine bZi fa_mp ?_
   rw[zZp]
   refine bZi h61.lmp ?_
   have he:entsB M61 (.map A.mp)=some (some A.mp,mG i64 (fun x:AV=>x) pm):=by unfold entsB;simp only;rw[hp61.get]
   rw[he,bZs]
   have kkill:Keep M61 (M61.kill A.mp) [A.mp]:=⟨h61.wf.kill _,Nat.le_refl _,fun c _ hc=>by rw[Mem.get_kill,if_neg (by simpa using hc)]⟩
   have hT1:∀ c∈[A.mp],c∈A.av:=fun c hc=>by rw[List.mem_singleton] at hc;rw[hc];exact av_mp.1
   have hT2:∀ c∈[A.mb],c∈A.av:=fun c hc=>by rw[List.mem_singleton] at hc;rw[hc];exact av_mp.2.1
   have stepX:∀ {M1 M2:Mem} {S1:Ps} {C1:Chip} {m1:List Fnd} {c0:Nat},FR A M1 S1 C1 m1→Keep M1 M2 [c0]→c0∈A.av→c0∉A.wr→FR A M2 S1 C1 m1:=fun {M1 M2 S1 C1 m1 c0} hr1 hk1 h1 h2=>by
    refine hr1.keepS hk1 fun c hc=>?_
    rw[List.mem_singleton] at hc
    subst hc
    refine⟨h2,fun hm=>hr1.fsx _ hm h1,fun q hq hm=>?_⟩
    obtain⟨_,_,_,_,_,_,_,_,e6⟩:=hr1.lnk q hq
    exact e6 _ hm h1
   refine⟨fun rem n Q=>∃ (rem':List (Int×AV)) (bm':List (Int×AV)),rem=mG i64 (fun x:AV=>x) rem'∧(∀ q∈rem',q∈pm)∧(rem'.map (·.1)).Nodup∧FR A Q { R.1 with now:=0 } C61 m61∧MpOk Q A A.mb bm' (fun k=>if k∈rem'.map (·.1) then (B k).map some else (ovl P B k).map some)∧Keep (M61.kill A.mp) Q [A.mb],
    ⟨pm,bm,rfl,fun _ h=>h,hp61.nd,stepX hr61 kkill av_mp.1 w2,?_,⟨kkill.wf,Nat.le_refl _,fun _ _ _=>rfl⟩⟩,?_⟩
   ·have h1:=hb61.keep h61.wf kkill (by simp[w4]) hT1
    refine⟨h1.get,h1.nd,fun q hq=>?_,fun k x hk=>h1.cov k x ?_⟩
    ·rcases h1.ent q hq with⟨a1,a2⟩|⟨d,a1,a2⟩
     ·cases hB:B q.1 with
      | none=>rw[hB] at a2;cases a2
      | some d=>rw[hB] at a2;cases a2
     ·refine .inr ⟨d,?_,a2⟩
      split
      ·exact a1
      ·rename_i hnk
       have hPn:P q.1=none:=by
        cases hpp:P q.1 with
        | none=>rfl
        | some v=>
          obtain⟨q',hq',e'⟩:=hp61.cov _ _ hpp
          exact absurd (List.mem_map.2 ⟨q',hq',e'⟩) hnk
       unfold ovl
       rw[hPn]
       exact a1
    ·split at hk
     ·exact hk
     ·rename_i hnk
      have hPn:P k=none:=by
       cases hpp:P k with
       | none=>rfl
       | some v=>
         obtain⟨q',hq',e'⟩:=hp61.cov _ _ hpp
         exact absurd (List.mem_map.2 ⟨q',hq',e'⟩) hnk
      unfold ovl at hk
      rw[hPn] at hk
      exact hk
   rintro _ rem Q ⟨rem',bm',rfl,hsub,hnd,hrQ,hbQ,hkQ⟩
   refine⟨fun hnil=>?_,fun i kx vx hi=>?_⟩
   ·have hrm:rem'=[]:=by
     cases rem' with
     | nil=>rfl
     | cons a l=>simp[mG] at hnil
    subst hrm
    have hQlt:A.mp<Q.next:=Nat.lt_of_lt_of_le hmpL hkQ.nxt
    rw[show showM Q (some A.mp,mG i64 (fun x:AV=>x) pm)=Q.put A.mp (.map (mG i64 (fun x:AV=>x) pm)) from rfl]
    have kS:Keep Q (Q.put A.mp (.map (mG i64 (fun x:AV=>x) pm))) [A.mp]:=Keep.put hkQ.wf hQlt _
    have gS:(Q.put A.mp (.map (mG i64 (fun x:AV=>x) pm))).get A.mp=some (.map (mG i64 (fun x:AV=>x) pm)):=by rw[Mem.get_put,if_pos rfl]
    have stQ:Q.get A.ms=some (.map []):=by
     have hms:=h61.wf _ _ h61.stale
     rw[hkQ.old _ (show A.ms<(M61.kill A.mp).next from hms) (by simp;exact fun e=>w5 e.symm),Mem.get_kill,if_neg (fun e=>w6 e.symm)]
     exact h61.stale
    have stS:(Q.put A.mp (.map (mG i64 (fun x:AV=>x) pm))).get A.ms=some (.map []):=by rw[Mem.get_put,if_neg (fun e=>w6 e.symm)];exact stQ
    have hrS:=stepX hrQ kS av_mp.1 w2
    have hbS:=hbQ.keep hkQ.wf kS (by simp[w4]) hT1
    generalize Q.put A.mp (.map (mG i64 (fun x:AV=>x) pm))=Q1 at*
    have flS:∀ {Q':Mem},FR A Q' { R.1 with now:=0 } C61 m61→eLd tb 80 (.ptr A.f 8) Q'=some (.map A.mp,Q')∧eLd tb 81 (.ptr A.f 9) Q'=some (.map A.ms,Q'):=fun {Q'} hr'=>⟨lZs (lZc ty80' rfl hr'.fl (o:=8) (v:= .map A.mp) rfl),lZs (lZc ty81 rfl hr'.fl (o:=9) (v:= .map A.ms) rfl)⟩
    refine bZi eZn ?_
    refine bZi fa_mp ?_
    rw[zZp]
    refine bZi (flS hrS).1 ?_
    refine bZi (clr_map ty80' gS) ?_
    have kC:Keep Q1 (Q1.put A.mp (.map [])) [A.mp]:=Keep.put kS.wf (kS.wf _ _ gS) _
    have hrC:=stepX hrS kC av_mp.1 w2
    have hbC:=hbS.keep kS.wf kC (by simp[w4]) hT1
    have gC:(Q1.put A.mp (.map [])).get A.mp=some (.map []):=by rw[Mem.get_put,if_pos rfl]
    have stC:(Q1.put A.mp (.map [])).get A.ms=some (.map []):=by rw[Mem.get_put,if_neg (fun e=>w6 e.symm)];exact stS
    generalize Q1.put A.mp (.map [])=Q2 at*
    refine bZi eZn ?_
    refine bZi fa_ms ?_
    rw[zZp]
    refine bZi (flS hrC).2 ?_
    refine bZi (clr_map ty81 stC) ?_
    have kD:Keep Q2 (Q2.put A.ms (.map [])) [A.ms]:=Keep.put kC.wf (kC.wf _ _ stC) _
    have hrD:=stepX hrC kD av_mp.2.2 w3
    have hbD:=hbC.keep kC.wf kD (by simp[w5]) (fun c hc=>by rw[List.mem_singleton] at hc;rw[hc];exact av_mp.2.2)
    have gD:(Q2.put A.ms (.map [])).get A.mp=some (.map []):=by rw[Mem.get_put,if_neg (fun e=>w6 e)];exact gC
    have stD:(Q2.put A.ms (.map [])).get A.ms=some (.map []):=by rw[Mem.get_put,if_pos rfl]
    generalize Q2.put A.ms (.map [])=Q3 at*
    have KQ3:Keep N Q3 A.mw:=by
     refine ((((((K61.mono (S':=A.mw) fun c hc _=>hwm c hc).trans kkill (fun _ h _=>h) ?_).trans hkQ (fun _ h _=>h) ?_).trans kS (fun _ h _=>h) ?_).trans kC (fun _ h _=>h) ?_).trans kD (fun _ h _=>h) ?_)
     ·exact fun c hc _=>by rw[List.mem_singleton] at hc;subst hc;simp[Adr.mw]
     ·exact fun c hc _=>by rw[List.mem_singleton] at hc;subst hc;simp[Adr.mw]
     ·exact fun c hc _=>by rw[List.mem_singleton] at hc;subst hc;simp[Adr.mw]
     ·exact fun c hc _=>by rw[List.mem_singleton] at hc;subst hc;simp[Adr.mw]
     ·exact fun c hc _=>by rw[List.mem_singleton] at hc;subst hc;simp[Adr.mw]
    have hfm:FM A Q3 { R.1 with now:=0 } (fun _=>none) (ovl P B):=by
     refine⟨⟨C61,m61,hrD⟩,⟨[],gD,List.nodup_nil,fun q hq=>by simp at hq,fun n x hx=>by cases hx⟩,⟨bm',?_⟩,stD⟩
     have:(fun k:Int=>if k∈([]:List (Int×AV)).map (·.1) then (B k).map some else (ovl P B k).map some)=fun n=>(ovl P B n).map some:=by funext k;simp
     rw[this] at hbD
     exact hbD
    have hpre:=puts_pre hq hP (by omega) hep (B:=B) (by rw[hR];exact e)
    rw[hR] at hpre
    have hops2:R.1.ops+1000≤1000000000:=by
     have:=hpre.2.2
     omega
    refine (j_level hrD (show Pre { R.1 with now:=0 } (nB R.1) by rw[hpre.2.1];exact hpre.1) hops2).mono ?_
    rintro y Q4 ⟨C4,m4,rfl,hr4,k4⟩
    simp only[i64,zZi]
    rw[hflx]
    have h4:=hfm.step k4 ⟨C4,m4,hr4⟩
    refine⟨fun hno=>absurd hno hne,fun _=>⟨by first|trivial|rfl,KQ3.trans k4 (fun _ h _=>h) (fun c hc _=>hwm c hc),fun _=>h4,fun _=> .inr h4⟩⟩
   ·
    obtain⟨q,hqi,e1⟩:∃ q,rem'[i]? =some q∧(kx,vx)=(i64 q.1,q.2):=by
     unfold mG at hi
     rw[List.getElem?_map] at hi
     obtain⟨q,h1,h2⟩:=Option.map_eq_some_iff.1 hi
     exact⟨q,h1,h2.symm⟩
    injection e1 with e1 e2
    subst e1 e2
    have hqm:q∈pm:=hsub q (List.mem_of_getElem? hqi)
    have hpr:=erase_perm hqi
    have hme:(mG i64 (fun x:AV=>x) rem').eraseIdx i=mG i64 (fun x:AV=>x) (rem'.eraseIdx i):=map_erase _ _ _
    rw[hme]
    have hsub':∀ q'∈rem'.eraseIdx i,q'∈pm:=fun q' h'=>hsub q' (List.mem_of_mem_eraseIdx h')
    have hkp:(rem'.map (·.1)).Perm (q.1::(rem'.eraseIdx i).map (·.1)):=hpr.map _
    have hnd2:=hkp.nodup_iff.1 hnd
    rw[List.nodup_cons] at hnd2
    have hkeys:∀ k,k∈(rem'.eraseIdx i).map (·.1)↔(k∈rem'.map (·.1)∧k≠q.1):=fun k=>by
     rw[hkp.mem_iff,List.mem_cons]
     constructor
     ·intro hk
      exact⟨.inr hk,fun e=>hnd2.1 (e▸hk)⟩
     ·rintro⟨h1|h1,h2⟩
      ·exact absurd h1 h2
      ·exact h1
    simp only[i64,zZi]
    refine bZi eZn ?_
    refine bZi fa_mb ?_
    rw[zZp]
    have lmb:eLd tb 80 (.ptr A.f 7) Q=some (.map A.mb,Q):=lZs (lZc ty80' rfl hrQ.fl (o:=7) (v:= .map A.mb) rfl)
    refine bZi lmb ?_
    have toQ:∀ d,PgS M61 A q.2 d→PgS Q A q.2 d:=fun d hd=>(hd.keep h61.wf kkill hT1).keep kkill.wf hkQ hT2
    rcases hp61.ent q hqm with⟨e3,e4⟩|⟨d,e4,e5⟩
    ·obtain⟨pm',p1,p2,_⟩:=hbQ.put hkQ.wf av_mp.2.1 q.1 q.2 none (.inl ⟨e3,rfl⟩)
     refine bZi p1 ?_
     rw[e3]
     have e6:eBin tb .eql 37 (.tmp 79) (.const (.slice none 0 0)) nilS nilS (Q.put A.mb (.map (mG i64 (fun x:AV=>x) pm')))=some (.val (.bool true),Q.put A.mb (.map (mG i64 (fun x:AV=>x) pm'))):=nil_eqS
     refine bZi e6 ?_
     rw[zZb,cZt]
     have k1:Keep Q (Q.put A.mb (.map (mG i64 (fun x:AV=>x) pm'))) [A.mb]:=Keep.put hkQ.wf (hkQ.wf _ _ hbQ.get) _
     have hr1:=stepX hrQ k1 av_mp.2.1 w1
     have kk1:=hkQ.trans k1 (fun _ h _=>h) (fun _ h _=>h)
     generalize Q.put A.mb (.map (mG i64 (fun x:AV=>x) pm'))=Q1 at*
     refine bZi eZn ?_
     refine bZi fa_mb ?_
     rw[zZp]
     have lmb1:eLd tb 80 (.ptr A.f 7) Q1=some (.map A.mb,Q1):=lZs (lZc ty80' rfl hr1.fl (o:=7) (v:= .map A.mb) rfl)
     refine bZi lmb1 ?_
     obtain⟨pm2,d1,d2⟩:=mpok_del p2 k1.wf av_mp.2.1 (n:=q.1) (x:=none) (by unfold updN;rw[if_pos rfl])
     refine bZi d1 ?_
     have k2:Keep Q1 (Q1.put A.mb (.map (mG i64 (fun x:AV=>x) pm2))) [A.mb]:=Keep.put k1.wf (k1.wf _ _ p2.get) _
     refine⟨rem'.eraseIdx i,pm2,rfl,hsub',hnd2.2,stepX hr1 k2 av_mp.2.1 w1,?_,kk1.trans k2 (fun _ h _=>h) (fun _ h _=>h)⟩
     have hfun:(fun k:Int=>if k∈(rem'.eraseIdx i).map (·.1) then (B k).map some else (ovl P B k).map some)=fun k=>if k=q.1 then none else updN (fun k=>if k∈rem'.map (·.1) then (B k).map some else (ovl P B k).map some) q.1 none k:=by
      funext k
      by_cases ek:k=q.1
      ·rw[if_pos ek,if_neg (fun hm=>((hkeys k).1 hm).2 ek)]
       unfold ovl
       rw[ek,e4]
       rfl
      ·rw[if_neg ek]
       unfold updN
       rw[if_neg ek]
       dsimp only
       by_cases hm:k∈rem'.map (·.1)
       ·rw[if_pos hm,if_pos ((hkeys k).2 ⟨hm,ek⟩)]
       ·rw[if_neg hm,if_neg (fun h=>hm ((hkeys k).1 h).1)]
     rw[hfun]
     exact d2
    ·obtain⟨pm',p1,p2,_⟩:=hbQ.put hkQ.wf av_mp.2.1 q.1 q.2 (some d) (.inr ⟨d,rfl,toQ d e5⟩)
     refine bZi p1 ?_
     have e6:eBin tb .eql 37 (.tmp 79) (.const (.slice none 0 0)) q.2 nilS (Q.put A.mb (.map (mG i64 (fun x:AV=>x) pm')))=some (.val (.bool false),Q.put A.mb (.map (mG i64 (fun x:AV=>x) pm'))):=by
      obtain⟨b,o,c1,c2,e',hsl⟩:=e5.2.1
      rw[hsl]
      exact sl_eq
     refine bZi e6 ?_
     rw[zZb,cZf]
     have k1:Keep Q (Q.put A.mb (.map (mG i64 (fun x:AV=>x) pm'))) [A.mb]:=Keep.put hkQ.wf (hkQ.wf _ _ hbQ.get) _
     refine⟨rem'.eraseIdx i,pm',rfl,hsub',hnd2.2,stepX hrQ k1 av_mp.2.1 w1,?_,hkQ.trans k1 (fun _ h _=>h) (fun _ h _=>h)⟩
     have hfun:(fun k:Int=>if k∈(rem'.eraseIdx i).map (·.1) then (B k).map some else (ovl P B k).map some)=updN (fun k=>if k∈rem'.map (·.1) then (B k).map some else (ovl P B k).map some) q.1 (some d):=by
      funext k
      unfold updN
      by_cases ek:k=q.1
      ·rw[if_pos ek,if_neg (fun hm=>((hkeys k).1 hm).2 ek)]
       unfold ovl
       rw[ek,e4]
       rfl
      ·rw[if_neg ek]
       dsimp only
       by_cases hm:k∈rem'.map (·.1)
       ·rw[if_pos hm,if_pos ((hkeys k).2 ⟨hm,ek⟩)]
       ·rw[if_neg hm,if_neg (fun h=>hm ((hkeys k).1 h).1)]
     rw[hfun]
     exact p2
 clear hK28
 simp only[bne_self_eq_false,cZf]
 refine bZi eZn ?_
 refine bZi fa_mp ?_
 rw[zZp]
 refine bZi h18.lmp ?_
 refine bZi (len_map hp18.get) ?_
 rw[zZi]
 unfold mG
 rw[List.length_map]
 by_cases hno:∀ n,P n=none
 ·have:pm=[]:=by
   cases pm with
   | nil=>rfl
   | cons q l=>
     rcases hp.ent q (by simp) with⟨_,a⟩|⟨d,a,_⟩
     ·rw[hno] at a;cases a
     ·rw[hno] at a;cases a
  subst this
  exact key28t hno
 ·have:pm.length≠0:=fun e=>hno fun n=>by
   cases hpp:P n with
   | none=>rfl
   | some v=>
     obtain⟨q',hq',_⟩:=hp.cov _ _ hpp
     rw[List.eq_nil_of_length_eq_zero e] at hq'
     simp at hq'
  have hb:((pm.length:Int)==0)=false:=by
   cases e:((pm.length:Int)==0) with
   | false=>rfl
   | true=>rw[beq_iff_eq] at e;omega
  rw[hb]
  exact key28f hno
end
theorem mem_updF{m:List (Int×Fd)}(hn:(m.map (·.1)).Nodup)(p:Int)(f:Fd)(q:Int×Fd):q∈updF m p f↔q=(p,f)∨(q∈m∧q.1≠p):=by
 unfold updF
 cases h:lkF m p with
 | none=>
   have hno:=lkF_none h
   simp only[List.mem_append,List.mem_singleton]
   constructor
   ·rintro (h1|h1)
    ·exact .inr ⟨h1,fun e=>hno (List.mem_map.2 ⟨q,h1,e⟩)⟩
    ·exact .inl h1
   ·rintro (h1|⟨h1,_⟩)
    ·exact .inr h1
    ·exact .inl h1
 | some r=>
   have hr:=lkF_lt h
   obtain⟨hlt,hre⟩:=List.getElem?_eq_some_iff.1 hr
   have hmem:(p,r.2)∈m:=List.mem_of_getElem? hr
   simp only
   have e1:m=m.take r.1++(p,r.2)::m.drop (r.1+1):=by
    have h0:=List.take_append_drop r.1 m
    rw[List.drop_eq_getElem_cons hlt,hre] at h0
    exact h0.symm
   have e2:m.set r.1 (p,f)=m.take r.1++(p,f)::m.drop (r.1+1):=by rw[List.set_eq_take_append_cons_drop,if_pos hlt]
   rw[e2]
   have hn':=hn
   rw[e1,List.map_append,List.map_cons,List.nodup_append,List.nodup_cons] at hn'
   obtain⟨_,⟨n1,_⟩,n2⟩:=hn'
   have k1:∀ q∈m.take r.1,q.1≠p:=fun q hq e=>n2 q.1 (List.mem_map.2 ⟨q,hq,rfl⟩) p (by simp) e
   have k2:∀ q∈m.drop (r.1+1),q.1≠p:=fun q hq e=>n1 (List.mem_map.2 ⟨q,hq,e⟩)
   have hm:q∈m↔q∈m.take r.1∨q=(p,r.2)∨q∈m.drop (r.1+1):=by
    conv=>lhs;rw[e1]
    simp only[List.mem_append,List.mem_cons]
   rw[hm,List.mem_append,List.mem_cons]
   constructor
   ·rintro (h1|h1|h1)
    ·exact .inr ⟨.inl h1,k1 q h1⟩
    ·exact .inl h1
    ·exact .inr ⟨.inr (.inr h1),k2 q h1⟩
   ·rintro (h1|⟨h1|h1|h1,h2⟩)
    ·exact .inr (.inl h1)
    ·exact .inl h1
    ·rw[h1] at h2;exact absurd rfl h2
    ·exact .inr (.inr h1)
def dk(last:Int)(t:Tg):Prop:=(t.k=1∨t.k=2)∧t.e≤last
structure NwOk (last:Int) (pre:List Fd) (m:List (Int×Fd)):Prop where
 nd:(m.map (·.1)).Nodup
 snd:∀ q∈m,q.2∈pre∧dk last q.2.t∧q.2.t.p=q.1∧∀ g∈pre,dk last g.t→g.t.p=q.1→newer g.t q.2.t=false
 cmp:∀ g∈pre,dk last g.t→∃ q∈m,q.1=g.t.p
theorem NwOk.step{last:Int}{pre:List Fd}{m:List (Int×Fd)}(h:NwOk last pre m)(x:Fd):NwOk last (pre++[x]) (nwS last m x):=by
 unfold nwS
 by_cases hx:dk last x.t
 ·have hc:¬ ((x.t.k≠1∧x.t.k≠2)∨x.t.e>last):=by
   obtain⟨h1,h2⟩:=hx
   omega
  rw[if_neg hc]
  have put:(∀ y,(x.t.p,y)∈m→newer x.t y.t=true)→NwOk last (pre++[x]) (updF m x.t.p x):=fun hn=>by
   refine⟨(updF_keys h.nd).1,fun q hq=>?_,fun g hg hd=>?_⟩
   ·rcases (mem_updF h.nd _ _ q).1 hq with rfl|⟨hq,hne⟩
    ·refine⟨by simp,hx,rfl,fun g hg hd hp=>?_⟩
     rw[List.mem_append,List.mem_singleton] at hg
     rcases hg with hg|rfl
     ·obtain⟨⟨c,y⟩,hy,hyc⟩:=h.cmp g hg hd
      simp only at hyc
      have hcp:c=x.t.p:=by rw[hyc];exact hp
      subst hcp
      exact newer_trans ((h.snd _ hy).2.2.2 g hg hd hp) (hn y hy)
     ·rw[newer_not];exact .inr ⟨rfl,Int.le_refl _⟩
    ·obtain⟨h1,h2,h3,h4⟩:=h.snd q hq
     refine⟨by simp[h1],h2,h3,fun g hg hd hp=>?_⟩
     rw[List.mem_append,List.mem_singleton] at hg
     rcases hg with hg|rfl
     ·exact h4 g hg hd hp
     ·exact absurd hp.symm hne
   ·rw[List.mem_append,List.mem_singleton] at hg
    rcases hg with hg|rfl
    ·obtain⟨q,hq,e⟩:=h.cmp g hg hd
     by_cases e2:q.1=x.t.p
     ·exact⟨(x.t.p,x),(mem_updF h.nd _ _ _).2 (.inl rfl),by rw[← e,e2]⟩
     ·exact⟨q,(mem_updF h.nd _ _ _).2 (.inr ⟨hq,e2⟩),e⟩
    ·exact⟨_,(mem_updF h.nd _ _ _).2 (.inl rfl),rfl⟩
  cases hl:lkF m x.t.p with
  | none=>
    have hno:=lkF_none hl
    exact put fun y hy=>absurd (List.mem_map.2 ⟨_,hy,rfl⟩) hno
  | some r=>
    have hr:=List.mem_of_getElem? (lkF_lt hl)
    have uniq:∀ y,(x.t.p,y)∈m→y=r.2:=fun y hy=>by
     obtain⟨pre',post',e,e1,e2⟩:=split_key h.nd hr
     rw[e,List.mem_append,List.mem_cons] at hy
     rcases hy with hy|hy|hy
     ·exact absurd rfl (e1 _ hy)
     ·injection hy
     ·exact absurd rfl (e2 _ hy)
    simp only
    by_cases hnw:newer x.t r.2.t=true
    ·rw[if_pos hnw]
     exact put fun y hy=>by rw[uniq y hy];exact hnw
    ·rw[if_neg hnw]
     refine⟨h.nd,fun q hq=>?_,fun g hg hd=>?_⟩
     ·obtain⟨h1,h2,h3,h4⟩:=h.snd q hq
      refine⟨by simp[h1],h2,h3,fun g hg hd hp=>?_⟩
      rw[List.mem_append,List.mem_singleton] at hg
      rcases hg with hg|rfl
      ·exact h4 g hg hd hp
      ·have hq':(g.t.p,q.2)∈m:=by rw[hp];exact hq
       rw[uniq _ hq']
       simpa using hnw
     ·rw[List.mem_append,List.mem_singleton] at hg
      rcases hg with hg|rfl
      ·exact h.cmp g hg hd
      ·exact⟨_,hr,rfl⟩
 ·have hc:(x.t.k≠1∧x.t.k≠2)∨x.t.e>last:=by
   unfold dk at hx
   by_cases h1:x.t.e>last
   ·exact .inr h1
   ·left
    constructor
    ·intro h2;exact hx ⟨.inl h2,by omega⟩
    ·intro h2;exact hx ⟨.inr h2,by omega⟩
  rw[if_pos hc]
  refine⟨h.nd,fun q hq=>?_,fun g hg hd=>?_⟩
  ·obtain⟨h1,h2,h3,h4⟩:=h.snd q hq
   refine⟨by simp[h1],h2,h3,fun g hg hd hp=>?_⟩
   rw[List.mem_append,List.mem_singleton] at hg
   rcases hg with hg|rfl
   ·exact h4 g hg hd hp
   ·exact absurd hd hx
  ·rw[List.mem_append,List.mem_singleton] at hg
   rcases hg with hg|rfl
   ·exact h.cmp g hg hd
   ·exact absurd hd hx
theorem nwN_ok(last:Int)(l:List Fd):∀ n,n≤l.length→NwOk last (l.take n) (nwN last l n)
 | 0,_=>⟨List.nodup_nil,fun q hq=>by simp[nwN] at hq,fun g hg=>by simp at hg⟩
 | n+1,h=>by
   have ih:=nwN_ok last l n (by omega)
   rw[nwN_succ (by omega),List.take_add_one,List.getElem?_eq_getElem (by omega)]
   exact ih.step _
theorem nwF_ok(l:List Fd):NwOk (lastF l) l (nwF l):=by
 have:=nwN_ok (lastF l) l l.length (Nat.le_refl _)
 rw[List.take_length] at this
 exact this
theorem nw_best{S:Ps}(hi:PInv S){l:List Fd}(hl:∀ f,f∈l↔f∈fds S){p:Int}(hp:0≤p)(b i:Nat)(v:Ver):Best S (p,false) b i v↔verAt S b i=some v∧(p,(⟨(b:Int),(i:Int),v.t⟩:Fd))∈nwF l:=by
 have hlast:lastF l=lastX S:=lastF_mem hl
 have hok:=nwF_ok l
 rw[hlast] at hok
 have kk:∀ b i w,verAt S b i=some w→(dk (lastX S) w.t∧w.t.p=p↔cls S w.t=some (p,false)):=fun b i w hw=>by
  have hm:=okL_may (hi.tag b i w hw).1
  unfold cls clsF dk
  by_cases h3:w.t.k=3
  ·rw[if_pos h3]
   simp[h3]
   omega
  ·rw[if_neg h3]
   by_cases h4:w.t.e>lastX S
   ·rw[if_pos h4]
    constructor
    ·intro h;omega
    ·intro h;split at h <;> simp at h
   ·rw[if_neg h4]
    simp
    omega
 have inl:∀ b i w,verAt S b i=some w→(⟨(b:Int),(i:Int),w.t⟩:Fd)∈l:=fun b i w hw=>(hl _).2 (mem_fds.2 ⟨b,i,w,hw,rfl⟩)
 constructor
 ·rintro⟨h1,h2,h3⟩
  obtain⟨d1,d2⟩:=(kk b i v h1).2 h2
  obtain⟨⟨c,f⟩,hf,hc⟩:=hok.cmp _ (inl b i v h1) d1
  simp only at hc
  have hcp:c=p:=by rw[hc];exact d2
  subst hcp
  obtain⟨s1,s2,s3,s4⟩:=hok.snd _ hf
  obtain⟨b',i',w,hw,e⟩:=mem_fds.1 ((hl _).1 s1)
  simp only at e s2 s3 s4
  subst e
  have n1:=s4 _ (inl b i v h1) d1 d2
  have n2:=h3 b' i' w hw ((kk b' i' w hw).1 ⟨s2,s3⟩)
  rw[newer_not] at n1 n2
  simp only at n1 n2
  obtain⟨rfl,rfl⟩:=hi.sq.one _ _ _ _ _ _ h1 hw (by omega)
  rw[h1] at hw
  injection hw with hw
  subst hw
  exact⟨h1,hf⟩
 ·rintro⟨h1,hf⟩
  obtain⟨s1,s2,s3,s4⟩:=hok.snd _ hf
  refine⟨h1,(kk b i v h1).1 ⟨s2,s3⟩,fun b' i' u hu hcu=>?_⟩
  obtain⟨u1,u2⟩:=(kk b' i' u hu).2 hcu
  exact s4 _ (inl b' i' u hu) u1 u2
theorem ofF_mem{m:List (Int×Fd)}(hn:(m.map (·.1)).Nodup){p:Int}{f:Fd}(h:(p,f)∈m):ofF m p=f:=by
 unfold ofF
 cases hl:lkF m p with
 | none=>exact absurd (List.mem_map.2 ⟨_,h,rfl⟩) (lkF_none hl)
 | some r=>
   have hr:=List.mem_of_getElem? (lkF_lt hl)
   obtain⟨pre',post',e,e1,e2⟩:=split_key hn h
   rw[e,List.mem_append,List.mem_cons] at hr
   rcases hr with hr|hr|hr
   ·exact absurd rfl (e1 _ hr)
   ·cases hr;rfl
   ·exact absurd rfl (e2 _ hr)
theorem all_mem{S:Ps}(hi:PInv S){l:List Fd}(hl:∀ f,f∈l↔f∈fds S){ps:List Int}(hps:ps.Perm ((nwF l).map (·.1)))(f:Fd):
 f∈((ps.map (ofF (nwF l))).filter fun f=>decide (f.t.k=1))↔∃ (b i:Nat) (v:Ver),f=⟨b,i,v.t⟩∧Best S (v.t.p,false) b i v∧v.t.k=1:=by
 have hok:=nwF_ok l
 rw[List.mem_filter,List.mem_map,decide_eq_true_eq]
 constructor
 ·rintro⟨⟨p,hp,rfl⟩,hk⟩
  obtain⟨q,hq,rfl⟩:=List.mem_map.1 (hps.mem_iff.1 hp)
  have e:=ofF_mem hok.nd (show (q.1,q.2)∈nwF l from hq)
  rw[e] at hk ⊢
  obtain⟨s1,s2,s3,s4⟩:=hok.snd q hq
  obtain⟨b,i,w,hw,e'⟩:=mem_fds.1 ((hl _).1 s1)
  have hwp:w.t.p=q.1:=by rw[← s3,e']
  have h0:=(okL_may (hi.tag b i w hw).1).2.2.2.1
  refine⟨b,i,w,e',(nw_best hi hl h0 b i w).2 ⟨hw,?_⟩,by rw[e'] at hk;exact hk⟩
  rw[hwp,← e'];exact hq
 ·rintro⟨b,i,v,rfl,hb,hk⟩
  have h0:=(okL_may (hi.tag b i v hb.1).1).2.2.2.1
  obtain⟨_,hm⟩:=(nw_best hi hl h0 b i v).1 hb
  exact⟨⟨v.t.p,hps.mem_iff.2 (List.mem_map.2 ⟨_,hm,rfl⟩),ofF_mem hok.nd hm⟩,hk⟩
end Go.Proofs.YtlogedcoiogagaaGreat
