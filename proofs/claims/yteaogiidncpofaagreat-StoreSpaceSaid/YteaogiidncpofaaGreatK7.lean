import Derived.Test.YteaogiidncpofaaGreatA45
import Derived.Test.YteaogiidncpofaaGreatB3
import Derived.Test.YteaogiidncpofaaGreatK6
import Derived.Test.YteaogiidncpofaaGreatQA
set_option linter.unusedSimpArgs false
set_option linter.unusedVariables false
set_option linter.unusedSectionVars false
set_option maxRecDepth 100000
namespace Go.Proofs.YteaogiidncpofaaGreat
open Go.AM
theorem aLT{p:Nat}{M:aC}{xo yo:Operand}:cZ tb .eql 58 xo yo (.ptr p 0) (.val (.pointer none)) M=some (.val (.bool false),M):=cB (by kernel_rfl)
section
variable {M0:aC} {k n:Int} {M N:aC} {A:bL} {S:Ps} {P:Int→Option (Option bZ)} {B:Int→Option bZ} {sb mb:Nat} {g:eF} {l:Obj}
theorem LF.rng(h:LF M0 g k n A M S P B){z:Int}{d:bZ}(hz:jO P B z=some d):0≤z∧z<eL g:=by
 unfold jO at hz
 cases hP:P z with
 | none=>
   rw[hP] at hz
   by_cases h0:z<0
   ·rw[h.neg z h0] at hz;cases hz
   ·have:=(h.base.rng h.q.inv (by omega) hz).1
    rw[h.g] at this
    omega
 | some x=>
   have:=h.pend.rng z x hP
   rw[h.g] at this
   exact this
theorem aHf(h:LF M0 g k n A M S P B):aB tb.P 41 [.ptr A.f 0] M fun y N=>y= .ptr A.p 0∧N=M:=by
 obtain⟨C,m,hr⟩:=h.fm.fr
 exact aQx M A.f (dZ A S) A.p C hr.flat
theorem aSv(h:LF M0 g k n A M S P B):aB tb.P 42 [.ptr A.p 0] M fun y N=>y= .val (.bool true)∧N=M:=by
 obtain⟨C,m,hr⟩:=h.fm.fr
 refine (aLJ M h.wf A.p C hr.chip).mono fun y N ⟨h1,h2⟩=>⟨?_,h2⟩
 rw[h1,hr.rel.calm.off];rfl
theorem aPp(h:LF M0 g k n A M S P B):aB tb.P 61 [.ptr A.p 0] M fun y N=>y=fX g∧aD M N []:=by
 obtain⟨C,m,hr⟩:=h.fm.fr
 refine (aOK M h.wf A.p C hr.chip).mono fun y N ⟨h1,h2⟩=>⟨?_,h2⟩
 rw[h1,hr.rel.g,h.g]
theorem aCI(hF:LF M0 g k n A M S NoP B)(h:OM M A sb mb g l)(hfew:(S.fs.length:Int)≤g.sp)(hn:n≤900000000)(hk:k≤16777214):
 aB tb.P 15 [.ptr sb 0] M fun y N=>y=i64 0∧∃ S',LF M0 g (k+1) (n+31000) A N S' NoP (aED g.by'.toNat (xZ l))∧S'.fs=S.fs∧OM N A sb mb g l∧aD M N A.all:=by
 have hg:=hF.may
 have hw:=hF.wf
 obtain⟨hb,hb1,hb2⟩:=kK hg
 have hlg:=vG hg
 have hnp:(dC g.by'.toNat (xZ l).length:Int)≤eL g:=by
  have h1:=aBA (b:=g.by'.toNat) (by omega) l
  have h2:=h.ok.room
  omega
 refine aPe ?_
 unfold F15
 refine aG nJ ?_
 simp only[cO,fG]
 refine aG dB ?_
 refine aG nH.1 ?_
 simp only[bV]
 refine aG h.ldf ?_
 refine (aHf hF).mono ?_
 rintro _ M ⟨rfl,rfl⟩
 refine (aSv hF).mono ?_
 rintro _ M ⟨rfl,rfl⟩
 simp only[cO,Bool.not_true,fG]
 refine aG dB ?_
 refine aG nH.1 ?_
 simp only[bV]
 refine aG h.ldf ?_
 refine (aF9 hF).mono ?_
 rintro _ M ⟨rfl,rfl⟩
 simp only[cO,fG]
 refine aG dB ?_
 refine aG nH.2.1 ?_
 simp only[bV]
 refine aG h.ldg ?_
 refine⟨_,_,_,_,_,rfl,?_⟩
 refine (aNR h hw hg).mono ?_
 rintro y31 M32 ⟨hy,k32,_⟩
 refine⟨aG (h.keep0 hw k32).ldg rfl,?_⟩
 have hslen:(xZ l).length≤1048576:=by
  rw[aDa]
  have h1:=h.ok.sum hg
  have h2:=(h.ok.small hg).1
  omega
 refine (aRV M32 k32.wf g hg y31 (xZ l) hy hslen (by omega)).mono ?_
 rintro y34 M35 ⟨bs,hbl,hx,hbs,k35',hfb,hfx⟩
 have k35:=k32.trans0 k35'
 have hF35:=hF.keep k35
 have h35:=h.keep0 hw k35
 have hlt:=hF.lt
 have hbA:∀ c∈bs,c∉A.all:=fun c hc hm=>by
  have:=hfb c hc
  have:=hlt c hm
  have:=k32.nxt
  omega
 have hxA:∀ c,aN y34 c→c∉A.all:=fun c hc hm=>by
  have:=hfx c hc
  have:=hlt c hm
  have:=k32.nxt
  omega
 have hyl:∀ N,bD tb false 81 y34 N=some bs.length:=fun N=>by
  have:=aO.len (M':=N) hx.at aMl rfl
  rwa [List.length_map] at this
 refine aG (iO (hyl _)) ?_
 simp only[aJ]
 have part:∀ {Q:aC},aD M35 Q A.all→∀ (j:Nat) (hj:j<bs.length),∃ b o,bU tb 81 y34 (.val (.int .i64 (j:Int))) Q=some (.ptr b o,Q)∧aH tb 25 (.ptr b o) Q=some (ptA g.by'.toNat bs[j],Q)∧aI Q (ptA g.by'.toNat bs[j]) (ctC g.by'.toNat (xZ l) j):=fun {Q} kQ j hj=>by
  have hxQ:nK Q y34 (bs.map (ptA g.by'.toNat)):=hx.mono fun c r hc hr=>kQ.get k35'.wf hr (hxA c hc)
  obtain⟨b,o,h1,_,h2⟩:=lV.one aMl gG rfl rfl hxQ.at (i:=j) (by rw[List.length_map];exact hj)
  rw[List.getElem_map] at h2
  refine⟨b,o,h1 Q,h2,?_⟩
  have hgb:=kQ.get k35'.wf (hbs j hj) (hbA _ (List.getElem_mem hj))
  have hcl:=zJ g.by'.toNat (xZ l) j
  refine⟨by simp,.inr ⟨_,_,_,_,by unfold ptA;rw[hcl],⟨Nat.le_refl _,.inl rfl⟩,.inr ⟨_,_,hgb,by simp,by rw[List.drop_zero,List.take_of_length_le (by simp)]⟩⟩⟩
 refine⟨fun z q Q=>∃ (j:Nat) (P:Int→Option (Option bZ)),z=j∧q=bs.length-j∧j≤bs.length∧LF M0 g k n A Q S P B∧OM Q A sb mb g l∧aD M35 Q A.all∧∀ z:Int,jO P B z=if 0≤z∧z<j then some (ctC g.by'.toNat (xZ l) z.toNat) else B z,
  ⟨bs.length,0,NoP,rfl,rfl,Nat.zero_le _,hF35,h35,aD.refl k35.wf,fun z=>by rw[if_neg (by omega)];rfl⟩,?_⟩
 rintro _ z q Q ⟨j,P,rfl,rfl,hj,hFQ,hQ,kQ,hov⟩
 refine aT (fun hlt=>?_) (fun hge=>?_)
 ·have hlt:j<bs.length:=Int.ofNat_lt.1 (of_decide_eq_true hlt)
  have hz:0≤(j:Int)∧(j:Int)<eL g:=by omega
  refine bE fun K71 hK71=>?_
  have next:∀ Q' P',LF M0 g k n A Q' S P' B→OM Q' A sb mb g l→aD M35 Q' A.all→jO P' B j=some (ctC g.by'.toNat (xZ l) j)→(∀ z:Int,z≠j→jO P' B z=jO P B z)→K71 Q':=fun Q' P' c1 c2 c3 c4 c5=>by
   rw[hK71]
   refine⟨bs.length-(j+1),by omega,j+1,P',dE (by omega),rfl,hlt,c1,c2,c3,fun z=>?_⟩
   by_cases e:z=j
   ·subst e
    rw[c4,if_pos (by omega),Int.toNat_natCast]
   ·rw[c5 z e,hov]
    by_cases h1:0≤z∧z<(j:Int)
    ·rw[if_pos h1,if_pos (by omega)]
    ·rw[if_neg h1,if_neg (by omega)]
  obtain⟨b,o,p1,p2,p3⟩:=part kQ j hlt
  refine aG p1 ?_
  simp only[bV]
  refine aG p2 ?_
  refine aG dB ?_
  refine aG nH.1 ?_
  simp only[bV]
  refine aG hQ.ldf ?_
  refine (aG8 hFQ hz).mono ?_
  rintro y52 M53 ⟨hF53,k53,hr⟩
  have h53:=hQ.keep0 hFQ.wf k53
  have kQ53:aD M35 M53 A.all:=kQ.trans (k53.mono (by simp)) (fun c hc _=>hc) (fun c hc _=>hc)
  have wr:∀ K61:Bool→aC→Prop,(∀ b M60,K61 b M60=aE b (K71 M60) (aA (aU (.ptr sb 0) M60) fun y62=>aA (cG tb 77 y62.1 0 M60) fun y63=>zP y63.1 fun p64 o65=>aA (aH tb 58 (.ptr p64 o65) M60) fun y66=>aB tb.P 47 [y66.1,(.val (.int .i64 (j:Int))),ptA g.by'.toNat bs[j]] M60 fun y67 M68=>zI .i64 y67 fun z69=>aE (z69 != (0:Int)) ((fun y N=>y=i64 0∧∃ S',LF M0 g (k+1) (n+31000) A N S' NoP (aED g.by'.toNat (xZ l))∧S'.fs=S.fs∧OM N A sb mb g l∧aD M N A.all) (.val (.int .i64 z69)) M68) (K71 M68)))→K61 false M53:=fun K61 hK61=>by
   rw[hK61,fG]
   refine aG dB ?_
   refine aG nH.1 ?_
   simp only[bV]
   refine aG h53.ldf ?_
   obtain⟨_,_,_,_,p4⟩:=part kQ53 j hlt
   refine (aKN hF53 hz p4 (by rw[zJ];omega)).mono ?_
   rintro _ M68 ⟨rfl,hF68,k68⟩
   simp only[i64,aJ]
   refine aT (fun h=>absurd h (by decide)) fun _=>?_
   exact next M68 _ hF68 (h53.keep hF53.wf k68) (kQ53.trans k68 (fun c hc _=>hc) (fun c hc _=>hc)) (by rw[aDk,if_pos rfl]) (fun z hz=>by rw[aDk,if_neg hz])
  rcases hr with⟨hno,rfl⟩|⟨x,d,hd,rfl,hgr,_⟩
  ·refine⟨_,_,rfl,?_⟩
   refine bE fun K61 hK61=>?_
   refine aT (fun h=>absurd h (by decide)) fun _=>?_
   exact wr K61 fun b M60=>by rw[hK61]
  ·refine⟨_,_,rfl,?_⟩
   refine bE fun K61 hK61=>?_
   refine aT (fun _=>?_) fun h=>absurd h (by decide)
   obtain⟨_,_,_,_,p4⟩:=part kQ53 j hlt
   have hdl:=hFQ.len hz.1 hd
   refine (aMw M53 x _ d _ hgr.at p4 (by omega) (by rw[zJ];omega)).mono ?_
   rintro _ _ ⟨rfl,rfl⟩
   simp only[cO]
   by_cases e:d=ctC g.by'.toNat (xZ l) j
   ·rw[decide_eq_true e,hK61]
    dsimp only
    simp only[jF]
    exact next _ P hF53 h53 kQ53 (by rw[hd,e]) (fun z _=>rfl)
   ·rw[decide_eq_false e]
    exact wr K61 fun b M60=>by rw[hK61]
 ·have hj:j=bs.length:=by
   have:¬ (j:Int)<(bs.length:Int):=of_decide_eq_false hge
   omega
  subst hj
  refine aG dB ?_
  refine aG nH.1 ?_
  simp only[bV]
  refine aG hQ.ldf ?_
  refine (aDY hFQ).mono ?_
  rintro y78 M79 ⟨hF79,hy78,k79,hf78⟩
  have h79:=hQ.keep0 hFQ.wf k79
  have kQ79:aD M35 M79 A.all:=kQ.trans (k79.mono (by simp)) (fun c hc _=>hc) (fun c hc _=>hc)
  obtain⟨ps,hps⟩:∃ ps,ps=pgN (jO P B) (eL g).toNat:=⟨_,rfl⟩
  rw[← hps] at hy78
  have hpl:ps.length≤160:=by
   have:=aHc (jO P B) (eL g).toNat
   rw[hps];omega
  have hpA:∀ c,aN y78 c→c∉A.all:=fun c hc hm=>by
   have:=hf78 c hc
   have:=hFQ.lt c hm
   omega
  refine aG (iO (hy78.len (M':=M79))) ?_
  simp only[aJ]
  refine⟨fun z q Q=>∃ (j:Nat) (P':Int→Option (Option bZ)),z=j∧q=ps.length-j∧j≤ps.length∧LF M0 g k n A Q S P' B∧OM Q A sb mb g l∧aD M79 Q A.all∧∀ z:Int,jO P' B z=if z∈ps.take j∧(bs.length:Int)≤z then none else jO P B z,
   ⟨ps.length,0,P,rfl,rfl,Nat.zero_le _,hF79,h79,aD.refl k79.wf,fun z=>by rw[if_neg (by simp)]⟩,?_⟩
  rintro _ z q Q2 ⟨j,P',rfl,rfl,hj,hF2,h2,k2,hov2⟩
  refine aT (fun hlt=>?_) (fun hge=>?_)
  ·have hlt:j<ps.length:=Int.ofNat_lt.1 (of_decide_eq_true hlt)
   refine bE fun K103 hK103=>?_
   have hyQ:dJ Q2 y78 ps:=aO.mono hy78 fun c r hc hr=>k2.get k79.wf hr (hpA c hc)
   obtain⟨b,o,p1,p2⟩:=hyQ.at hlt
   refine aG (bH p1) ?_
   simp only[bV]
   refine aG (aS p2) ?_
   simp only[i64,aJ]
   refine aG (iO (hyl _)) ?_
   simp only[aJ]
   have hmem:ps[j]∈pgN (jO P B) (eL g).toNat:=by rw[← hps];exact List.getElem_mem hlt
   obtain⟨hm1,hm2⟩:=aJq.1 hmem
   have hnd:ps.Nodup:=by rw[hps];exact aRy _ _
   have hnot:ps[j]∉ps.take j:=fun hm=>by
    obtain⟨i,hi,e⟩:=List.getElem_of_mem hm
    rw[List.length_take] at hi
    rw[List.getElem_take] at e
    have:=(List.getElem_inj hnd).1 e
    omega
   have htk:ps.take (j+1)=ps.take j++[ps[j]]:=List.take_succ_eq_append_getElem hlt
   refine aT (fun hl=>?_) (fun hl=>?_)
   ·have hl:=of_decide_eq_true hl
    rw[hK103]
    refine⟨ps.length-(j+1),by omega,j+1,P',dE (by omega),rfl,hlt,hF2,h2,k2,fun z=>?_⟩
    rw[hov2,htk]
    by_cases e:z=ps[j]
    ·subst e
     rw[if_neg (by omega),if_neg (by omega)]
    ·have:(z∈ps.take j++[ps[j]])↔z∈ps.take j:=by rw[List.mem_append,List.mem_singleton];exact⟨fun h=>h.resolve_right e,.inl⟩
     simp only[this]
   ·have hl:¬ ps[j]<(bs.length:Int):=of_decide_eq_false hl
    refine aG dB ?_
    refine aG nH.1 ?_
    simp only[bV]
    refine aG h2.ldf ?_
    refine (aLw hF2 (z:=ps[j]) (by omega)).mono ?_
    rintro y99 M100 ⟨_,t2⟩
    obtain⟨rfl,hF100,k100⟩:=t2 (by
     rw[hov2,if_neg fun h=>hnot h.1]
     intro hno
     rw[hno] at hm2;cases hm2)
    simp only[i64,aJ]
    refine aT (fun h=>absurd h (by decide)) fun _=>?_
    rw[hK103]
    refine⟨ps.length-(j+1),by omega,j+1,_,dE (by omega),rfl,hlt,hF100,h2.keep hF2.wf k100,k2.trans k100 (fun c hc _=>hc) (fun c hc _=>hc),fun z=>?_⟩
    rw[aDk,htk]
    by_cases e:z=ps[j]
    ·subst e
     rw[if_pos rfl,if_pos ⟨List.mem_append.2 (.inr (List.mem_singleton.2 rfl)),by omega⟩]
    ·have:(z∈ps.take j++[ps[j]])↔z∈ps.take j:=by rw[List.mem_append,List.mem_singleton];exact⟨fun h=>h.resolve_right e,.inl⟩
     rw[if_neg e,hov2]
     simp only[this]
  ·have hj:j=ps.length:=by
    have:¬ (j:Int)<(ps.length:Int):=of_decide_eq_false hge
    omega
   subst hj
   rw[List.take_length] at hov2
   have hfin:jO P' B=aED g.by'.toNat (xZ l):=by
    funext z
    rw[hov2]
    unfold aED
    by_cases h1:0≤z∧z<(dC g.by'.toNat (xZ l).length:Nat)
    ·rw[if_pos h1,if_neg (by omega),hov,if_pos (by omega)]
    ·rw[if_neg h1]
     by_cases h2:z∈ps∧(bs.length:Int)≤z
     ·rw[if_pos h2]
     ·rw[if_neg h2]
      cases hoz:jO P B z with
      | none=>rfl
      | some d=>
        exfalso
        have hr:=hFQ.rng hoz
        have:z∈ps:=by rw[hps];exact aJq.2 ⟨⟨hr.1,by omega⟩,by rw[hoz];rfl⟩
        exact h2 ⟨this,by omega⟩
   refine aG dB ?_
   refine aG nH.1 ?_
   simp only[bV]
   refine aG h2.ldf ?_
   refine (aKi hF2 hfew hn hk).mono ?_
   rintro _ N ⟨rfl,S',hF3,hfs3,k3⟩
   simp only[i64,aJ]
   rw[hfin] at hF3
   have kall:aD M N A.all:=((k35.mono (by simp)).trans kQ79 (fun c hc _=>hc) (fun c hc _=>hc)).trans (k2.trans k3 (fun c hc _=>hc) (fun c hc _=>hc)) (fun c hc _=>hc) (fun c hc _=>hc)
   exact⟨by trivial,S',hF3,hfs3,h2.keep hF2.wf k3,kall⟩
end
set_option maxRecDepth 100000
theorem aA8{M:aC}{x:AV}{d:bZ}(hx:aI M x d){lo hi:Option AV}{l r:Nat}(hlo:(lo=none∧l=0)∨lo=some (.val (.int .i64 (l:Int))))(hhi:(hi=none∧r=d.length)∨hi=some (.val (.int .i64 (r:Int))))(hlr:l≤r)(hrn:r≤d.length):
 ∃ y,(∀ N,xQ tb 25 x lo hi none N=some (y,N))∧aI M y ((d.drop l).take (r-l))∧∀ b,aN y b→aN x b:=by
 obtain⟨y,h1,h2,h3⟩:=aO.slice hx gG rfl vK rfl hlo hhi hlr hrn
 refine⟨y,fun N=>fH h1,?_,h3⟩
 unfold aI
 have e1:((d.drop l).take (r-l)).length=r-l:=by rw[List.length_take,List.length_drop];omega
 rw[e1]
 have e2:dH ((d.drop l).take (r-l))=((dH d).drop (l*1)).take ((r-l)*1):=by
  unfold dH
  rw[List.map_take,List.map_drop,Nat.mul_one,Nat.mul_one]
 rw[e2]
 exact h2
theorem aCG{M:aC}{x:AV}{d:bZ}(hx:aI M x d){r:Nat}(hr:r≤d.length):∃ y,(∀ N,xQ tb 25 x none (some (.val (.int .i64 (r:Int)))) none N=some (y,N))∧aI M y (d.take r)∧∀ b,aN y b→aN x b:=by
 obtain⟨y,h1,h2,h3⟩:=aA8 hx (lo:=none) (hi:=some (.val (.int .i64 (r:Int)))) (l:=0) (r:=r) (.inl ⟨rfl,rfl⟩) (.inr rfl) (Nat.zero_le _) hr
 exact⟨y,h1,h2,h3⟩
theorem aDe{M:aC}{x:AV}{d:bZ}(hx:aI M x d){l:Nat}(hl:l≤d.length):∃ y,(∀ N,xQ tb 25 x (some (.val (.int .i64 (l:Int)))) none none N=some (y,N))∧aI M y (d.drop l)∧∀ b,aN y b→aN x b:=by
 obtain⟨y,h1,h2,h3⟩:=aA8 hx (lo:=some (.val (.int .i64 (l:Int)))) (hi:=none) (l:=l) (r:=d.length) (.inr rfl) (.inl ⟨rfl,rfl⟩) hl (Nat.le_refl _)
 refine⟨y,h1,?_,h3⟩
 rwa [List.take_of_length_le (by rw[List.length_drop];omega)] at h2
def aAy(m:bZ):Nat:=m.foldl (fun a b=>a*256+b.toNat) 0
theorem aID(m:bZ)(b:BitVec 8):aAy (m++[b])=aAy m*256+b.toNat:=by unfold aAy;rw[List.foldl_append];rfl
theorem aBQ{m:bZ}{i:Nat}(hi:i<m.length):aAy (m.take (i+1))=aAy (m.take i)*256+(m[i]).toNat:=by rw[List.take_succ_eq_append_getElem hi,aID]
theorem aAa(M:aC)(x:AV)(m:bZ)(hx:aI M x m)(hm:m.length≤3):aB tb.P 100 [x] M fun y N=>y=i64 (aAy m:Nat)∧N=M:=by
 refine aM6 ?_
 unfold F100
 refine aG (iO hx.len) ?_
 simp only[aJ]
 refine⟨fun z i q P=>∃ j:Nat,z=((aAy (m.take j):Nat):Int)∧i=j∧q=m.length-j∧j≤m.length∧aAy (m.take j)<256^j∧P=M,⟨m.length,0,rfl,rfl,rfl,Nat.zero_le _,by simp[aAy],rfl⟩,?_⟩
 rintro _ _ _ _ P ⟨j,rfl,rfl,rfl,hj,hb,rfl⟩
 refine aT (fun hlt=>?_) (fun hge=>?_)
 ·have hlt:j<m.length:=Int.ofNat_lt.1 (of_decide_eq_true hlt)
  obtain⟨b,o,h1,h2⟩:=hx.at hlt
  refine aG (bH h1) ?_
  simp only[bV]
  refine aG (aS h2) ?_
  simp only[rZ,aJ]
  have h8:=(m[j]).isLt
  have hp:256^j≤256^2:=Nat.pow_le_pow_right (by decide) (by omega)
  refine⟨m.length-(j+1),by omega,j+1,?_,dE (by omega),rfl,hlt,?_,by trivial⟩
  ·rw[aKZ _ _ (by omega),aBQ hlt]
  ·rw[aBQ hlt,Nat.pow_succ]
   omega
 ·have hj:j=m.length:=by
   have:¬ (j:Int)<(m.length:Int):=of_decide_eq_false hge
   omega
  subst hj
  rw[List.take_length]
  exact⟨by trivial,by trivial⟩
theorem aHh{n:Nat}(hn:n<65536):aAy [bN (n/256),bN n]=n:=by
 show (0*256+(bN (n/256)).toNat)*256+(bN n).toNat=n
 unfold bN
 rw[BitVec.toNat_ofNat,BitVec.toNat_ofNat]
 omega
theorem aHy{n:Nat}(hn:n<16777216):aAy [bN (n/65536),bN (n/256),bN n]=n:=by
 show ((0*256+(bN (n/65536)).toNat)*256+(bN (n/256)).toNat)*256+(bN n).toNat=n
 unfold bN
 rw[BitVec.toNat_ofNat,BitVec.toNat_ofNat,BitVec.toNat_ofNat]
 omega
section
variable {M0:aC} {k n:Int} {M N:aC} {A:bL} {S:Ps} {P:Int→Option (Option bZ)} {B:Int→Option bZ} {sb mb:Nat} {g:eF} {l:Obj}
theorem aLf{l:Obj}(hs:nC l){j:Nat}(hj:j<l.length):pD (l.take (j+1))=fun z=>if z=((l[j]).1:Int) then some (l[j]).2 else pD (l.take j) z:=by
 have h1:nC (l.take (j+1)):=List.Pairwise.sublist (List.take_sublist _ _) hs
 have h2:nC (l.take j):=List.Pairwise.sublist (List.take_sublist _ _) hs
 have e:l.take (j+1)=l.take j++[l[j]]:=List.take_succ_eq_append_getElem hj
 have e2:l.take (j+1)=dO (l.take j) (l[j]).1 (l[j]).2:=by
  rw[aAm,e]
  intro o ho
  have hp:nC (l.take j++[l[j]]):=by rw[← e];exact h1
  unfold nC at hp
  rw[List.pairwise_append] at hp
  exact hp.2.2 o ho l[j] (by simp)
 rw[e2,zR h2]
theorem aPS(hF:LF M0 g k n A M S P B)(hbox:M.get sb=some (.cells (aHU A.f g mb) true))(hmap:M.get mb=some (.map []))(hout:sb∉A.all∧mb∉A.all)(hne:sb≠mb)(hext:mb∈A.ext)(hm0:M0.next≤mb)(hl:OkO g l){x:AV}{t:Nat}(hx:aI M x (xZ l++List.replicate t 0#8))(hxb:¬ aN x mb)(ht:t≤100000):
 aB tb.P 69 [.ptr sb 0,x] M fun y N=>y= .val (.bool true)∧LF M0 g k n A N S P B∧OM N A sb mb g l∧aD M N [mb]:=by
 have hg:=hF.may
 have hw:=hF.wf
 obtain⟨hsl,hsm⟩:=hl.small hg
 have hsum:=hl.sum hg
 have hsrl:=aDa l
 have hlen:(xZ l++List.replicate t 0#8).length=2+5*l.length+dI (iL l)+t:=by rw[List.length_append,hsrl,List.length_replicate]
 refine aK5 ?_
 unfold F69
 refine aG (iO hx.len) ?_
 simp only[aJ]
 refine aT (fun h=>absurd (of_decide_eq_true h) (by omega)) fun _=>?_
 obtain⟨y5,t1,t2,_⟩:=aCG hx (r:=2) (by omega)
 refine aG (t1 M) ?_
 have e5:(xZ l++List.replicate t 0#8).take 2=[bN (l.length/256),bN l.length]:=rfl
 rw[e5] at t2
 refine (aAa M y5 _ t2 (by simp)).mono ?_
 rintro _ M ⟨rfl,rfl⟩
 rw[aHh (by omega)]
 simp only[i64,aJ]
 obtain⟨y9,d1,d2,d3⟩:=aDe hx (l:=2) (by omega)
 refine aG (d1 M) ?_
 have e9:(xZ l++List.replicate t 0#8).drop 2=nF l++List.replicate t 0#8:=rfl
 rw[e9] at d2
 have hmb:mb<M.next:=hw _ _ hmap
 refine⟨fun x z q Q=>∃ j:Nat,z=j∧q=l.length-j∧j≤l.length∧aI Q x (nF (l.drop j)++List.replicate t 0#8)∧¬ aN x mb∧LF M0 g k n A Q S P B∧aD M Q [mb]∧∃ pm,jY Q A mb pm (fun n=>(pD (l.take j) n).map some),
  ⟨l.length,0,rfl,rfl,Nat.zero_le _,d2,fun h=>hxb (d3 _ h),hF,aD.refl hw,[],⟨hmap,List.nodup_nil,fun q hq=>by simp at hq,fun n x hx=>by cases hx⟩⟩,?_⟩
 rintro _ x z q Q ⟨j,rfl,rfl,hj,hxQ,hxb,hFQ,kQ,pm,hp⟩
 have hwQ:=hFQ.wf
 refine aT (fun hlt=>?_) (fun hge=>?_)
 ·have hlt:j<l.length:=Int.ofNat_lt.1 (of_decide_eq_true hlt)
  have hmem:=List.getElem_mem hlt
  have hbn:=hl.bnd _ hmem
  have hdl:=hsm _ hmem
  obtain⟨o,ho⟩:∃ o,o=l[j]:=⟨_,rfl⟩
  rw[← ho] at hbn hdl
  have hdrop:nF (l.drop j)=zS o++nF (l.drop (j+1)):=by
   rw[List.drop_eq_getElem_cons hlt,← ho];rfl
  obtain⟨W,hW⟩:∃ W,W=nF (l.drop (j+1))++List.replicate t 0#8:=⟨_,rfl⟩
  have hbytes:nF (l.drop j)++List.replicate t 0#8=zS o++W:=by rw[hdrop,hW,List.append_assoc]
  rw[hbytes] at hxQ
  have hol:=aDH o
  have hWl:W.length≤200000:=by
   have h1:(nF (l.drop (j+1))).length≤(nF l).length:=by
    have:nF l=nF (l.take (j+1))++nF (l.drop (j+1)):=by
     unfold nF
     rw[← List.flatMap_append,List.take_append_drop]
    rw[this,List.length_append];omega
   have h2:=aAx l
   rw[hW,List.length_append,List.length_replicate]
   omega
  have hxl:(zS o++W).length=5+o.2.length+W.length:=by rw[List.length_append,hol]
  refine aG (iO hxQ.len) ?_
  simp only[aJ]
  refine aT (fun h=>absurd (of_decide_eq_true h) (by omega)) fun _=>?_
  obtain⟨y18,s1,s2,_⟩:=aCG hxQ (r:=2) (by omega)
  refine aG (s1 Q) ?_
  obtain⟨y19,s3,s4,_⟩:=aA8 hxQ (lo:=some (.val (.int .i64 ((2:Nat):Int)))) (hi:=some (.val (.int .i64 ((5:Nat):Int)))) (l:=2) (r:=5) (.inr rfl) (.inr rfl) (by decide) (by omega)
  refine aG (s3 Q) ?_
  have e18:(zS o++W).take 2=[bN (o.1/256),bN o.1]:=rfl
  have e19:((zS o++W).drop 2).take (5-2)=[bN (o.2.length/65536),bN (o.2.length/256),bN o.2.length]:=rfl
  rw[e18] at s2
  rw[e19] at s4
  refine (aAa Q y18 _ s2 (by simp)).mono ?_
  rintro _ Q ⟨rfl,rfl⟩
  rw[aHh (by omega)]
  simp only[i64,aJ]
  refine (aAa Q y19 _ s4 (by simp)).mono ?_
  rintro _ Q ⟨rfl,rfl⟩
  rw[aHy (by omega)]
  simp only[i64,aJ]
  obtain⟨y26,s5,s6,s7⟩:=aDe hxQ (l:=5) (by omega)
  refine aG (s5 Q) ?_
  have e26:(zS o++W).drop 5=o.2++W:=rfl
  rw[e26] at s6
  refine bE fun K30 hK30=>?_
  refine aT (fun h=>absurd (of_decide_eq_true h) (by omega)) fun _=>?_
  refine aG (iO s6.len) ?_
  simp only[aJ]
  rw[decide_eq_false (by rw[List.length_append];omega),hK30]
  dsimp only
  simp only[fG]
  refine aG dB ?_
  refine aG nH.2.2 ?_
  simp only[bV]
  obtain⟨y35,s8,s9,_⟩:=aCG s6 (r:=o.2.length) (by rw[List.length_append];omega)
  refine aG (s8 Q) ?_
  rw[List.take_left] at s9
  have ldm:∀ {N:aC},aD M N [mb]→aH tb 75 (.ptr sb 6) N=some (.map mb,N):=fun {N} kN=>aS (eB sJ rfl (kN.get hw hbox (by simpa using hne)) (o:=6) rfl)
  refine aG (ldm kQ) ?_
  refine (nN Q hwQ y35 o.2 s9 hbn.2 (by omega)).mono ?_
  rintro y37 M38 ⟨g1,k38,g3⟩
  have kM38:aD M M38 [mb]:=kQ.trans (k38.mono (by simp)) (fun c hc _=>hc) (fun c hc _=>hc)
  refine⟨aG (ldm kM38) rfl,?_⟩
  have hF38:=hFQ.keep k38
  have hav:=hFQ.fm.av_lt hFQ.hext
  have hmA:mb∈A.av:=by simp only[bL.av,List.mem_append];exact .inr hext
  have hp38:=hp.keep hwQ k38 (by simp) (by simp)
  obtain⟨pm',p1,p2,_⟩:=hp38.put hF38.wf hmA (o.1:Int) y37 (some o.2) (.inr ⟨o.2,rfl,Gr.pg g1 hbn.2 fun c hc hm=>by have h1:=g3 c hc;have h2:=hav c hm;omega⟩)
  refine aG p1 ?_
  have kp:aD M38 (M38.put mb (.map (mG i64 (fun x:AV=>x) pm'))) [mb]:=aD.put hF38.wf (hF38.wf _ _ hp38.get) _
  obtain⟨y41,s10,s11,s12⟩:=aDe s6 (l:=o.2.length) (by rw[List.length_append];omega)
  refine aG (s10 _) ?_
  rw[List.drop_left] at s11
  have hyb:¬ aN y41 mb:=fun h=>hxb (s7 _ (s12 _ h))
  refine⟨l.length-(j+1),by omega,j+1,dE (by omega),rfl,hlt,?_,hyb,hF38.beside kp hout.2 hext hm0,kM38.trans kp (fun c hc _=>hc) (fun c hc _=>hc),pm',?_⟩
  ·rw[← hW]
   exact aO.mono s11 fun c r hc hr=>kp.get hF38.wf (k38.get hwQ hr (by simp)) (by rw[List.mem_singleton];intro e;rw[e] at hc;exact hyb hc)
  ·have e:lW (fun n=>(pD (l.take j) n).map some) (o.1:Int) (some o.2)=fun n=>(pD (l.take (j+1)) n).map some:=by
    funext z
    rw[aLf hl.srt hlt,← ho]
    unfold lW
    by_cases e:z=(o.1:Int)
    ·simp only[if_pos e];rfl
    ·simp only[if_neg e]
   rw[← e]
   exact p2
 ·have hj:j=l.length:=by
   have:¬ (j:Int)<(l.length:Int):=of_decide_eq_false hge
   omega
  subst hj
  rw[List.take_length] at hp
  exact⟨by trivial,hFQ,⟨kQ.get hw hbox (by simpa using hne),⟨pm,hp⟩,hl,hout,hne,hext⟩,kQ⟩
end
theorem aPK{f:Int→Option bZ}{np n:Nat}(h:np≤n)(hf:∀ z:Int,0≤z→((f z).isSome=true↔z<np)):pgN f n=(List.range np).map fun i:Nat=>(i:Int):=by
 unfold pgN
 have e:List.range n=List.range np++(List.range (n-np)).map (np+ ·):=by
  rw[← List.range_add]
  congr 1
  omega
 rw[e,List.map_append,List.filter_append,List.filter_eq_self.2,List.filter_eq_nil_iff.2,List.append_nil]
 ·intro z hz
  simp only[List.mem_map,List.mem_range] at hz
  obtain⟨_,⟨i,hi,rfl⟩,rfl⟩:=hz
  rw[hf _ (by omega)]
  omega
 ·intro z hz
  simp only[List.mem_map,List.mem_range] at hz
  obtain⟨i,hi,rfl⟩:=hz
  rw[hf _ (by omega)]
  omega
theorem aLl{pg:Nat→bZ}{b:Nat}(h:∀ i,(pg i).length=b)(j:Nat):((List.range j).flatMap pg).length=j*b:=by
 induction j with
 | zero=>simp
 | succ j ih=>
   rw[List.range_succ,List.flatMap_append,List.length_append,ih]
   show _+(pg j++[]).length=_
   rw[List.append_nil,h,Nat.add_mul,Nat.one_mul]
section
variable {M0:aC} {k n:Int} {M N:aC} {A:bL} {S:Ps} {P:Int→Option (Option bZ)} {B:Int→Option bZ} {sb mb:Nat} {g:eF} {l:Obj}
theorem aPl(hF:LF M0 g k n A M S NoP B)(hB:(B=fun _=>none)∧l=[]∨B=aED g.by'.toNat (xZ l)∧OkO g l):
 aB tb.P 33 [.ptr A.f 0] M fun y N=>∃ sb mb,y= .tup [.ptr sb 0,i64 0]∧LF M0 g k n { A with ext:=[sb,mb]++A.ext } N S NoP B∧OM N { A with ext:=[sb,mb]++A.ext } sb mb g l∧aD M N []∧M.next≤sb∧M.next≤mb:=by
 have hg:=hF.may
 have hw:=hF.wf
 obtain⟨hb,hb1,hb2⟩:=kK hg
 have hlg:=vG hg
 obtain⟨np,pg,hnp,hpgB,hpgN⟩:∃ (np:Nat) (pg:Nat→bZ),(np:Int)≤eL g∧(∀ i:Nat,i<np→B i=some (pg i))∧(∀ z:Int,0≤z→((B z).isSome=true↔z<np))∧(∀ i,(pg i).length=g.by'.toNat)∧(((B=fun _=>none)∧l=[]∧np=0)∨OkO g l∧(List.range np).flatMap pg=xZ l++List.replicate (np*g.by'.toNat-(xZ l).length) 0#8):=by
  rcases hB with⟨rfl,rfl⟩|⟨rfl,hl⟩
  ·exact⟨0,fun _=>List.replicate g.by'.toNat 0,by omega,fun i hi=>by omega,fun z hz=>⟨fun h=>(by cases h),fun h=>by omega⟩,fun i=>by simp,.inl ⟨rfl,rfl,rfl⟩⟩
  ·refine⟨dC g.by'.toNat (xZ l).length,ctC g.by'.toNat (xZ l),?_,fun i hi=>?_,fun z hz=>?_,zJ _ _,.inr ⟨hl,aKU (by omega) _⟩⟩
   ·have h1:=aBA (b:=g.by'.toNat) (by omega) l
    have h2:=hl.room
    omega
   ·unfold aED
    rw[if_pos (by omega),Int.toNat_natCast]
   ·unfold aED
    split
    ·rename_i h;exact⟨fun _=>h.2,fun _=>rfl⟩
    ·rename_i h;exact⟨fun h=>(by cases h),fun h'=>absurd ⟨hz,h'⟩ h⟩
 obtain⟨hpgN,hpl,hW⟩:=hpgN
 refine aQA ?_
 unfold F33
 refine aG aLT ?_
 simp only[cO,fG]
 refine (aHf hF).mono ?_
 rintro _ M ⟨rfl,rfl⟩
 refine (aPp hF).mono ?_
 rintro _ M6 ⟨rfl,k6⟩
 refine⟨_,_,_,_,_,rfl,?_⟩
 refine bE fun M12 hM12=>?_
 have hM12:M12=M6.new (.map []):=hM12
 have k12:aD M6 M12 []:=by rw[hM12];exact aD.new k6.wf _
 have g12:M12.get M6.next=some (.map []):=by rw[hM12];exact get_new _ _
 have n12:M12.next=M6.next+1:=by rw[hM12];rfl
 clear hM12
 have hbd:eBd tb 77 [(0,.ptr A.f 0),(1,fX g),(2,.map M6.next)] M12=some (.agg (aHU A.f g M6.next),M12):=by
  refine oC ?_
  rfl
 refine aG hbd ?_
 refine⟨_,_,_,_,_,_,_,rfl,?_⟩
 refine bE fun M21 hM21=>?_
 have hM21:M21=M12.new (.cells (aHU A.f g M6.next) true):=hM21
 have k21:aD M12 M21 []:=by rw[hM21];exact aD.new k12.wf _
 have g21:M21.get M12.next=some (.cells (aHU A.f g M6.next) true):=by rw[hM21];exact get_new _ _
 have n21:M21.next=M12.next+1:=by rw[hM21];rfl
 clear hM21 hbd
 have kM:=(k6.trans0 k12).trans0 k21
 obtain⟨sb,hsb⟩:∃ sb,sb=M12.next:=⟨_,rfl⟩
 obtain⟨mb,hmb⟩:∃ mb,mb=M6.next:=⟨_,rfl⟩
 rw[← hsb,← hmb] at g21
 rw[← hmb] at g12
 have g21m:=k21.get k12.wf g12 (by simp)
 rw[← hsb]
 have hne:sb≠mb:=by omega
 have hlt:=hF.lt
 have hkn:=k6.nxt
 have hno:∀ c,M6.next≤c→c∉A.all:=fun c hc hm=>by have:=hlt c hm;omega
 have hF21:=(hF.keep k6).aside (N:=M21) (k12.trans0 k21) (T:=[sb,mb]) (fun c hc=>by
  simp only[List.mem_cons,List.not_mem_nil,or_false] at hc
  rcases hc with rfl|rfl <;> omega)
 have hm0:M0.next≤mb:=by have:=hF.nx;omega
 have hout:sb∉({ A with ext:=[sb,mb]++A.ext }:bL).all∧mb∉({ A with ext:=[sb,mb]++A.ext }:bL).all:=⟨hno sb (by omega),hno mb (by omega)⟩
 have hext:mb∈({ A with ext:=[sb,mb]++A.ext }:bL).ext:=by simp
 obtain⟨A2,hA2⟩:∃ A2:bL,A2={ A with ext:=[sb,mb]++A.ext }:=⟨_,rfl⟩
 have hf2:A2.f=A.f:=by rw[hA2]
 rw[← hA2] at hF21 hout hext
 have hpgs:=aDY hF21
 rw[hf2] at hpgs
 refine hpgs.mono ?_
 clear hpgs
 rintro y22 M23 ⟨hF23,hy22,k23,hf22⟩
 have hpp:pgN (jO NoP B) (eL g).toNat=(List.range np).map fun i:Nat=>(i:Int):=aPK (by omega) hpgN
 rw[hpp] at hy22
 have hyl:∀ N,bD tb false 48 y22 N=some np:=fun N=>by
  have:=hy22.len (M':=N)
  rwa [List.length_map,List.length_range] at this
 refine aG (iO (hyl _)) ?_
 simp only[aJ]
 have hw23:=hF23.wf
 refine⟨fun x z q Q=>∃ j:Nat,z=j∧q=np-j∧j≤np∧LF M0 g k n A2 Q S NoP B∧aD M23 Q []∧Gr Q x ((List.range j).flatMap pg)∧∀ c,aN x c→M23.next≤c,⟨np,0,rfl,rfl,Nat.zero_le _,hF23,aD.refl hw23,.inl ⟨rfl,rfl⟩,fun c hc=>hc.elim⟩,?_⟩
 rintro _ x z q Q ⟨j,rfl,rfl,hj,hFQ,kQ,hx,hfx⟩
 refine aT (fun hlt=>?_) (fun hge=>?_)
 ·have hlt:j<np:=Int.ofNat_lt.1 (of_decide_eq_true hlt)
  obtain⟨b,o,h1,h2⟩:=(hy22.keep hw23 kQ).at (i:=j) (by simpa using hlt)
  refine aG (bH h1) ?_
  simp only[bV]
  refine aG (aS h2) ?_
  rw[List.getElem_map,List.getElem_range]
  simp only[i64,aJ]
  have hrd:=aG8 hFQ (z:=(j:Int)) (by omega)
  rw[hf2] at hrd
  refine hrd.mono ?_
  rintro y37 M38 ⟨hF38,k38,hr⟩
  have hov:jO NoP B (j:Int)=some (pg j):=hpgB j hlt
  rcases hr with⟨hno,_⟩|⟨v,d,hd,rfl,hgr,hfv⟩
  ·rw[hov] at hno;cases hno
  rw[hov] at hd
  injection hd with hd
  subst hd
  refine⟨_,_,rfl,?_⟩
  refine aT (fun h=>absurd h (by decide)) fun _=>?_
  refine aT (fun h=>by simp at h) fun _=>?_
  have hfl:((List.range j).flatMap pg).length≤160*64:=by
   rw[aLl hpl]
   exact Nat.mul_le_mul (by omega) hb2
  have hx38:Gr M38 x ((List.range j).flatMap pg):=hx.mono fun c r _ hr=>k38.get hFQ.wf hr (by simp)
  obtain⟨x',N,q1,q2,q3,_⟩:=Gr.grow hF38.wf hx38 hgr.at (by rw[hpl];omega) (by rw[hpl];omega)
  refine aG q1 ?_
  have kN:=iE (kQ.trans0 k38) q3 hfx
  have kQN:=iE (M:=M23) (kQ.trans0 k38) q3 hfx
  refine⟨np-(j+1),by omega,j+1,dE (by omega),rfl,hlt,hF23.keep kN,kN,?_,fun c hc=>?_⟩
  ·rw[List.range_succ,List.flatMap_append]
   show Gr N x' (_++(pg j++[]))
   rw[List.append_nil]
   exact q2
  ·rcases q3.blk c hc with h3|h3
   ·have:=kQ.nxt;have:=k38.nxt;omega
   ·exact hfx c h3
 ·have hj:j=np:=by
   have:¬ (j:Int)<(np:Int):=of_decide_eq_false hge
   omega
  subst hj
  have k21Q:=k23.trans0 kQ
  have gQ:=k21Q.get kM.wf g21 (by simp)
  have gQm:=k21Q.get kM.wf g21m (by simp)
  have kMQ:=kM.trans0 k21Q
  rcases hW with⟨rfl,rfl,rfl⟩|⟨hl,hW⟩
  ·rcases hx with⟨rfl,_⟩|⟨b0,h1,h2,_⟩
   rotate_left
   ·simp at h2
   have hrd:aB tb.P 69 [.ptr sb 0,jW] Q fun y N=>y= .val (.bool true)∧N=Q:=by
    refine aK5 ?_
    unfold F69
    have hln:bD tb false 25 jW Q=some 0:=(aO.nil (k:=1) (M:=Q)).len gG rfl
    refine aG (iO hln) ?_
    simp only[aJ]
    refine aT (fun _=>?_) fun h=>absurd h (by decide)
    refine aG (iO hln) ?_
    simp only[aJ]
    exact⟨rfl,by trivial⟩
   refine hrd.mono ?_
   rintro _ _ ⟨rfl,rfl⟩
   simp only[cO,Bool.not_true,fG]
   refine⟨sb,mb,rfl,by rw[← hA2];exact hFQ,?_,kMQ,by omega,by omega⟩
   rw[← hA2]
   refine⟨by rw[hf2];exact gQ,⟨[],gQm,List.nodup_nil,fun q hq=>by simp at hq,fun n x hx=>by cases hx⟩,⟨List.Pairwise.nil,fun o ho=>by simp at ho,?_⟩,hout,hne,hext⟩
   have:jC g.by'.toNat (iL [])=1:=by
    unfold jC rY dC iL
    simp only[List.map_nil,dI,List.foldl_nil]
    have:(2+0+(g.by'.toNat-2)-1)/(g.by'.toNat-2)=1:=by
     rw[Nat.div_eq_of_lt_le] <;> omega
    omega
   omega
  ·rw[hW] at hx
   have hjb:j*g.by'.toNat≤160*64:=Nat.mul_le_mul (by omega) hb2
   have hxm:¬ aN x mb:=fun h=>by
    have:=hfx mb h
    have:=k23.nxt
    omega
   refine (aPS hFQ (by rw[hf2];exact gQ) gQm hout hne hext hm0 hl hx.at hxm (by omega)).mono ?_
   rintro _ N ⟨rfl,hFN,hON,kN⟩
   simp only[cO,Bool.not_true,fG]
   refine⟨sb,mb,rfl,by rw[← hA2];exact hFN,by rw[← hA2];exact hON,?_,by omega,by omega⟩
   refine⟨kN.wf,Nat.le_trans kMQ.nxt kN.nxt,fun c hc _=>?_⟩
   rw[kN.old c (Nat.lt_of_lt_of_le hc kMQ.nxt) (by simp;omega),kMQ.old c hc (by simp)]
end
def vQ(z:Int)(n:Nat):bZ:=(List.range n).map fun i:Nat=>BitVec.ofInt 8 (z+((3*i:Nat):Int))
@[simp] theorem tW (z:Int) (n:Nat):(vQ z n).length=n:=by simp[vQ]
theorem aHK(z:Int)(k:Nat):vQ z (k+1)=vQ z k++[BitVec.ofInt 8 (z+((3*k:Nat):Int))]:=by
 unfold vQ
 rw[List.range_succ,List.map_append,List.map_cons,List.map_nil]
theorem aFU(M:aC)(hw:M.WF)(a:Int)(n:Nat)(hn:n≤70000):aB tb.P 14 [.val (.int .u8 a),i64 (n:Int)] M fun y N=>aD M N []∧aI N y (vQ a n)∧∀ c,aN y c→M.next≤c:=by
 refine aPQ ?_
 unfold F14
 simp only[i64,aJ]
 refine aG (nQ _ _ _) ?_
 simp only[aJ]
 have hmn:yM tb #[3,3] 3 [.int .i64 (max (n:Int) 0),.int .i64 70000] M=some (.val (.int .i64 (n:Int)),M):=by
  have:yM tb #[3,3] 3 [.int .i64 (max (n:Int) 0),.int .i64 70000] M=some (.val (.int .i64 (if (70000:Int)<max (n:Int) 0 then 70000 else max (n:Int) 0)),M):=rfl
  rw[this]
  congr 4
  split <;> omega
 refine aG hmn ?_
 simp only[aJ]
 have hmk:=aCu (T:=tb) (M:=M) gG rfl vK (l:=n) (c:=n) (by omega) (by simp only;omega) (by omega) (k1:= .i64) (k2:= .i64)
 refine aG hmk ?_
 have hz:repA n (ofVs ([Value.int .u8 0]:List Value))=dH (vQ a 0++List.replicate (n-0) 0#8):=by
  simp only[ofVs,ofV,oD,vQ,List.range_zero,List.map_nil,List.nil_append,Nat.sub_zero]
  simp[dH,rZ]
 have hw1:(M.new (.cells (repA n (ofVs ([Value.int .u8 0]:List Value))) true)).WF:=hw.new _
 refine⟨fun z q P=>∃ (k:Nat),z=(k:Int)∧q=n-k∧k≤n∧aD M P []∧P.get M.next=some (.cells (dH (vQ a k++List.replicate (n-k) 0#8)) true),⟨n,0,rfl,rfl,Nat.zero_le _,aD.new hw _,by rw[get_new,hz]⟩,?_⟩
 rintro _ z q P ⟨k,rfl,rfl,hk,hK,hg⟩
 have hlen:bD tb false 25 (.sl M.next 0 n n none) P=some n:=rfl
 refine aG (iO hlen) ?_
 simp only[aJ]
 refine aT (fun hlt=>?_) (fun hge=>?_)
 ·have hlt:k<n:=Int.ofNat_lt.1 (of_decide_eq_true hlt)
  have hia:bU tb 25 (.sl M.next 0 n n none) (.val (.int .i64 (k:Int))) P=some (.ptr M.next k,P):=by
   refine bH ?_
   unfold bJ
   rw[gG]
   simp only[vK,Int.toNat_natCast]
   have h0:decide (0≤(k:Int))=true:=by simp
   simp only[h0,blt_of hlt,cond_true]
   simp
  refine aG hia ?_
  simp only[bV]
  have hl:(dH (vQ a k++List.replicate (n-k) 0#8)).length=n:=by simp;omega
  refine aG (oF (dK vK rfl rfl hg (by omega))) ?_
  refine⟨n-(k+1),by omega,k+1,dE (by omega),rfl,hlt,xD hK (Nat.le_refl _) (hK.wf _ _ hg) _,?_⟩
  have em:bT .i64 (k:Int) 3=((3*k:Nat):Int):=by rw[bT,aL (by omega) (by omega)];omega
  rw[aC.get_put,if_pos rfl,em,aIj,aHK]
  congr 2
  unfold dH
  rw[← List.map_set]
  congr 1
  rw[List.append_assoc]
  have e:List.replicate (n-k) 0#8=0#8::List.replicate (n-(k+1)) 0#8:=by
   rw[show n-k=(n-(k+1))+1 by omega,List.replicate_succ]
  rw[e]
  have e2:=List.set_append_right (s:=vQ a k) (t:=0#8::List.replicate (n-(k+1)) 0#8) k (BitVec.ofInt 8 (a+((3*k:Nat):Int))) (by simp)
  rw[tW,Nat.sub_self,List.set_cons_zero] at e2
  exact e2
 ·have hk':k=n:=by
   have:¬ (k:Int)<(n:Int):=of_decide_eq_false hge
   omega
  subst hk'
  rw[Nat.sub_self,List.replicate_zero,List.append_nil] at hg
  exact⟨hK,⟨by simp,.inr ⟨_,_,_,_,by rw[tW],⟨Nat.le_refl _,.inl rfl⟩,.inr ⟨_,_,hg,by simp,by rw[List.drop_zero,List.take_of_length_le (by simp)]⟩⟩⟩,fun c hc=>by rw[← hc.2];exact Nat.le_refl _⟩
section
variable {M0:aC} {k n:Int} {M N:aC} {A:bL} {S:Ps} {P:Int→Option (Option bZ)} {B:Int→Option bZ} {sb mb:Nat} {g:eF} {l:Obj}
theorem aFz{p:Nat}{C:aQ}(h:LC M0 g k n M p C S B)(hn:n≤1000000000)(hB:(B=fun _=>none)∧l=[]∨B=aED g.by'.toNat (xZ l)∧OkO g l):
 aB tb.P 8 [.ptr p 0] M fun y N=>∃ A S' sb mb,y= .tup [.ptr sb 0,i64 0]∧LF M0 g k (n+160) A N S' NoP B∧OM N A sb mb g l∧A.p=p∧S'.fs=S.fs∧A.ft=foot p C∧aD M N (foot p C)∧M0.next≤mb∧∀ c∈A.all,c∈foot p C∨M.next≤c:=by
 refine aSm ?_
 unfold F8
 refine (aJO h hn).mono ?_
 rintro _ M2 ⟨A,S',rfl,hF,hAp,hft,hfs,k2,hal⟩
 refine⟨_,_,rfl,?_⟩
 refine aT (fun h=>absurd h (by decide)) fun _=>?_
 refine (aPl hF hB).mono ?_
 rintro _ N ⟨sb,mb,rfl,hF2,hO,k3,h1,h2⟩
 exact⟨_,_,rfl,_,S',sb,mb,rfl,hF2,hO,hAp,hfs,hft,k2.trans k3 (fun c hc _=>hc) (by simp),by have:=hF.nx;omega,hal⟩
theorem aMN(h:OM M A sb mb g l):aB tb.P 27 [.ptr sb 0] M fun y N=>y= .ptr A.f 0∧N=M:=by
 refine aPn ?_
 unfold F27
 refine aG nJ ?_
 simp only[cO,fG]
 refine aG dB ?_
 refine aG nH.1 ?_
 simp only[bV]
 exact aG h.ldf ⟨rfl,by trivial⟩
end
theorem aNX{p:Nat}{M:aC}{xo yo:Operand}:cZ tb .neq 58 xo yo (.ptr p 0) (.val (.pointer none)) M=some (.val (.bool true),M):=cB (by kernel_rfl)
theorem aPw{M:aC}{xo yo:Operand}:cZ tb .eql 9 xo yo (.val (.string ⟨#[97,98]⟩)) (.val (.string ⟨#[97,98]⟩)) M=some (.val (.bool true),M):=cB (by kernel_rfl)
theorem ty9:∃ ti,tb.ty.get 9=some ti∧ti.k= .str:=by
 have h:(match tb.ty.get 9 with|some ti=>(match ti.k with| .str=>true|_=>false)|none=>false)=true:=by kernel_rfl
 cases e:tb.ty.get 9 with
 | none=>rw[e] at h;cases h
 | some ti=>
   rw[e] at h
   refine⟨ti,rfl,?_⟩
   simp only at h
   split at h
   ·assumption
   ·cases h
def abD:bZ:=[97#8,98#8]
theorem aCs(M:aC)(hw:M.WF):aB tb.P 6 [] M fun y N=>y= .val (.bool true):=by
 refine aSk ?_
 unfold F6
 refine aQQ ?_
 unfold F24
 refine bE fun M1 hM1=>?_
 have hM1:M1=M.new (.cells [i64 0,i64 0,i64 0,i64 0,i64 0] true):=hM1
 have hk1:aD M M1 []:=by rw[hM1];exact aD.new hw _
 have hg1:M1.get M.next=some (.cells [i64 0,i64 0,i64 0,i64 0,i64 0] true):=by rw[hM1];exact get_new _ _
 refine aG (aIX awG hg1 rfl) ?_
 have hk2:aD M (M1.put M.next (.cells (cW awG) true)) []:=xD hk1 (Nat.le_refl _) (hk1.wf _ _ hg1) _
 refine aG (aHe (g:=awG) (by rw[aC.get_put,if_pos rfl])) ?_
 generalize M1.put M.next (.cells (cW awG) true)=M2 at hk2 ⊢
 refine⟨_,_,_,_,_,rfl,?_⟩
 refine (aOD M2 hk2.wf awG _ [] (aO.nil) (by simp)).mono ?_
 rintro y8 M9 ⟨hk9,h9⟩
 rcases h9 with⟨hno,_⟩|⟨_,p,fsA,bb,bs,rfl,hc,hb,hf,hfi⟩
 ·exact absurd hno (by decide)
 have hlost:(dD (hC awG []):Int)≤awG.sp:=by decide
 have hL:=aEQ aBb hlost hk9 hc hb hf
 refine (aFz (l:=[]) hL (by decide) (.inl ⟨rfl,rfl⟩)).mono ?_
 rintro _ M11 ⟨A,S,sb,mb,rfl,hF,hO,hAp,hfs,_,_,hm0,_⟩
 refine⟨_,_,rfl,?_⟩
 refine bE fun K17 hK17=>?_
 refine aT (fun h=>absurd h (by decide)) fun _=>?_
 refine aG nJ ?_
 simp only[cO]
 rw[hK17]
 dsimp only
 simp only[fG]
 clear hK17
 clear K17
 refine bE fun M18 hM18=>?_
 have hM18:M18=M11.new (.cells (dH abD) true):=hM18
 have g18:M18.get M11.next=some (.cells (dH abD) true):=by rw[hM18];exact get_new _ _
 have k18:aD M11 M18 []:=by rw[hM18];exact aD.new hF.wf _
 have hcv:nY tb 25 25 (.sl M11.next 0 2 2 none) M18=some (.sl M11.next 0 2 2 none,M18.put M11.next (.cells (dH abD) false)):=by
  unfold nY
  rw[gG]
  simp only[vK,g18]
  rfl
 refine aG hcv ?_
 have k19:aD M11 (M18.put M11.next (.cells (dH abD) false)) []:=xD k18 (Nat.le_refl _) (k18.wf _ _ g18) _
 have b19:aI (M18.put M11.next (.cells (dH abD) false)) (.sl M11.next 0 2 2 none) abD:=⟨rfl,.inr ⟨_,_,_,_,rfl,⟨Nat.le_refl _,.inl rfl⟩,.inr ⟨_,_,by rw[aC.get_put,if_pos rfl],by decide,rfl⟩⟩⟩
 dsimp only
 generalize M18.put M11.next (.cells (dH abD) false)=M19 at k19 b19 ⊢
 have hneed:(jC awG.by'.toNat (iL (dO [] 3 abD)):Int)≤eL awG:=by decide
 refine (aK9 (hF.keep k19) (hO.keep0 hF.wf k19) hm0 (i:=3) (by decide) b19 (by decide) (by decide)).mono ?_
 rintro y20 M21 ⟨h1,_⟩
 obtain⟨rfl,hF,hO,_⟩:=h1 hneed
 simp only[i64,aJ]
 have hl:dO ([]:Obj) 3 abD=[(3,abD)]:=rfl
 rw[hl] at hO
 refine (aCI hF hO (by rw[hfs];decide) (by decide) (by decide)).mono ?_
 rintro _ M24 ⟨rfl,S2,hF,hfs2,hO,_⟩
 simp only[i64,aJ]
 obtain⟨C1,hL1,_⟩:=hF.left
 rw[hAp] at hL1
 refine (aFz (l:=[(3,abD)]) hL1 (by decide) (.inr ⟨rfl,hO.ok⟩)).mono ?_
 rintro _ M27 ⟨A,S3,sb,mb,rfl,hF,hO,_⟩
 refine⟨_,_,rfl,?_⟩
 refine bE fun K33 hK33=>?_
 refine aT (fun h=>absurd h (by decide)) fun _=>?_
 refine aG nJ ?_
 simp only[cO]
 rw[hK33]
 dsimp only
 simp only[fG]
 clear hK33
 clear K33
 refine (aKS hO hF.wf aBb (i:=3) (by decide)).mono ?_
 rintro y34 M35 ⟨k35,h35⟩
 have e3:pD ([(3,abD)]:Obj) ((3:Nat):Int)=some abD:=rfl
 rcases h35 with⟨hno,_⟩|⟨x,d,hd,rfl,hgr,_⟩
 ·rw[e3] at hno;cases hno
 rw[e3] at hd
 injection hd with hd
 subst hd
 refine⟨_,_,rfl,?_⟩
 have hF35:=hF.keep k35
 have hO35:=hO.keep0 hF.wf k35
 refine (aKS hO35 hF35.wf aBb (i:=4) (by decide)).mono ?_
 rintro y38 M39 ⟨k39,h39⟩
 have e4:pD ([(3,abD)]:Obj) ((4:Nat):Int)=none:=rfl
 rcases h39 with⟨_,rfl⟩|⟨x4,d4,hd4,_⟩
 rotate_left
 ·rw[e4] at hd4;cases hd4
 refine⟨_,_,rfl,?_⟩
 have hF39:=hF35.keep k39
 have hO39:=hO35.keep0 hF35.wf k39
 refine bE fun K60 hK60=>?_
 refine aT (fun _=>?_) fun h=>absurd h (by decide)
 refine aT (fun _=>?_) fun h=>absurd h (by decide)
 have hcs:nY tb 25 9 x M39=some (.val (.string ⟨#[97,98]⟩),M39):=by
  obtain⟨ti,t1,t2⟩:=ty9
  rcases hgr with⟨_,hno⟩|⟨b,rfl,_,_,hgb⟩
  ·cases hno
  have hgb39:=k39.get hF35.wf hgb (by simp)
  unfold nY
  rw[gG,t1]
  simp only[t2,vK]
  have hcl:M39.cellsAt b 0 abD.length=some (dH abD):=by
   unfold aC.cellsAt
   rw[hgb39]
   rfl
  rw[hcl]
  rfl
 refine aG hcs ?_
 refine aG aPw ?_
 simp only[cO,jF]
 refine aT (fun _=>?_) fun h=>absurd h (by decide)
 refine aT (fun _=>?_) fun h=>absurd h (by decide)
 refine (aOy hO39 hF39.wf aBb).mono ?_
 rintro y45 M46 ⟨hy,k46,_⟩
 refine bE fun M47 hM47=>?_
 have hM47:M47=M46.new (.cells [.val (.int .i64 3)] true):=hM47
 have k47:aD M46 M47 []:=by rw[hM47];exact aD.new k46.wf _
 have i47:dJ M47 (.sl M46.next 0 1 1 none) [3]:=by rw[hM47];exact aKw 3
 refine (aF4 M47 y45 _ [3] [3] (hy.keep k46.wf k47) i47 (by decide)).mono ?_
 rintro _ _ ⟨rfl,rfl⟩
 simp only[cO,decide_true,jF]
 have kk:=k46.trans0 k47
 refine (aIZ (hO39.keep0 hF39.wf kk) kk.wf aBb).mono ?_
 rintro _ M52 ⟨rfl,k52⟩
 have en:((jC awG.by'.toNat (iL [(3,abD)]):Nat):Int)=2:=by decide
 rw[en]
 simp only[i64,aJ]
 refine aT (fun _=>?_) fun h=>absurd h (by decide)
 refine (aMN (hO39.keep0 hF39.wf (kk.trans0 k52))).mono ?_
 rintro _ _ ⟨rfl,rfl⟩
 refine aG aNX ?_
 simp only[cO]
 rw[hK60]
open Go.Proofs.Tryz
def F4(a0 a1 a2:AV)(M:aC)(Q:AV→aC→Prop):Prop:=∃ K L N O R:Int,a0=(.agg [K,L,N,O,R])∧zI .i64 a1 fun D0=>zI .u8 a2 fun y=>aK (M.new (.cells [K,L,N,O,R] true)) fun S=>aA (aH tb 23 (.ptr M.next 0) S) fun E0=>∃ T U V W X:Int,E0.1=(.agg [T,U,V,W,X])∧(aB tb.P 18 [(.agg [T,U,V,W,X])] S fun F0 Y=>zB F0 fun G0=>aE (!G0) (aB tb.P 6 [] Y fun H0 I0=>zB H0 fun J0=>Q J0 I0) (aB tb.P 12 [D0,(3:Int)] Y fun K0 Z=>zI .i64 K0 fun i=>aA (aH tb 23 (.ptr M.next 0) Z) fun L0=>∃ c0 d0 e0 f0 g0:Int,L0.1=(.agg [c0,d0,e0,f0,g0])∧(aB tb.P 7 [(.agg [c0,d0,e0,f0,g0]),(.val (.slice none 0 0))] Z fun N0 O0=>aB tb.P 8 [N0] O0 fun P0 z=>∃ (c:AV) (h0:Int),P0=(.tup [c,h0])∧(aK (fun (R0:Bool)=>aE (R0) (Q false z) (aK (fun (A:Int) (j0:aC)=>aE (A==(0:Int)) (aK (fun (S0:Bool) (T0:aC)=>Q S0 T0) fun l0=>aB tb.P 15 [c] j0 fun U0 m0=>zI .i64 U0 fun V0=>aE (V0==(0:Int)) (aB tb.P 6 [] m0 fun W0 X0=>zB W0 fun Y0=>l0 Y0 X0) (l0 false m0)) (aB tb.P 15 [c] j0 fun Z0 c1=>zI .i64 Z0 fun d1=>aB tb.P 20 [c,(0:Int)] c1 fun e1 n0=>zI .i64 e1 fun f1=>aA (aH tb 3 (.ptr M.next 2) n0) fun g1=>zI .i64 g1.1 fun h1=>aB tb.P 14 [(.val (.int .u8 (aM .u8 y 1))),(bT .i64 (aM .i64 1 i) h1)] n0 fun j1 l1=>aB tb.P 13 [c,A,j1] l1 fun m1 n1=>zI .i64 m1 fun o1=>aB tb.P 15 [c] n1 fun r1 t1=>zI .i64 r1 fun u1=>aB tb.P 21 [c,A] t1 fun v1 e=>∃ (o0:AV) (r0:Int),v1=(.tup [o0,r0])∧(aK (fun (w1:Bool) (x1:aC)=>Q w1 x1) fun d=>aE (d1==(0:Int)) (aE (f1==(0:Int)) (aE (o1==(0:Int)) (aE (u1==(0:Int)) (aE (r0==(0:Int)) (aA (aH tb 3 (.ptr M.next 2) e) fun y1=>zI .i64 y1.1 fun A1=>aB tb.P 14 [(.val (.int .u8 (aM .u8 y 1))),(bT .i64 (aM .i64 1 i) A1)] e fun B1 C1=>aB tb.P 22 [o0,B1] C1 fun D1 B=>zB D1 fun E1=>aE (E1) (aA (aH tb 23 (.ptr M.next 0) B) fun F1=>∃ C D E F G:Int,F1.1=(.agg [C,D,E,F,G])∧(aB tb.P 17 [c] B fun G1 t0=>zI .i64 G1 fun H1=>(aA (aH tb 23 (.ptr M.next 0) t0) fun I1=>(some (.agg [C,D,E,F,G]):Option AV)=some I1.1)∧(aB tb.P 11 [(.agg [C,D,E,F,G])] t0 fun J1 u0=>zI .i64 J1 fun K1=>aE (decide (H1≤K1)) (aB tb.P 6 [] u0 fun L1 N1=>zB L1 fun O1=>d O1 N1) (d false u0)))) ((True)∧(d false B))) ((True)∧(d false e))) ((True)∧(d false e))) ((True)∧(d false e))) ((True)∧(d false e))) ((True)∧(d false e))))) fun v0=>∃ H:AV→Int→Nat→aC→Prop,(∃ P1:Nat,H (.val (.slice none 0 0)) (0:Int) P1 z)∧∀ (_:Nat→Option AV) (I:AV) (f:Int) (w0:Nat) (g:aC),H I f w0 g→(aE (decide (f<(200:Int))) (aK (⟨g.next+1,g.rows⟩:aC) fun p=>aA (aH tb 23 (.ptr M.next 0) p) fun R1=>∃ r s t u v:Int,R1.1=(.agg [r,s,t,u,v])∧(aA (aH tb 3 (.ptr M.next 2) p) fun S1=>zI .i64 S1.1 fun x0=>aA (aH tb 23 (.ptr M.next 0) p) fun T1=>∃ j k l m n:Int,T1.1=(.agg [j,k,l,m,n])∧(aA (aR tb 48 48 (.val (.slice none 0 0)) I p) fun o=>(aA (aH tb 23 (.ptr M.next 0) o.2) fun U1=>(some (.agg [r,s,t,u,v]):Option AV)=some U1.1)∧(aA (aH tb 3 (.ptr M.next 2) o.2) fun V1=>(some x0:Option AV)=some V1.1)∧(aA (aH tb 23 (.ptr M.next 0) o.2) fun W1=>(some (.agg [j,k,l,m,n]):Option AV)=some W1.1)∧(aK (o.2.put g.next (.cells [(bT .i64 (aM .i64 1 i) x0)] true)) fun X1=>aA (aR tb 48 48 o.1 (.sl g.next 0 1 1 none) X1) fun w=>(aA (aH tb 23 (.ptr M.next 0) w.2) fun Y1=>(some (.agg [r,s,t,u,v]):Option AV)=some Y1.1)∧(aA (aH tb 23 (.ptr M.next 0) w.2) fun Z1=>(some (.agg [j,k,l,m,n]):Option AV)=some Z1.1)∧(aB tb.P 19 [(.agg [r,s,t,u,v]),w.1] w.2 fun c2 y0=>zI .i64 c2 fun d2=>(aA (aH tb 23 (.ptr M.next 0) y0) fun e2=>(some (.agg [j,k,l,m,n]):Option AV)=some e2.1)∧(aB tb.P 11 [(.agg [j,k,l,m,n])] y0 fun f2 z0=>zI .i64 f2 fun g2=>aA (aH tb 3 (.ptr M.next 2) z0) fun h2=>zI .i64 h2.1 fun j2=>aB tb.P 14 [(.val (.int .u8 y)),(bT .i64 (aM .i64 1 i) j2)] z0 fun l2 m2=>aB tb.P 13 [c,f,l2] m2 fun n2 h=>zI .i64 n2 fun x=>aK (fun (o2:Bool)=>aE (o2) (Q false h) (aE (x != (0:Int)) (v0 f h) (aA (aH tb 3 (.ptr M.next 2) h) fun r2=>zI .i64 r2.1 fun t2=>aK (h.new (.cells [(bT .i64 (aM .i64 1 i) t2)] true)) fun u2=>aA (aR tb 48 48 I (.sl h.next 0 1 1 none) u2) fun A0=>∃ B0:Nat,B0<w0∧(H A0.1 (aM .i64 f 1) B0 A0.2)))) fun J=>aA (cZ tb .neq 4 (.tmp 67) (.tmp 68) ((x==(0:Int)):Bool) ((decide (d2≤g2)):Bool) h) fun v2=>zB v2.1 fun w2=>aE (w2) (J true) (aE (x != (0:Int)) (J (x != (8:Int))) (J false)))))))) (v0 f g)))) fun C0=>aE (h0 != (0:Int)) (C0 true) (aA (cZ tb .eql 30 (.tmp 37) (.const (.pointer none)) c (.val (.pointer none)) z) fun x2=>zB x2.1 fun y2=>C0 y2)))))
theorem aR4{a0 a1 a2 M Q}(h:F4 a0 a1 a2 M Q):aB tb.P 4 [a0,a1,a2] M Q:=qk3 f4 (qC (.seq (qD [sE,sB,sB] (.cnd (qE [sB]) .z)) (qD [sN,sI,sI] (qD [sE] (qD [sN,.tup [kA,kI],sN,sN,sI] (.seq (qF [sN,sB,sZ,sN,sB]) (qC (qC (.seq (.blk (.lop [(10,.any),(11,.int .i64)] ([6,12,13]++qn 40 86) (.seq (qD [sN,sB] qG) (.seq (.blk (.seq (.opn [(1,[]),(3,[]),(4,[]),(0,[]),(5,[]),(6,[]),(10,[]),(2,[0,5,10]),(7,[]),(8,[0,10]),(9,[10]),(11,[]),(12,[]),(13,[])] [0,0,0,0,0,0,0,0,0,0,0,0,0,0] [[],[],[0,5,10],[],[],[],[],[],[0,10],[10]] 1 [sN,sN,sP,sE,sI,sI,sE,sN,sN,sN,sI,sI,sB,sN]) (qD [sN,sN,sN,sN,sP,sI,sI,sN,sI] (.seq (qF [sN,sB,sN,sB,sZ,sN,sB,sZ,sN,sB]) (.seq (qD [sN,sB] qG) (.reg [sN,sN,sP,sI,sI])))))) (.reg [sN,sI]))))) (.seq (qD [sN,sB] (.cnd (qE [sN,sI,sB,sZ,sB]) .z)) (qD [sN,sI] (qD [sN,sI] (qD [sN,sN,sN,sU,sN,sP,sI,sI,sN,sI] (qD [sN,sI] (qD [sN,sN,.tup [kA,kI],sN,sN,sI] (.seq (.opn [(0,[]),(1,[]),(2,[]),(3,[]),(4,[]),(5,[]),(6,[]),(7,[]),(8,[]),(9,[]),(10,[]),(11,[]),(12,[]),(13,[]),(14,[]),(15,[]),(16,[]),(17,[]),(18,[]),(19,[]),(20,[]),(21,[]),(22,[]),(23,[]),(24,[]),(25,[]),(26,[]),(27,[]),(28,[]),(29,[]),(30,[]),(32,[]),(31,[32]),(33,[]),(34,[]),(35,[]),(36,[]),(37,[]),(38,[]),(39,[])] [] [[],[],[],[],[],[],[],[],[],[],[],[],[],[],[],[],[],[],[],[],[],[],[],[],[],[],[],[],[],[],[],[32]] 0 [sN,sB,sZ,sN,sB,sN,sZ,sN,sB,sN,sZ,sN,sB,sN,sZ,sN,sB,sN,sZ,sN,sN,sU,sN,sP,sI,sI,sN,sB,sN,sZ,sN,sE,sI,sI,sB,sN,sZ,sB,sN,sN]) .z)))))))))))))))) [kE,kI,.l (.int .u8)] h
theorem aRu{M:aC}(hw:M.WF):aD M ⟨M.next+1,M.rows⟩ []:=⟨fun b r h=>Nat.lt_succ_of_lt (hw b r h),Nat.le_succ _,fun _ _ _=>rfl⟩
theorem aHW{M:aC}(hw:M.WF){x:AV}{l:List AV}(h:nK M x l)(hl:l.length≤10000):
 ∃ x' N,aR tb 48 48 (.val (.slice none 0 0)) x M=some (x',N)∧nK N x' l∧aD M N []∧∀ c,aN x' c→M.next≤c:=by
 rcases h with⟨rfl,rfl⟩|⟨b,hg⟩
 ·exact⟨_,M,yJ (T:=tb) (k:=1) (vs:=[]) (us:=[]) uY rfl dX rfl aO.nil aO.nil,.inl ⟨rfl,rfl⟩,aD.refl hw,fun c hc=>hc.elim⟩
 ·obtain⟨N,h1,rfl⟩:=append_nil (T:=tb) (k:=1) uY rfl dX rfl hg.at hg.2.1 ⟨by simp only;omega,by omega⟩
  exact⟨_,_,h1,.inr ⟨M.next,rfl,hg.2.1,by simp,get_new _ _⟩,aD.new hw _,fun c hc=>by rw[← hc.2];exact Nat.le_refl _⟩
def mZ(i:Nat)(d:bZ):Obj:=(List.range i).map fun j=>(j,d)
theorem aAK{i:Nat}{d:bZ}{o:Nat×bZ}:o∈mZ i d↔o.1<i∧o.2=d:=by
 unfold mZ
 rw[List.mem_map]
 constructor
 ·rintro⟨j,hj,rfl⟩
  exact⟨List.mem_range.1 hj,rfl⟩
 ·rintro⟨h1,h2⟩
  exact⟨o.1,List.mem_range.2 h1,by rw[← h2]⟩
theorem aET(i:Nat)(d:bZ):iL (mZ i d)=List.replicate i d.length:=by
 refine List.eq_replicate_iff.2 ⟨by simp[iL,mZ],fun s hs=>?_⟩
 obtain⟨o,ho,rfl⟩:=List.mem_map.1 hs
 rw[(aAK.1 ho).2]
theorem aEv(i:Nat)(d e:bZ):dO (mZ i d) i e=mZ i d++[(i,e)]:=aAm (fun o ho=>(aAK.1 ho).1) e
theorem aCj(i:Nat)(d:bZ):mZ (i+1) d=mZ i d++[(i,d)]:=by
 unfold mZ
 rw[List.range_succ,List.map_append]
 rfl
theorem aJr(i:Nat)(d e:bZ)(he:e.length=d.length):iL (dO (tK (mZ (i+1) d) 0) (i+1) e)=List.replicate (i+1) d.length:=by
 have h1:tK (mZ (i+1) d) 0=(List.range i).map fun j=>(j+1,d):=by
  unfold tK mZ
  rw[List.range_succ_eq_map,List.map_cons,List.filter_cons,if_neg (by simp),List.map_map,List.filter_eq_self.2]
  ·rfl
  ·intro o ho
   obtain⟨j,_,rfl⟩:=List.mem_map.1 ho
   simp
 rw[aAm,h1]
 ·refine List.eq_replicate_iff.2 ⟨by simp[iL],fun s hs=>?_⟩
  obtain⟨o,ho,rfl⟩:=List.mem_map.1 hs
  rcases List.mem_append.1 ho with ho|ho
  ·obtain⟨j,_,rfl⟩:=List.mem_map.1 ho
   rfl
  ·rw[List.mem_singleton.1 ho]
   exact he
 ·intro o ho
  rw[h1] at ho
  obtain⟨j,hj,rfl⟩:=List.mem_map.1 ho
  have:=List.mem_range.1 hj
  simp only
  omega
theorem aOx{a b:Bool}{M:aC}{xo yo:Operand}(h:a=b):cZ tb .neq 4 xo yo (.val (.bool a)) (.val (.bool b)) M=some (.val (.bool false),M):=by
 subst h
 cases a <;> exact cB (by kernel_rfl)
section
variable {M0:aC} {g:eF} {k n:Int} {A:bL} {M:aC} {S:Ps} {P:Int→Option (Option bZ)} {B:Int→Option bZ} {sb mb:Nat} {l:Obj}
theorem LF.besides{N:aC}{T:List Nat}(h:LF M0 g k n A M S P B)(hk:aD M N T)(hT:∀ c∈T,c∈A.ext∧c∉A.all∧M0.next≤c):LF M0 g k n A N S P B:=
 { h with fm:=h.fm.keepX hk (fun c hc=>⟨(hT c hc).1,(hT c hc).2.1⟩),ext:=fun c hc=>Nat.lt_of_lt_of_le (h.ext c hc) hk.nxt,nx:=Nat.le_trans h.nx hk.nxt,low:=lE h.low h.nx (fun c hc=>(hT c hc).2.2) hk }
theorem LF.aside2{N:aC}{T0 T:List Nat}(h:LF M0 g k n A M S P B)(hk:aD M N T0)(hT0:∀ c∈T0,c∈A.ext∧c∉A.all∧M0.next≤c)(hT:∀ c∈T,M.next≤c∧c<N.next):LF M0 g k n { A with ext:=T++A.ext } N S P B:=
 { (h.besides hk hT0) with fm:=(h.fm.aside fun c hc=>(hT c hc).1).keepX hk (fun c hc=>⟨List.mem_append.2 (.inr (hT0 c hc).1),(hT0 c hc).2.1⟩),ext:=fun c hc=>(List.mem_append.1 hc).elim (fun hc=>(hT c hc).2) (fun hc=>Nat.lt_of_lt_of_le (h.ext c hc) hk.nxt),ge:=h.ge }
theorem OM.aside2{N:aC}{T0 T:List Nat}(h:OM M A sb mb g l)(hw:M.WF)(hk:aD M N T0)(hT0:∀ c∈T0,c∈A.ext∧c≠sb∧c≠mb)(hT:∀ c∈T,M.next≤c):OM N { A with ext:=T++A.ext } sb mb g l:=by
 obtain⟨pm,hp⟩:=h.map
 exact⟨hk.get hw h.box fun hm=>(hT0 _ hm).2.1 rfl,⟨pm,(hp.aside hw hT).keep hw hk (fun hm=>(hT0 _ hm).2.2 rfl) fun c hc=>by simp only[bL.av,List.mem_append];exact .inr (.inr (hT0 c hc).1)⟩,h.ok,h.out,h.ne,List.mem_append.2 (.inr h.ext)⟩
end
theorem aJA{M N:aC}{x x':AV}{l m:List AV}(h:nK M x l)(h':nK N x' m)(hg:eZ M N x x'):∃ T0 T:List Nat,(∀ c∈T0,aN x c)∧aD M N T0∧(∀ c∈T,aN x' c∧c<N.next)∧∀ c,aN x' c→c∈T:=by
 obtain⟨T0,t1,t2⟩:∃ T0:List Nat,(∀ c∈T0,aN x c)∧aD M N T0:=by
  rcases h with⟨rfl,_⟩|⟨b,h1,h2,_⟩
  ·exact⟨[],by simp,hg.wf,hg.nxt,fun c hc _=>hg.old c hc fun h=>h.elim⟩
  ·have hb:aN x b:=by rw[h1];exact⟨by omega,rfl⟩
   exact⟨[b],fun c hc=>by rw[List.mem_singleton.1 hc];exact hb,hg.wf,hg.nxt,fun c hc hn=>hg.old c hc fun h=>hn (by rw[h1] at h;rw[List.mem_singleton];exact h.2.symm)⟩
 obtain⟨T,t3,t4⟩:∃ T:List Nat,(∀ c∈T,aN x' c∧c<N.next)∧∀ c,aN x' c→c∈T:=by
  rcases h' with⟨rfl,_⟩|⟨b,h1,h2,_,h4⟩
  ·exact⟨[],by simp,fun c hc=>hc.elim⟩
  ·exact⟨[b],fun c hc=>by rw[List.mem_singleton.1 hc];exact⟨by rw[h1];exact⟨by omega,rfl⟩,hg.wf _ _ h4⟩,fun c hc=>by rw[h1] at hc;rw[List.mem_singleton];exact hc.2.symm⟩
 exact⟨T0,T,t1,t2,t3,t4⟩
theorem aEr(M:aC)(hw:M.WF)(g:eF)(z6:Int)(v:BitVec 8):aB tb.P 4 [fX g,i64 z6,rZ v] M fun y _=>y= .val (.bool true):=by
 refine aR4 ?_
 unfold F4
 refine⟨_,_,_,_,_,rfl,?_⟩
 simp only[i64,rZ,aJ]
 refine bE fun M8 hM8=>?_
 have hM8:M8=M.new (.cells (cW g) true):=hM8
 have hk8:aD M M8 []:=by rw[hM8];exact aD.new hw _
 have hb8:M8.get M.next=some (.cells (cW g) true):=by rw[hM8];exact get_new _ _
 clear hM8
 obtain⟨_,_,_,_,_,l5⟩:=cC hb8
 refine aG (aS l5) ?_
 refine⟨_,_,_,_,_,rfl,?_⟩
 refine (yW M8 hk8.wf g).mono ?_
 rintro _ M16 ⟨rfl,hk16⟩
 simp only[cO]
 cases hg:dV g with
 | false=>
   simp only[Bool.not_false,jF]
   refine (aCs M16 hk16.wf).mono ?_
   rintro y N rfl
   simp only[cO]
 | true=>
 simp only[Bool.not_true,fG]
 have hb16:=hk16.get hk8.wf hb8 (by simp)
 have hlt16:M.next<M16.next:=hk16.wf _ _ hb16
 have hw16:=hk16.wf
 clear hk16 hk8 hb8 l5
 refine (aQ3 M16 z6 3 (by decide) (by decide)).mono ?_
 rintro _ M16 ⟨rfl,rfl⟩
 simp only[i64,aJ]
 rw[show Int.toNat 3=3 from rfl]
 have hb0:=aEO z6 (n:=3) (by decide)
 generalize yA z6 3=b0 at hb0 ⊢
 obtain⟨hby,hby1,hby2⟩:=kK hg
 obtain⟨s,hs⟩:∃ s,s=(1+b0)*g.by'.toNat:=⟨_,rfl⟩
 have hs1:0<s:=by rw[hs];exact Nat.mul_pos (by omega) (by omega)
 have hs2:s≤192:=by
  rw[hs]
  exact Nat.mul_le_mul (by omega:1+b0≤3) hby2
 have hsz:bT .i64 (aM .i64 1 (b0:Int)) g.by'=(s:Int):=by
  rw[aM,aL (by omega) (by omega),bT]
  have e:(1+(b0:Int))*g.by'=(s:Int):=by
   rw[hs,hby,Int.toNat_natCast]
   push_cast
   rfl
  rw[e,aL (by omega) (by omega)]
 have hlg:=vG hg
 obtain⟨_,_,_,_,_,l5⟩:=cC hb16
 refine aG (aS l5) ?_
 refine⟨_,_,_,_,_,rfl,?_⟩
 refine (aOD M16 hw16 g _ [] (aO.nil) (by simp)).mono ?_
 rintro y30 M31 ⟨hk31,h31⟩
 have hP:yS g []=true:=by unfold yS;simp[hg]
 rcases h31 with⟨hno,_⟩|⟨_,p,fsA,bb,bs,rfl,hc,hb,hf,_⟩
 ·rw[hP] at hno;cases hno
 have hm:=bP.1 hg
 have hfew:(([]:List nU).length:Int)≤g.sp:=by show (0:Int)≤_;omega
 have hlost:(dD (hC g []):Int)≤g.sp:=by
  have:=aEJ (hC g [])
  have e:(hC g []).fs=[]:=rfl
  rw[e] at this
  simp only[List.length_nil] at this
  omega
 refine (aFz (l:=[]) (aEQ hg hlost hk31 hc hb hf) (by decide) (.inl ⟨rfl,rfl⟩)).mono ?_
 rintro _ M33 ⟨A,S,sb,mb,rfl,hF,hO,hAp,hfs,_,_,hm0,_⟩
 have hfs:S.fs=[]:=hfs
 refine⟨_,_,rfl,?_⟩
 refine bE fun K39 hK39=>?_
 refine aT (fun h=>absurd h (by decide)) fun _=>?_
 refine aG nJ ?_
 simp only[cO]
 rw[hK39]
 dsimp only
 simp only[fG]
 clear hK39
 clear K39
 refine bE fun K94 hK94=>?_
 have hmb33:mb<M33.next:=by obtain⟨pm,hp⟩:=hO.map;exact hF.wf _ _ hp.get
 have hA33:=hF.lt
 obtain⟨d,hd⟩:∃ d,d=vQ (v.toNat:Int) s:=⟨_,rfl⟩
 have hdl:d.length=s:=by rw[hd,tW]
 have fin:∀ (i:Nat) (N:aC) (A:bL),LF M16 g 0 160 A N S NoP (fun _=>none)→OM N A sb mb g (mZ i d)→K94 (i:Int) N:=by
  intro i N A hF hO
  rw[hK94]
  dsimp only
  refine aT (fun _=>?_) (fun hi=>?_)
  ·refine bE fun K103 hK103=>?_
   refine (aCI hF hO (by rw[hfs];exact hfew) (by decide) (by decide)).mono ?_
   rintro _ M96 ⟨rfl,S2,hF2,_⟩
   simp only[i64,aJ]
   refine aT (fun _=>?_) fun h=>absurd h (by decide)
   refine (aCs M96 hF2.wf).mono ?_
   rintro y N rfl
   simp only[cO]
   rw[hK103]
  ·obtain⟨j,rfl⟩:∃ j,i=j+1:=⟨i-1,by
    have:i≠0:=fun e=>by subst e;simp at hi
    omega⟩
   have hsm:=(hO.ok.small hg).1
   have hjl:j+1≤160:=by simpa[mZ] using hsm
   refine (aCI hF hO (by rw[hfs];exact hfew) (by decide) (by decide)).mono ?_
   rintro _ M105 ⟨rfl,S2,hF2,hfs2,hO2,_⟩
   simp only[i64,aJ]
   have hl0:pD (mZ (j+1) d) ((0:Nat):Int)=some d:=(fI hO2.ok.srt).2 ⟨0,rfl,aAK.2 ⟨Nat.succ_pos _,rfl⟩⟩
   refine (aO5 hF2 hO2 hm0 (i:=0) (by decide) hl0).mono ?_
   rintro _ M108 ⟨rfl,hF3,hO3,_⟩
   simp only[i64,aJ]
   refine aG (aS (hF3.box hb16 hlt16).1) ?_
   simp only[i64,aJ]
   rw[hsz]
   refine (aFU M108 hF3.wf _ s (by omega)).mono ?_
   rintro y112 M113 ⟨k113,hy,_⟩
   obtain⟨e,he⟩:∃ e,e=vQ (aM .u8 (v.toNat:Int) 1) s:=⟨_,rfl⟩
   rw[← he] at hy
   have hel:e.length=d.length:=by rw[he,tW,hdl]
   have hneed:(jC g.by'.toNat (iL (dO (tK (mZ (j+1) d) 0) (j+1) e)):Int)≤eL g:=by
    rw[aJr j d e hel,← aET]
    exact hO.ok.room
   refine (aK9 (hF3.keep k113) (hO3.keep0 hF3.wf k113) hm0 (i:=j+1) (by omega) hy (by omega) (by omega)).mono ?_
   rintro y114 M115 ⟨h1,_⟩
   obtain⟨rfl,hF4,hO4,_⟩:=h1 hneed
   simp only[i64,aJ]
   refine (aCI hF4 hO4 (by rw[hfs2,hfs];exact hfew) (by decide) (by decide)).mono ?_
   rintro _ M118 ⟨rfl,S5,hF5,_,hO5,_⟩
   simp only[i64,aJ]
   refine (aKS hO5 hF5.wf hg (i:=j+1) (by omega)).mono ?_
   rintro y120 M121 ⟨k121,h121⟩
   have hlk:pD (dO (tK (mZ (j+1) d) 0) (j+1) e) ((j+1:Nat):Int)=some e:=by
    rw[zR (aAq hO2.ok.srt 0)]
    exact if_pos rfl
   rcases h121 with⟨hno,_⟩|⟨x,d',hd',rfl,hgr,_⟩
   ·rw[hlk] at hno;cases hno
   rw[hlk] at hd'
   injection hd' with hd'
   subst hd'
   refine⟨_,_,rfl,?_⟩
   have hF6:=hF5.keep k121
   have hO6:=hO5.keep0 hF5.wf k121
   refine bE fun K149 hK149=>?_
   refine aT (fun _=>?_) fun h=>absurd h (by decide)
   refine aT (fun _=>?_) fun h=>absurd h (by decide)
   refine aT (fun _=>?_) fun h=>absurd h (by decide)
   refine aT (fun _=>?_) fun h=>absurd h (by decide)
   refine aT (fun _=>?_) fun h=>absurd h (by decide)
   refine aG (aS (hF6.box hb16 hlt16).1) ?_
   simp only[i64,aJ]
   rw[hsz]
   refine (aFU M121 hF6.wf _ s (by omega)).mono ?_
   rintro y126 M127 ⟨k127,hy2,_⟩
   rw[← he] at hy2
   refine (aFO M127 x y126 e e (hgr.at.keep0 hF6.wf k127) hy2 (by omega)).mono ?_
   rintro _ _ ⟨rfl,rfl⟩
   simp only[cO,decide_true,jF]
   have hF7:=hF6.keep k127
   have hO7:=hO6.keep0 hF6.wf k127
   refine aG (aS (hF7.box hb16 hlt16).2) ?_
   refine⟨_,_,_,_,_,rfl,?_⟩
   refine (aIZ hO7 hF7.wf hg).mono ?_
   rintro _ M138 ⟨rfl,k138⟩
   simp only[i64,aJ]
   have hF8:=hF7.keep k138
   refine⟨aG (aS (hF8.box hb16 hlt16).2) rfl,?_⟩
   refine (xU M138 hF8.wf g hg).mono ?_
   rintro _ M142 ⟨rfl,k142⟩
   simp only[i64,aJ]
   refine aT (fun _=>?_) fun h=>absurd hO7.ok.room (of_decide_eq_false h)
   refine (aCs M142 k142.wf).mono ?_
   rintro y N rfl
   simp only[cO]
   rw[hK149]
 clear hK94
 have hsb33:sb<M33.next:=hF.wf _ _ hO.box
 refine⟨fun x z q Q=>∃ (i:Nat) (A:bL),z=i∧q=200-i∧LF M16 g 0 160 A Q S NoP (fun _=>none)∧OM Q A sb mb g (mZ i d)∧nK Q x ((List.replicate i (s:Int)).map i64)∧(∀ c,aN x c→c∈A.ext∧c∉A.all∧M33.next≤c)∧M33.next≤Q.next,
  ⟨200,0,A,rfl,rfl,hF.mono (by omega) (by omega),hO,.inl ⟨rfl,rfl⟩,fun c hc=>hc.elim,Nat.le_refl _⟩,?_⟩
 have h1633:M16.next≤M33.next:=hF.nx
 clear hF hO hA33 hAp
 rintro _ x z q Q ⟨i,A,rfl,rfl,hF,hO,hx,hfx,hnQ⟩
 have hil:i≤160:=by simpa[mZ] using (hO.ok.small hg).1
 refine aT (fun _=>?_) fun h=>absurd (of_decide_eq_false h) (by omega)
 refine bE fun M46 hM46=>?_
 have hM46:M46=⟨Q.next+1,Q.rows⟩:=hM46
 have k46:aD Q M46 []:=by rw[hM46];exact aRu hF.wf
 have n46:M46.next=Q.next+1:=by rw[hM46]
 clear hM46
 have bx:∀ {N:aC},aD Q N []→aY tb 3 (.ptr M.next 2) N=some (i64 g.by')∧aY tb 23 (.ptr M.next 0) N=some (fX g):=fun {N} kN=>(hF.keep kN).box hb16 hlt16
 refine aG (aS (bx k46).2) ?_
 refine⟨_,_,_,_,_,rfl,?_⟩
 refine aG (aS (bx k46).1) ?_
 simp only[i64,aJ]
 refine aG (aS (bx k46).2) ?_
 refine⟨_,_,_,_,_,rfl,?_⟩
 obtain⟨x61,M61,a1,a2,a3,a4⟩:=aHW k46.wf (hx.keep0 hF.wf k46) (by simp;omega)
 refine aG a1 ?_
 have k61:=k46.trans0 a3
 refine⟨aG (aS (bx k61).2) rfl,aG (aS (bx k61).1) rfl,aG (aS (bx k61).2) rfl,?_⟩
 rw[hsz]
 refine bE fun M65 hM65=>?_
 have hM65:M65=M61.put Q.next (.cells [i64 (s:Int)] true):=hM65
 have n61:=a3.nxt
 have k65:aD Q M65 []:=by rw[hM65];exact xD k61 (Nat.le_refl _) (by omega) _
 have g65:M65.get Q.next=some (.cells [i64 (s:Int)] true):=by rw[hM65,aC.get_put,if_pos rfl]
 have n65:M65.next=M61.next:=by rw[hM65];rfl
 have x65:nK M65 x61 ((List.replicate i (s:Int)).map i64):=a2.mono fun c r hc hr=>by
  rw[hM65,aC.get_put,if_neg (by have:=a4 c hc;omega)];exact hr
 clear hM65
 obtain⟨x66,M66,c1,c2,c3,c4,c5,c6⟩:=nK.growA k65.wf x65 g65 rfl (by simp;omega)
 refine aG c1 ?_
 have k66:aD Q M66 []:=⟨c3,by omega,fun c hc _=>by
  rw[c5 c (by omega) fun h=>by have:=a4 c h;omega]
  exact k65.old c hc (by simp)⟩
 refine⟨aG (aS (bx k66).2) rfl,aG (aS (bx k66).2) rfl,?_⟩
 have hlist:(List.replicate i (s:Int)).map i64++[i64 (s:Int)]=((List.replicate (i+1) s).map fun t:Nat=>(t:Int)).map i64:=by
  rw[List.map_replicate,List.map_replicate,List.map_replicate,List.replicate_succ']
 rw[hlist] at c2
 have hSz:yU (List.replicate (i+1) s):=⟨by simp;omega,fun t ht=>by rw[List.eq_of_mem_replicate ht];omega⟩
 refine (aQL M66 c3 g hg x66 (List.replicate (i+1) s) c2.ints hSz).mono ?_
 rintro _ M70 ⟨rfl,k70'⟩
 have k70:=k66.trans0 k70'
 simp only[i64,aJ]
 refine⟨aG (aS (bx k70).2) rfl,?_⟩
 refine (xU M70 k70.wf g hg).mono ?_
 rintro _ M74 ⟨rfl,k74'⟩
 have k74:=k70.trans0 k74'
 simp only[i64,aJ]
 refine aG (aS (bx k74).1) ?_
 simp only[i64,aJ]
 rw[hsz]
 refine (aFU M74 k74.wf _ s (by omega)).mono ?_
 rintro y78 M79 ⟨k79',hy,_⟩
 have k79:=k74.trans0 k79'
 rw[← hd] at hy
 have hF79:=hF.keep k79
 have hO79:=hO.keep0 hF.wf k79
 have hputs:iL (dO (mZ i d) i d)=List.replicate (i+1) s:=by rw[aEv,← aCj,aET,hdl]
 refine (aK9 hF79 hO79 hm0 (i:=i) (by omega) hy (by omega) (by omega)).mono ?_
 rintro y80 M81 ⟨h1,h2⟩
 rw[hputs] at h1 h2
 by_cases hfit:(jC g.by'.toNat (List.replicate (i+1) s):Int)≤eL g
 ·obtain⟨rfl,hF81,hO81,k81⟩:=h1 hfit
  simp only[i64,aJ]
  refine bE fun K86 hK86=>?_
  refine aG (aOx (by rw[decide_eq_true hfit];rfl)) ?_
  simp only[cO,fG]
  refine aT (fun h=>absurd h (by decide)) fun _=>?_
  rw[hK86]
  dsimp only
  simp only[fG]
  refine aT (fun h=>absurd h (by decide)) fun _=>?_
  refine aG (aS (hF81.box hb16 hlt16).1) ?_
  simp only[i64,aJ]
  rw[hsz]
  refine bE fun M89 hM89=>?_
  have hM89:M89=M81.new (.cells [i64 (s:Int)] true):=hM89
  subst hM89
  have hx81:nK M81 x ((List.replicate i (s:Int)).map i64):=hx.mono fun c r hc hr=>k81.get hF79.wf (k79.get hF.wf hr (by simp)) (by
   rw[List.mem_singleton]
   have:=(hfx c hc).2.2
   omega)
  obtain⟨x',N,q1,q2,q3,q4⟩:=nK.grow uY dX rfl (by decide) hF81.wf hx81 (i64 (s:Int)) rfl (by simp;omega)
  refine aG q1 ?_
  rw[aEv,← aCj] at hO81
  have hn81:M33.next≤M81.next:=by have:=k81.nxt;have:=k79.nxt;omega
  obtain⟨T0,T,t1,t2,t3,t4⟩:=aJA hx81 q2 q3
  have hl1:(List.replicate i (s:Int)).map i64++[i64 (s:Int)]=(List.replicate (i+1) (s:Int)).map i64:=by
   rw[List.map_replicate,List.map_replicate,List.replicate_succ']
  rw[hl1] at q2
  refine⟨200-(i+1),by omega,i+1,{ A with ext:=T++A.ext },dE (by omega),rfl,hF81.aside2 t2 (fun c hc=>⟨(hfx c (t1 c hc)).1,(hfx c (t1 c hc)).2.1,by have:=(hfx c (t1 c hc)).2.2;omega⟩) (fun c hc=>⟨by have:=q4 c (t3 c hc).1;omega,(t3 c hc).2⟩),hO81.aside2 hF81.wf t2 (fun c hc=>⟨(hfx c (t1 c hc)).1,by have:=(hfx c (t1 c hc)).2.2;omega,by have:=(hfx c (t1 c hc)).2.2;omega⟩) (fun c hc=>by have:=q4 c (t3 c hc).1;omega),q2,fun c hc=>⟨List.mem_append.2 (.inl (t4 c hc)),fun hm=>by have:=hF81.lt c hm;have:=q4 c hc;omega,by have:=q4 c hc;omega⟩,by have:=q3.nxt;show M33.next≤N.next;omega⟩
 ·obtain⟨rfl,hF81,hO81,_⟩:=h2 hfit
  simp only[i64,aJ]
  refine bE fun K86 hK86=>?_
  refine aG (aOx (by rw[decide_eq_false hfit];rfl)) ?_
  simp only[cO,fG]
  refine aT (fun _=>?_) fun h=>absurd h (by decide)
  rw[show ((8:Int) != 8)=false from rfl,hK86]
  dsimp only
  simp only[fG]
  refine aT (fun _=>?_) fun h=>absurd h (by decide)
  exact fin i M81 A hF81 hO81
theorem yL(M:aC)(hw:M.WF)(bl pg by' sp tr:Int)(hr:∀ y∈[bl,pg,by',sp,tr], -9223372036854775808≤y∧y≤9223372036854775807)(z6:Int)(v:BitVec 8):
 aB tb.P 4 [.agg [.val (.int .i64 bl),.val (.int .i64 pg),.val (.int .i64 by'),.val (.int .i64 sp),.val (.int .i64 tr)],.val (.int .i64 z6),.val (.int .u8 (v.toNat:Int))] M fun y _=>y= .val (.bool true):=
 aEr M hw ⟨bl,pg,by',sp,tr⟩ z6 v
end Go.Proofs.YteaogiidncpofaaGreat
