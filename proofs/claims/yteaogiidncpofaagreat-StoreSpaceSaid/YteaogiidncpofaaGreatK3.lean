import Derived.Test.YteaogiidncpofaaGreatA45
import Derived.Test.YteaogiidncpofaaGreatK1
import Derived.Test.YteaogiidncpofaaGreatK2
import Derived.Test.YteaogiidncpofaaGreatQA
set_option linter.unusedSimpArgs false
set_option linter.unusedVariables false
set_option linter.unusedSectionVars false
set_option maxRecDepth 100000
namespace Go.Proofs.YteaogiidncpofaaGreat
open Go.AM
theorem aEq{b:Nat}:∀ (l:List sD) (i:Nat) (f:Fd),f∈aLp b i l↔∃ j v,l[j]? =some v∧f=⟨b,(i+j:Nat),v.t⟩
 | [],i,f=>by simp[aLp]
 | v::r,i,f=>by
   simp only[aLp,List.mem_cons,aEq r (i+1) f]
   constructor
   ·rintro (rfl|⟨j,u,h1,rfl⟩)
    ·exact⟨0,v,rfl,rfl⟩
    ·exact⟨j+1,u,by simpa using h1,by congr 1;omega⟩
   ·rintro⟨j,u,h1,rfl⟩
    cases j with
    | zero=>
      simp only[List.getElem?_cons_zero,Option.some.injEq] at h1
      subst h1
      exact .inl rfl
    | succ j=>exact .inr ⟨j,u,by simpa using h1,by congr 1;omega⟩
theorem aD1:∀ (l:List XB) (b:Nat) (f:Fd),f∈aJM b l↔∃ c i B v,l[c]? =some B∧B.v[i]? =some v∧f=⟨(b+c:Nat),(i:Nat),v.t⟩
 | [],b,f=>by simp[aJM]
 | B::r,b,f=>by
   simp only[aJM,List.mem_append,aEq,aD1 r (b+1) f]
   constructor
   ·rintro (⟨j,v,h1,rfl⟩|⟨c,i,C,v,h1,h2,rfl⟩)
    ·exact⟨0,j,B,v,rfl,h1,by simp⟩
    ·exact⟨c+1,i,C,v,by simpa using h1,h2,by congr 1;omega⟩
   ·rintro⟨c,i,C,v,h1,h2,rfl⟩
    cases c with
    | zero=>
      simp only[List.getElem?_cons_zero,Option.some.injEq] at h1
      subst h1
      exact .inl ⟨i,v,h2,by simp⟩
    | succ c=>exact .inr ⟨c,i,C,v,by simpa using h1,h2,by congr 1;omega⟩
theorem iF{S:Ps}{b i:Nat}{v:sD}:bI S b i=some v↔∃ B,S.x[b]? =some B∧B.v[i]? =some v:=by
 unfold bI
 cases h:S.x[b]? with
 | none=>simp
 | some B=>simp
theorem mem_fds{S:Ps}{f:Fd}:f∈fds S↔∃ (b i:Nat) (v:sD),bI S b i=some v∧f=⟨(b:Nat),(i:Nat),v.t⟩:=by
 unfold fds
 rw[aD1]
 constructor
 ·rintro⟨c,i,B,v,h1,h2,rfl⟩
  exact⟨c,i,v,iF.2 ⟨B,h1,h2⟩,by simp⟩
 ·rintro⟨b,i,v,h,rfl⟩
  obtain⟨B,h1,h2⟩:=iF.1 h
  exact⟨b,i,B,v,h1,h2,by simp⟩
theorem aAW(l:List Fd):∀ n,n≤l.length→(∀ f∈l.take n,f.t.k=3→f.t.e≤lD l n)∧0≤lD l n∧(lD l n=0∨∃ f∈l.take n,f.t.k=3∧f.t.e=lD l n)
 | 0,_=>by simp[lD]
 | n+1,h=>by
   obtain⟨h1,h2,h3⟩:=aAW l n (by omega)
   have hl:n<l.length:=by omega
   rw[List.take_add_one,List.getElem?_eq_getElem hl]
   simp only[Option.toList_some,List.mem_append,List.mem_singleton]
   rw[lD,List.getElem?_eq_getElem hl]
   simp only
   by_cases hk:l[n].t.k=3
   ·rw[if_pos hk]
    refine⟨?_,by omega,?_⟩
    ·rintro f (hf|rfl) hk'
     ·have:=h1 f hf hk';omega
     ·omega
    ·by_cases hm:l[n].t.e≤lD l n
     ·rw[Int.max_eq_left hm]
      rcases h3 with h3|⟨f,hf,h3⟩
      ·exact .inl h3
      ·exact .inr ⟨f,.inl hf,h3⟩
     ·exact .inr ⟨_,.inr rfl,hk,by omega⟩
   ·rw[if_neg hk]
    refine⟨?_,h2,?_⟩
    ·rintro f (hf|rfl) hk'
     ·exact h1 f hf hk'
     ·exact absurd hk' hk
    ·rcases h3 with h3|⟨f,hf,h3⟩
     ·exact .inl h3
     ·exact .inr ⟨f,.inl hf,h3⟩
theorem tD(l:List Fd):(∀ f∈l,f.t.k=3→f.t.e≤cM l)∧0≤cM l∧(cM l=0∨∃ f∈l,f.t.k=3∧f.t.e=cM l):=by
 have:=aAW l l.length (Nat.le_refl _)
 rw[List.take_length] at this
 exact this
theorem aDN{l:List Fd}{n:Int}(h1:∀ f∈l,f.t.k=3→f.t.e≤n)(h0:0≤n)(h2:n=0∨∃ f∈l,f.t.k=3∧f.t.e=n):cM l=n:=by
 obtain⟨k1,k0,k2⟩:=tD l
 rcases h2 with rfl|⟨f,hf,e1,e2⟩ <;> rcases k2 with k2|⟨g,hg,e3,e4⟩
 ·exact k2
 ·have:=h1 g hg e3;omega
 ·have:=k1 f hf e1;omega
 ·have:=h1 g hg e3;have:=k1 f hf e1;omega
theorem vR{l m:List Fd}(h:∀ f,f∈l↔f∈m):cM l=cM m:=by
 obtain⟨k1,k0,k2⟩:=tD m
 refine aDN (fun f hf=>k1 f ((h f).1 hf)) k0 ?_
 rcases k2 with k2|⟨g,hg,e⟩
 ·exact .inl k2
 ·exact .inr ⟨g,(h g).2 hg,e⟩
def bK(S:Ps):Int:=cM (fds S)
def eE(S:Ps)(t:Tg):Option (Int×Bool):=lN (bK S) S.now t
theorem eT(S:Ps):(∀ b i v,bI S b i=some v→v.t.k=3→v.t.e≤bK S)∧0≤bK S∧(bK S=0∨∃ b i v,bI S b i=some v∧v.t.k=3∧v.t.e=bK S):=by
 obtain⟨h1,h2,h3⟩:=tD (fds S)
 refine⟨fun b i v h hk=>h1 ⟨b,i,v.t⟩ (mem_fds.2 ⟨b,i,v,h,rfl⟩) hk,h2,?_⟩
 rcases h3 with h3|⟨f,hf,e1,e2⟩
 ·exact .inl h3
 ·obtain⟨b,i,v,h,rfl⟩:=mem_fds.1 hf
  exact .inr ⟨b,i,v,h,e1,e2⟩
theorem vI{S:Ps}{n:Int}(h1:∀ b i v,bI S b i=some v→v.t.k=3→v.t.e≤n)(h0:0≤n)(h2:n=0∨∃ b i v,bI S b i=some v∧v.t.k=3∧v.t.e=n):bK S=n:=by
 refine aDN (fun f hf hk=>?_) h0 ?_
 ·obtain⟨b,i,v,h,rfl⟩:=mem_fds.1 hf
  exact h1 b i v h hk
 ·rcases h2 with h2|⟨b,i,v,h,e⟩
  ·exact .inl h2
  ·exact .inr ⟨_,mem_fds.2 ⟨b,i,v,h,rfl⟩,e⟩
def jX(S:Ps)(c:Int×Bool)(b i:Nat)(v:sD):Prop:=
 bI S b i=some v∧eE S v.t=some c∧∀ b' i' u,bI S b' i'=some u→eE S u.t=some c→gA u.t v.t=false
theorem dG{S:Ps}{b i:Nat}:cH S b i=true↔∃ c v,jX S c b i v:=by
 unfold cH jX
 cases hv:bI S b i with
 | none=>simp
 | some v=>
   simp only[Option.some.injEq,exists_and_left]
   unfold aOH
   have hc:lN (cM (fds S)) S.now v.t=eE S v.t:=rfl
   rw[hc]
   cases h:eE S v.t with
   | none=>
     simp only[Bool.false_eq_true,false_iff]
     rintro⟨c,v',rfl,h',_⟩
     rw[h] at h';cases h'
   | some c=>
     simp only[List.all_eq_true]
     constructor
     ·intro k
      refine⟨c,v,rfl,h,fun b' i' u hu hcu=>?_⟩
      have:=k ⟨b',i',u.t⟩ (mem_fds.2 ⟨b',i',u,hu,rfl⟩)
      have e:lN (cM (fds S)) S.now u.t=some c:=hcu
      simp only[e,decide_true,Bool.true_and,Bool.not_eq_true'] at this
      exact this
     ·rintro⟨c',v',rfl,h',k⟩ f hf
      rw[h] at h'
      injection h' with h'
      subst h'
      obtain⟨b',i',u,hu,rfl⟩:=mem_fds.1 hf
      by_cases hcu:eE S u.t=some c
      ·have:=k b' i' u hu hcu
       simp[this]
      ·have e:lN (cM (fds S)) S.now u.t≠some c:=hcu
       simp[e]
theorem xB{a b:Tg}:gA a b=true↔a.e>b.e∨(a.e=b.e∧a.s>b.s):=by
 unfold gA
 simp only[Bool.or_eq_true,Bool.and_eq_true,decide_eq_true_eq,beq_iff_eq]
theorem cN{a b:Tg}:gA a b=false↔a.e<b.e∨(a.e=b.e∧a.s≤b.s):=by
 rw[← Bool.not_eq_true,xB];omega
def tL(S:Ps)(c:Int×Bool)(k p e:Int)(d:List (BitVec 8)):Prop:=∃ b i v,jX S c b i v∧v.t.k=k∧v.t.p=p∧v.t.e=e∧v.d=d
structure jE (S S':Ps):Prop where
 last:bK S'=bK S
 now:S'.now=S.now
 has:∀ c k p e d,tL S' c k p e d↔tL S c k p e d
theorem jE.refl(S:Ps):jE S S:=⟨rfl,rfl,fun _ _ _ _ _=>Iff.rfl⟩
theorem jE.trans{S S' S'':Ps}(h:jE S S')(k:jE S' S''):jE S S'':=⟨k.last.trans h.last,k.now.trans h.now,fun c a b e d=>(k.has c a b e d).trans (h.has c a b e d)⟩
theorem aX{S:Ps}{b:Nat}(hb:b<S.x.length)(t:Tg)(d:List (BitVec 8))(b' i:Nat):
 bI (bM S b t d) b' i=if b'=b∧i=aP S b then some ⟨{ t with s:=S.seq+1 },d⟩ else bI S b' i:=by
 have hu:aP S b=S.x[b].v.length:=by unfold aP;rw[List.getElem?_eq_getElem hb]
 rw[hu]
 unfold bI bM
 simp only[List.getElem?_modify]
 by_cases h:b=b'
 ·subst h
  rw[List.getElem?_eq_getElem hb]
  simp only[if_true,Option.map_eq_map,Option.map_some,true_and]
  by_cases hi:i=S.x[b].v.length
  ·subst hi
   simp
  ·rw[if_neg hi,List.getElem?_append]
   split
   ·rfl
   ·rename_i h1
    rw[List.getElem?_eq_none (by simp;omega),List.getElem?_eq_none (by omega)]
 ·have h':¬ (b'=b∧i=S.x[b].v.length):=fun hh=>h hh.1.symm
  rw[if_neg h']
  simp only[if_neg h]
  cases S.x[b']? <;> rfl
theorem eQ{S:Ps}{b:Nat}(b' i:Nat):bI (dL S b) b' i=if b'=b then none else bI S b' i:=by
 unfold bI dL
 simp only[List.getElem?_modify]
 by_cases h:b=b'
 ·subst h
  rw[if_pos rfl]
  cases S.x[b]? <;> simp
 ·rw[if_neg (fun e=>h e.symm)]
  simp only[if_neg h]
  cases S.x[b']? <;> rfl
theorem cQ{S:Ps}{b i:Nat}{v:sD}(h:bI S b i=some v):i<aP S b:=by
 obtain⟨B,h1,h2⟩:=iF.1 h
 unfold aP
 rw[h1]
 exact (List.getElem?_eq_some_iff.1 h2).1
structure aFp (S:Ps):Prop where
 le:∀ b i v,bI S b i=some v→v.t.s≤S.seq
 one:∀ b i v b' i' v',bI S b i=some v→bI S b' i'=some v'→v.t.s=v'.t.s→b=b'∧i=i'
theorem aAi{S:Ps}(h:aFp S){c:Int×Bool}{b i b' i':Nat}{v v':sD}(h1:jX S c b i v)(h2:jX S c b' i' v'):b=b'∧i=i'∧v=v':=by
 have a:=h1.2.2 _ _ _ h2.1 h2.2.1
 have a':=h2.2.2 _ _ _ h1.1 h1.2.1
 rw[cN] at a a'
 obtain⟨rfl,rfl⟩:=h.one _ _ _ _ _ _ h1.1 h2.1 (by omega)
 have:=h1.1.symm.trans h2.1
 injection this with this
 exact⟨rfl,rfl,this⟩
theorem aB4{S:Ps}{b i to:Nat}{v:sD}(hv:bI S b i=some v)(hto:to<S.x.length):bK (bM S to v.t v.d)=bK S:=by
 obtain⟨h1,h2,h3⟩:=eT S
 refine vI (fun b' i' u hu hk=>?_) h2 ?_
 ·rw[aX hto] at hu
  split at hu
  ·injection hu with hu
   subst hu
   exact h1 b i v hv hk
  ·exact h1 b' i' u hu hk
 ·rcases h3 with h3|⟨b',i',u,hu,e⟩
  ·exact .inl h3
  ·refine .inr ⟨b',i',u,?_,e⟩
   rw[aX hto]
   have:=cQ hu
   rw[if_neg (fun hh=>by rw[hh.1,hh.2] at this;omega)]
   exact hu
theorem aCk{S:Ps}(hs:aFp S){c:Int×Bool}{b i to:Nat}{v:sD}(hv:jX S c b i v)(hto:to<S.x.length)(c':Int×Bool)(b' i':Nat)(u:sD):
 jX (bM S to v.t v.d) c' b' i' u↔(if c'=c then b'=to∧i'=aP S to∧u=⟨{ v.t with s:=S.seq+1 },v.d⟩ else jX S c' b' i' u):=by
 have hl:=aB4 hv.1 hto
 have hc:∀ t,eE (bM S to v.t v.d) t=eE S t:=fun t=>by
  unfold eE;rw[hl];rfl
 have hold:∀ b1 i1 w,bI S b1 i1=some w→¬ (b1=to∧i1=aP S to):=fun b1 i1 w hw hh=>by
  have:=cQ hw
  rw[hh.1,hh.2] at this;omega
 unfold jX
 simp only[hc]
 by_cases e:c'=c
 ·subst e
  rw[if_pos rfl]
  constructor
  ·rintro⟨h1,h2,h3⟩
   have h4:=h3 to (aP S to) ⟨{ v.t with s:=S.seq+1 },v.d⟩ (by rw[aX hto,if_pos ⟨rfl,rfl⟩]) hv.2.1
   rw[aX hto] at h1
   split at h1
   ·rename_i hh
    injection h1 with h1
    exact⟨hh.1,hh.2,h1.symm⟩
   ·exfalso
    have h5:=hv.2.2 b' i' u h1 h2
    have h6:=hs.le _ _ _ h1
    rw[cN] at h4 h5
    simp only at h4
    omega
  ·rintro⟨rfl,rfl,rfl⟩
   refine⟨by rw[aX hto,if_pos ⟨rfl,rfl⟩],hv.2.1,fun b1 i1 w hw hcw=>?_⟩
   rw[aX hto] at hw
   split at hw
   ·injection hw with hw
    subst hw
    rw[cN];right;exact⟨rfl,Int.le_refl _⟩
   ·have h5:=hv.2.2 b1 i1 w hw hcw
    have h6:=hs.le _ _ _ hw
    rw[cN] at h5 ⊢
    simp only
    omega
 ·rw[if_neg e]
  constructor
  ·rintro⟨h1,h2,h3⟩
   rw[aX hto] at h1
   split at h1
   ·injection h1 with h1
    subst h1
    have:=hv.2.1.symm.trans h2
    injection this with this
    exact absurd this.symm e
   ·refine⟨h1,h2,fun b1 i1 w hw hcw=>h3 b1 i1 w ?_ hcw⟩
    rw[aX hto,if_neg (hold _ _ _ hw)]
    exact hw
  ·rintro⟨h1,h2,h3⟩
   refine⟨by rw[aX hto,if_neg (hold _ _ _ h1)];exact h1,h2,fun b1 i1 w hw hcw=>?_⟩
   rw[aX hto] at hw
   split at hw
   ·injection hw with hw
    subst hw
    have:some c=some c':=hv.2.1.symm.trans hcw
    injection this with this
    exact absurd this.symm e
   ·exact h3 b1 i1 w hw hcw
theorem aHA{S:Ps}(hs:aFp S){c:Int×Bool}{b i to:Nat}{v:sD}(hv:jX S c b i v)(hto:to<S.x.length):jE S (bM S to v.t v.d):=by
 refine⟨aB4 hv.1 hto,rfl,fun c' k p e d=>?_⟩
 unfold tL
 simp only[aCk hs hv hto]
 by_cases h:c'=c
 ·subst h
  simp only[if_true]
  constructor
  ·rintro⟨b',i',u,⟨rfl,rfl,rfl⟩,h1,h2,h3,h4⟩
   exact⟨b,i,v,hv,h1,h2,h3,h4⟩
  ·rintro⟨b',i',u,hu,h1,h2,h3,h4⟩
   obtain⟨rfl,rfl,rfl⟩:=aAi hs hv hu
   exact⟨_,_,_,⟨rfl,rfl,rfl⟩,h1,h2,h3,h4⟩
 ·simp only[if_neg h]
theorem aB7{S:Ps}(hs:aFp S){c:Int×Bool}{b i to:Nat}{v:sD}(hv:jX S c b i v)(hto:to<S.x.length){b' i':Nat}(hn:¬ (b'=to∧i'=aP S to)):
 cH (bM S to v.t v.d) b' i'=(cH S b' i'&& !(decide (b'=b∧i'=i))):=by
 rw[Bool.eq_iff_iff,Bool.and_eq_true,dG,dG]
 simp only[aCk hs hv hto,Bool.not_eq_true',decide_eq_false_iff_not]
 constructor
 ·rintro⟨c',u,h⟩
  by_cases e:c'=c
  ·rw[if_pos e] at h
   exact absurd ⟨h.1,h.2.1⟩ hn
  ·rw[if_neg e] at h
   refine⟨⟨c',u,h⟩,?_⟩
   rintro⟨rfl,rfl⟩
   have:bI S b' i'=some u:=h.1
   rw[hv.1] at this
   injection this with this
   subst this
   have:=hv.2.1.symm.trans h.2.1
   injection this with this
   exact e this.symm
 ·rintro⟨⟨c',u,h⟩,hne⟩
  refine⟨c',u,?_⟩
  by_cases e:c'=c
  ·subst e
   obtain⟨h1,h2,_⟩:=aAi hs hv h
   exact absurd ⟨h1.symm,h2.symm⟩ hne
  ·rw[if_neg e];exact h
set_option maxRecDepth 100000
theorem aKJ(P:Fd→Prop):∀ l:List Fd,(∃ f∈l,P f)→∃ f∈l,P f∧∀ g∈l,P g→gA g.t f.t=false
 | [],h=>by obtain⟨f,hf,_⟩:=h;simp at hf
 | a::l,h=>by
   by_cases hl:∃ f∈l,P f
   ·obtain⟨f,hf,hp,hm⟩:=aKJ P l hl
    by_cases ha:P a∧gA a.t f.t=true
    ·refine⟨a,by simp,ha.1,fun g hg hgp=>?_⟩
     simp only[List.mem_cons] at hg
     rcases hg with rfl|hg
     ·rw[cN];omega
     ·have h1:=hm g hg hgp
      have h2:=xB.1 ha.2
      rw[cN] at h1 ⊢;omega
    ·refine⟨f,by simp[hf],hp,fun g hg hgp=>?_⟩
     simp only[List.mem_cons] at hg
     rcases hg with rfl|hg
     ·cases hh:gA g.t f.t with
      | true=>exact absurd ⟨hgp,hh⟩ ha
      | false=>rfl
     ·exact hm g hg hgp
   ·obtain⟨f,hf,hp⟩:=h
    simp only[List.mem_cons] at hf
    rcases hf with rfl|hf
    ·refine⟨f,by simp,hp,fun g hg hgp=>?_⟩
     simp only[List.mem_cons] at hg
     rcases hg with rfl|hg
     ·rw[cN];omega
     ·exact absurd ⟨g,hg,hgp⟩ hl
    ·exact absurd ⟨f,hf,hp⟩ hl
theorem aC8{S:Ps}{c:Int×Bool}{b i:Nat}{v:sD}(h:bI S b i=some v)(hc:eE S v.t=some c):∃ b i v,jX S c b i v:=by
 obtain⟨f,hf,hp,hm⟩:=aKJ (fun f=>eE S f.t=some c) (fds S) ⟨_,mem_fds.2 ⟨b,i,v,h,rfl⟩,hc⟩
 obtain⟨b',i',u,hu,rfl⟩:=mem_fds.1 hf
 exact⟨b',i',u,hu,hp,fun b1 i1 w hw hcw=>hm _ (mem_fds.2 ⟨b1,i1,w,hw,rfl⟩) hcw⟩
theorem tB{S:Ps}{b i:Nat}{v:sD}(h:bI S b i=some v)(hk:v.t.k=3):eE S v.t=some (-1,false):=by
 have:=(eT S).1 b i v h hk
 unfold eE lN
 rw[if_pos hk]
 simp;omega
theorem aMM{S:Ps}{v:sD}{x:Bool}(hp:v.t.k≠3→0≤v.t.p)(h:eE S v.t=some (-1,x)):v.t.k=3:=by
 unfold eE lN at h
 by_cases hk:v.t.k=3
 ·exact hk
 ·rw[if_neg hk] at h
  have:=hp hk
  split at h
  ·split at h
   ·simp only[Option.some.injEq,Prod.mk.injEq] at h;omega
   ·cases h
  ·simp only[Option.some.injEq,Prod.mk.injEq] at h;omega
theorem aBG{S:Ps}(hp:∀ b i v,bI S b i=some v→v.t.k≠3→0≤v.t.p){b:Nat}(hn:∀ i,cH S b i=false):bK (dL S b)=bK S:=by
 obtain⟨h1,h2,h3⟩:=eT S
 refine vI (fun b' i' u hu hk=>?_) h2 ?_
 ·rw[eQ] at hu
  split at hu
  ·cases hu
  ·exact h1 b' i' u hu hk
 ·rcases h3 with h3|⟨b',i',u,hu,hk,e⟩
  ·exact .inl h3
  ·right
   obtain⟨b1,i1,w,hw⟩:=aC8 hu (tB hu hk)
   have hwk:=aMM (hp _ _ _ hw.1) hw.2.1
   have hb1:b1≠b:=by
    rintro rfl
    have:=dG.2 ⟨_,_,hw⟩
    rw[hn] at this;cases this
   refine⟨b1,i1,w,by rw[eQ,if_neg hb1];exact hw.1,hwk,?_⟩
   have h5:=hw.2.2 _ _ _ hu (tB hu hk)
   have h6:=h1 _ _ _ hw.1 hwk
   rw[cN] at h5
   omega
theorem aH4{S:Ps}(hp:∀ b i v,bI S b i=some v→v.t.k≠3→0≤v.t.p){b:Nat}(hn:∀ i,cH S b i=false)(c:Int×Bool)(b' i':Nat)(u:sD):jX (dL S b) c b' i' u↔jX S c b' i' u:=by
 have hc:∀ t,eE (dL S b) t=eE S t:=fun t=>by
  unfold eE;rw[aBG hp hn];rfl
 have key:∀ {c b' i' u},jX S c b' i' u→b'≠b:=fun {c b' i' u} h hb=>by
  subst hb
  have:=dG.2 ⟨_,_,h⟩
  rw[hn] at this;cases this
 unfold jX
 simp only[hc]
 constructor
 ·rintro⟨h1,h2,h3⟩
  rw[eQ] at h1
  split at h1
  ·cases h1
  ·refine⟨h1,h2,fun b1 i1 w hw hcw=>?_⟩
   obtain⟨b2,i2,z,hz⟩:=aC8 hw hcw
   have h5:=h3 b2 i2 z (by rw[eQ,if_neg (key hz)];exact hz.1) hz.2.1
   have h6:=hz.2.2 _ _ _ hw hcw
   rw[cN] at h5 h6 ⊢
   omega
 ·intro h
  refine⟨by rw[eQ,if_neg (key h)];exact h.1,h.2.1,fun b1 i1 w hw hcw=>?_⟩
  rw[eQ] at hw
  split at hw
  ·cases hw
  ·exact h.2.2 b1 i1 w hw hcw
theorem aIA{S:Ps}(hp:∀ b i v,bI S b i=some v→v.t.k≠3→0≤v.t.p){b:Nat}(hn:∀ i,cH S b i=false):jE S (dL S b):=by
 refine⟨aBG hp hn,rfl,fun c k p e d=>?_⟩
 unfold tL
 simp only[aH4 hp hn]
theorem lM{α:Type}:∀ {l m:List α},l.Nodup→(∀ x∈l,x∈m)→l.length≤m.length
 | [],m,_,_=>by simp
 | a::l,m,hn,hs=>by
   rw[List.nodup_cons] at hn
   obtain⟨m1,m2,rfl⟩:=List.append_of_mem (hs a (by simp))
   have:l.length≤(m1++m2).length:=lM hn.2 fun x hx=>by
    have h1:=hs x (by simp[hx])
    have h2:x≠a:=fun e=>hn.1 (e▸hx)
    simp only[List.mem_append,List.mem_cons] at h1 ⊢
    rcases h1 with h1|rfl|h1
    ·exact .inl h1
    ·exact absurd rfl h2
    ·exact .inr h1
   simp only[List.length_append,List.length_cons] at this ⊢
   omega
def cnt(n:Nat)(is:Nat→Bool):Nat:=((List.range n).filter is).length
theorem dT(n:Nat)(is:Nat→Bool):cnt (n+1) is=cnt n is+(if is n=true then 1 else 0):=by
 unfold cnt
 rw[List.range_succ,List.filter_append,List.length_append]
 congr 1
 simp only[List.filter_cons,List.filter_nil]
 cases is n <;> simp
theorem aIn{n:Nat}{is js:Nat→Bool}(h:∀ b,b<n→is b=js b):cnt n is=cnt n js:=by
 induction n with
 | zero=>rfl
 | succ n ih=>rw[dT,dT,ih fun b hb=>h b (by omega),h n (by omega)]
theorem aGA{n b:Nat}{is js:Nat→Bool}(hb:b<n)(h:∀ c,c≠b→js c=is c):cnt n js+(if is b=true then 1 else 0)=cnt n is+(if js b=true then 1 else 0):=by
 induction n with
 | zero=>omega
 | succ n ih=>
   rw[dT,dT]
   by_cases e:b=n
   ·subst e
    rw[aIn (is:=js) (js:=is) (n:=b) fun c hc=>h c (by omega)]
    omega
   ·have:=ih (by omega)
    rw[h n (fun e'=>e e'.symm)]
    omega
theorem aGI{n:Nat}{is js ks:Nat→Bool}(h:∀ b,b<n→ks b=(is b||js b))(hd:∀ b,b<n→is b=true→js b=false):cnt n ks=cnt n is+cnt n js:=by
 induction n with
 | zero=>rfl
 | succ n ih=>
   rw[dT,dT,dT,ih (fun b hb=>h b (by omega)) (fun b hb=>hd b (by omega)),h n (by omega)]
   have:=hd n (by omega)
   cases hi:is n with
   | true=>rw[this hi];simp;omega
   | false=>cases js n <;> simp <;> omega
theorem sM(n:Nat)(is:Nat→Bool):cnt n is≤n:=by
 induction n with
 | zero=>exact Nat.le_refl _
 | succ n ih=>rw[dT];split <;> omega
theorem aMi{n:Nat}{is:Nat→Bool}(h:0<cnt n is):∃ b,b<n∧is b=true:=by
 unfold cnt at h
 obtain⟨b,hb⟩:=List.exists_mem_of_length_pos h
 rw[List.mem_filter,List.mem_range] at hb
 exact⟨b,hb⟩
def aIT(f:Nat→Nat):Nat→Nat
 | 0=>0
 | n+1=>aIT f n+f n
def qQ(S:Ps):Nat→List (Nat×Nat)
 | 0=>[]
 | n+1=>qQ S n++((List.range (aP S n)).filter (cH S n)).map fun i=>(n,i)
theorem aAe(S:Ps):∀ n,(qQ S n).length=aIT (dF S) n
 | 0=>rfl
 | n+1=>by
   rw[qQ,List.length_append,aAe S n,List.length_map]
   rfl
theorem mX(S:Ps):∀ n q,q∈qQ S n→q.1<n∧cH S q.1 q.2=true
 | 0,q,h=>by simp[qQ] at h
 | n+1,q,h=>by
   rw[qQ,List.mem_append] at h
   rcases h with h|h
   ·obtain⟨h1,h2⟩:=mX S n q h
    exact⟨by omega,h2⟩
   ·obtain⟨i,hi,rfl⟩:=List.mem_map.1 h
    rw[List.mem_filter] at hi
    exact⟨by simp,hi.2⟩
theorem uO(S:Ps):∀ n,(qQ S n).Nodup
 | 0=>List.nodup_nil
 | n+1=>by
   rw[qQ,List.nodup_append]
   refine⟨uO S n,?_,fun a ha b hb e=>?_⟩
   ·exact List.pairwise_map.2 (((List.nodup_range).filter _).imp fun hne e=>hne (by simpa using e))
   ·have:=(mX S n a ha).1
    obtain⟨i,_,rfl⟩:=List.mem_map.1 hb
    rw[e] at this;simp at this
theorem vD{g:eF}(h:dV g=true):4≤eL g∧2*eL g+4≤(g.bl-g.sp-3)*g.pg:=by
 have hm:=bP.1 h
 obtain⟨b1,b2⟩:=zK (a:=g.bl-g.sp-3) (b:=g.pg) (by omega) (by omega) (by omega) (by omega)
 have e1:aW .i64 g.bl g.sp=g.bl-g.sp:=by rw[aW,aL (by omega) (by omega)]
 have e2:aW .i64 (g.bl-g.sp) 3=g.bl-g.sp-3:=by rw[aW,aL (by omega) (by omega)]
 have e3:bT .i64 (g.bl-g.sp-3) g.pg=(g.bl-g.sp-3)*g.pg:=by rw[bT,aL (by omega) (by omega)]
 unfold eL
 rw[e1,e2,e3]
 generalize (g.bl-g.sp-3)*g.pg=z at*
 have e4:aW .i64 z 4=z-4:=by rw[aW,aL (by omega) (by omega)]
 have e5:kV .i64 (z-4) 2=(z-4)/2:=by
  have:(z-4).tdiv 2=(z-4)/2:=Int.tdiv_eq_ediv_of_nonneg (by omega)
  rw[kV,this,aL (by omega) (by omega)]
 rw[e4,e5]
 omega
structure eW (S:Ps):Prop where
 may:dV S.g=true
 len:S.x.length=nB S
 pgs:∀ b,aP S b≤nG S
 sq:aFp S
 tag:∀ b i v,bI S b i=some v→wD v.d v.t.k v.t.p v.t.s v.t.e=true∧(v.d.length:Int)=S.g.by'∧1≤v.t.s∧(v.t.k≠3→v.t.p<eL S.g)∧v.t.e≤S.ep
 bad:∀ b:Nat,aDP S.fs b=true→aP S b=0
 seq:0≤S.seq∧S.seq≤S.ops
 cnt:∀ (b:Nat) B,S.x[b]? =some B→0≤B.w∧B.w≤S.ops∧0≤B.n∧B.n≤S.ops
theorem iT{d:List (BitVec 8)}{k p s e:Int}(h:wD d k p s e=true):(24≤d.length∧d.length≤64)∧1≤k∧k≤3∧0≤p∧p≤65535∧(k=3→p=0)∧0≤s∧s≤4294967295∧0≤e∧e≤16777215:=by
 unfold wD nD at h
 simp only[Bool.and_eq_true,decide_eq_true_eq] at h
 exact h
theorem aFH{d:List (BitVec 8)}{k p s e:Int}(h:(24≤d.length∧d.length≤64)∧1≤k∧k≤3∧0≤p∧p≤65535∧(k=3→p=0)∧0≤s∧s≤4294967295∧0≤e∧e≤16777215):wD d k p s e=true:=by
 unfold wD nD
 simp only[Bool.and_eq_true,decide_eq_true_eq]
 exact h
theorem eW.p0{S:Ps}(h:eW S):∀ b i v,bI S b i=some v→v.t.k≠3→0≤v.t.p:=fun b i v hv _=>(iT (h.tag b i v hv).1).2.2.2.1
theorem eW.geo{S:Ps}(h:eW S):(S.g.bl=(nB S:Int))∧S.g.pg=(nG S:Int)∧8≤nB S∧nB S≤20∧4≤nG S∧nG S≤8:=by
 have:=bP.1 h.may
 unfold Go.Proofs.YteaogiidncpofaaGreat.nB nG
 omega
def aHj(S:Ps)(q:Nat×Nat):Option (Int×Bool):=(bI S q.1 q.2).bind fun v=>eE S v.t
def aQh(H:Nat):List (Option (Int×Bool)):=some (-1,false)::(List.range H).flatMap fun (p:Nat)=>[some ((p:Int),false),some ((p:Int),true)]
theorem aI0(H:Nat):(aQh H).length=2*H+1:=by
 unfold aQh
 simp only[List.length_cons,List.length_flatMap,List.length_nil]
 congr 1
 induction H with
 | zero=>rfl
 | succ n ih=>rw[List.range_succ,List.map_append,List.sum_append,ih];simp;omega
theorem aFx{S:Ps}(h:eW S):aIT (dF S) (nB S)≤2*(eL S.g).toNat+1:=by
 rw[← aAe,← aI0,← List.length_map (aHj S)]
 refine lM ?_ fun c hc=>?_
 ·refine List.pairwise_map.2 (List.Pairwise.imp_of_mem ?_ (uO S _))
  intro a b ha hb hne e
  obtain⟨c,v,hv⟩:=dG.1 (mX S _ _ ha).2
  obtain⟨c',v',hv'⟩:=dG.1 (mX S _ _ hb).2
  unfold aHj at e
  rw[hv.1,hv'.1] at e
  have e:eE S v.t=eE S v'.t:=e
  rw[hv.2.1,hv'.2.1] at e
  injection e with e
  subst e
  obtain⟨e1,e2,_⟩:=aAi h.sq hv hv'
  exact hne (Prod.ext e1 e2)
 ·obtain⟨q,hq,rfl⟩:=List.mem_map.1 hc
  obtain⟨c,v,hv⟩:=dG.1 (mX S _ _ hq).2
  have e:aHj S q=some c:=by unfold aHj;rw[hv.1];exact hv.2.1
  rw[e]
  unfold aQh
  rw[List.mem_cons,List.mem_flatMap]
  by_cases hk:v.t.k=3
  ·left
   rw[← hv.2.1]
   exact tB hv.1 hk
  ·right
   have hp:=h.p0 _ _ _ hv.1 hk
   have hp2:=(h.tag _ _ _ hv.1).2.2.2.1 hk
   have hc2:=hv.2.1
   unfold eE lN at hc2
   rw[if_neg hk] at hc2
   refine⟨v.t.p.toNat,List.mem_range.2 (by omega),?_⟩
   rw[Int.toNat_of_nonneg hp]
   split at hc2
   ·split at hc2
    ·simp[← hc2]
    ·cases hc2
   ·simp[← hc2]
def xE(S:Ps)(b:Nat):Bool:=bC S b||(aP S b==0)
def phi(S:Ps):Nat:=cnt (nB S) (xE S)
theorem rF(S:Ps):phi S=kG S+dD S:=by
 rw[Nat.add_comm]
 refine aGI (fun b _=>?_) (fun b _ h=>?_)
 ·unfold xE fD cV
  cases bC S b <;> simp
 ·unfold fD cV;rw[h];rfl
theorem mB{S:Ps}{b:Nat}(hb:b<S.x.length)(t:Tg)(d:List (BitVec 8))(c:Nat):aP (bM S b t d) c=if c=b then aP S b+1 else aP S c:=by
 unfold aP bM
 simp only[List.getElem?_modify]
 by_cases h:b=c
 ·subst h
  rw[List.getElem?_eq_getElem hb]
  simp
 ·rw[if_neg (fun e=>h e.symm)]
  simp only[if_neg h]
  cases S.x[c]? <;> rfl
theorem mI{S:Ps}{b:Nat}(c:Nat):aP (dL S b) c=if c=b then 0 else aP S c:=by
 unfold aP dL
 simp only[List.getElem?_modify]
 by_cases h:b=c
 ·subst h
  rw[if_pos rfl]
  cases S.x[b]? <;> simp
 ·rw[if_neg (fun e=>h e.symm)]
  simp only[if_neg h]
  cases S.x[c]? <;> rfl
theorem aHM{S:Ps}{b:Nat}(t:Tg)(d:List (BitVec 8))(c:Nat):aZ (bM S b t d) c=aZ S c:=by
 unfold aZ bM
 simp only[List.getElem?_modify]
 by_cases h:b=c
 ·subst h
  cases S.x[b]? <;> simp
 ·simp only[if_neg h]
  cases S.x[c]? <;> rfl
theorem aIJ{S:Ps}{b:Nat}(hb:b<S.x.length)(c:Nat):aZ (dL S b) c=if c=b then aZ S b+1 else aZ S c:=by
 unfold aZ dL
 simp only[List.getElem?_modify]
 by_cases h:b=c
 ·subst h
  rw[if_pos rfl,List.getElem?_eq_getElem hb]
  simp
 ·rw[if_neg (fun e=>h e.symm)]
  simp only[if_neg h]
  cases S.x[c]? <;> rfl
theorem aAJ{fs:List nU}{b d e:Int}(h:d≤e)(hd:gK fs b d=true):gK fs b e=true:=by
 unfold gK at hd ⊢
 cases hf:jA fs b with
 | none=>rw[hf] at hd;cases hd
 | some f=>
   rw[hf] at hd
   simp only[decide_eq_true_eq] at hd ⊢
   omega
theorem xA{S:Ps}{b:Nat}(t:Tg)(d:List (BitVec 8))(c:Nat):(c≠b→bC (bM S b t d) c=bC S c)∧(bC S c=true→bC (bM S b t d) c=true):=by
 unfold bC bM
 simp only[List.getElem?_modify]
 by_cases h:b=c
 ·subst h
  refine⟨fun e=>absurd rfl e,?_⟩
  cases hx:S.x[b]? with
  | none=>simp
  | some B=>
    simp only[if_true,Option.map_eq_map,Option.map_some,Bool.or_eq_true]
    exact Or.imp id (aAJ (by omega))
 ·simp only[if_neg h]
  cases S.x[c]? <;> simp
theorem rP{S:Ps}{b:Nat}(c:Nat):(c≠b→bC (dL S b) c=bC S c)∧(bC S c=true→bC (dL S b) c=true):=by
 unfold bC dL
 simp only[List.getElem?_modify]
 by_cases h:b=c
 ·subst h
  refine⟨fun e=>absurd rfl e,?_⟩
  cases hx:S.x[b]? with
  | none=>simp
  | some B=>
    simp only[if_true,Option.map_eq_map,Option.map_some,Bool.or_eq_true]
    exact Or.imp id (aAJ (by omega))
 ·simp only[if_neg h]
  cases S.x[c]? <;> simp
theorem aD9{S:Ps}{b:Nat}(hb:b<nB S)(hx:b<S.x.length)(t:Tg)(d:List (BitVec 8)):
 phi (bM S b t d)+(if xE S b=true then 1 else 0)=phi S+(if bC (bM S b t d) b=true then 1 else 0):=by
 have h1:xE (bM S b t d) b=bC (bM S b t d) b:=by
  unfold xE
  rw[mB hx,if_pos rfl]
  simp
 have:=aGA (n:=nB S) (b:=b) (is:=xE S) (js:=xE (bM S b t d)) hb fun c hc=>by
  unfold xE
  rw[mB hx,if_neg hc,(xA t d c).1 hc]
 rw[h1] at this
 exact this
theorem aK0{S:Ps}{b:Nat}(hb:b<nB S):phi (dL S b)+(if xE S b=true then 1 else 0)=phi S+1:=by
 have h1:xE (dL S b) b=true:=by
  unfold xE
  rw[mI,if_pos rfl]
  simp
 have:=aGA (n:=nB S) (b:=b) (is:=xE S) (js:=xE (dL S b)) hb fun c hc=>by
  unfold xE
  rw[mI,if_neg hc,(rP c).1 hc]
 rw[h1,if_pos rfl] at this
 exact this
theorem aKf{S:Ps}{b:Nat}(h:bC S b=true):∃ f∈S.fs,f.blk=b:=by
 unfold bC aDP at h
 cases hf:jA S.fs b with
 | none=>
   rw[hf] at h
   simp only[Bool.false_or] at h
   split at h
   ·unfold gK at h
    rw[hf] at h
    cases h
   ·cases h
 | some f=>
   have h1:=List.find?_some hf
   exact⟨f,List.mem_of_find?_eq_some hf,by simpa using h1⟩
theorem aEJ(S:Ps):dD S≤S.fs.length:=by
 have:((List.range (nB S)).filter (bC S)).length≤(S.fs.map (fun f=>f.blk.toNat)).length:=by
  refine lM ((List.nodup_range).filter _) fun b hb=>?_
  rw[List.mem_filter] at hb
  obtain⟨f,hf,e⟩:=aKf hb.2
  exact List.mem_map.2 ⟨f,hf,by omega⟩
 rw[List.length_map] at this
 exact this
theorem eW.push{S:Ps}(h:eW S){b:Nat}{t:Tg}{d:List (BitVec 8)}(hb:b<nB S)(hg:bC S b=false)(hu:aP S b<nG S)(hok:wD d t.k t.p (S.seq+1) t.e=true)(hd:(d.length:Int)=S.g.by')(hp:t.k≠3→t.p<eL S.g)(he:t.e≤S.ep):
 eW (bM S b t d):=by
 have hx:b<S.x.length:=by rw[h.len];exact hb
 have hseq:=h.seq
 refine⟨h.may,by show (S.x.modify b _).length=_;rw[List.length_modify];exact h.len,fun c=>?_,⟨fun c i v hv=>?_,fun c i v c' i' v' hv hv' e=>?_⟩,fun c i v hv=>?_,fun c hc=>?_,⟨by show 0≤S.seq+1;omega,by show S.seq+1≤S.ops+1;omega⟩,fun c B hB=>?_⟩
 ·rw[mB hx]
  have:=h.pgs c
  show _≤nG S
  split <;> omega
 ·rw[aX hx] at hv
  show _≤S.seq+1
  split at hv
  ·injection hv with hv
   subst hv
   exact Int.le_refl _
  ·have:=h.sq.le _ _ _ hv;omega
 ·rw[aX hx] at hv hv'
  split at hv <;> split at hv'
  ·omega
  ·injection hv with hv
   subst hv
   have:=h.sq.le _ _ _ hv'
   simp only at e;omega
  ·injection hv' with hv'
   subst hv'
   have:=h.sq.le _ _ _ hv
   simp only at e;omega
  ·exact h.sq.one _ _ _ _ _ _ hv hv' e
 ·rw[aX hx] at hv
  split at hv
  ·injection hv with hv
   subst hv
   exact⟨hok,hd,by simp only;omega,hp,he⟩
  ·exact h.tag _ _ _ hv
 ·rw[mB hx]
  have hc':aDP S.fs (c:Int)=true:=hc
  split
  ·rename_i e
   subst e
   unfold bC at hg
   rw[hc'] at hg
   simp at hg
  ·exact h.bad c hc'
 ·have:(S.x.modify b fun B=>{ B with v:=B.v++[⟨{ t with s:=S.seq+1 },d⟩],n:=B.n+1 })[c]? =some B:=hB
  rw[List.getElem?_modify] at this
  obtain⟨B0,hB0,e⟩:=Option.map_eq_some_iff.1 this
  have h1:=h.cnt c B0 hB0
  show _∧_≤S.ops+1∧_∧_≤S.ops+1
  split at e
  ·subst e;simp only;omega
  ·subst e;omega
theorem eW.wipe{S:Ps}(h:eW S)(b:Nat):eW (dL S b):=by
 have hseq:=h.seq
 refine⟨h.may,by show (S.x.modify b _).length=_;rw[List.length_modify];exact h.len,fun c=>?_,⟨fun c i v hv=>?_,fun c i v c' i' v' hv hv' e=>?_⟩,fun c i v hv=>?_,fun c hc=>?_,⟨hseq.1,by show S.seq≤S.ops+1;omega⟩,fun c B hB=>?_⟩
 ·rw[mI]
  have:=h.pgs c
  show _≤nG S
  split <;> omega
 ·rw[eQ] at hv
  split at hv
  ·cases hv
  ·exact h.sq.le _ _ _ hv
 ·rw[eQ] at hv hv'
  split at hv <;> split at hv'
  ·cases hv
  ·cases hv
  ·cases hv'
  ·exact h.sq.one _ _ _ _ _ _ hv hv' e
 ·rw[eQ] at hv
  split at hv
  ·cases hv
  ·exact h.tag _ _ _ hv
 ·rw[mI]
  split
  ·rfl
  ·exact h.bad c hc
 ·have:(S.x.modify b fun B=>⟨[],B.w+1,B.n+1⟩)[c]? =some B:=hB
  rw[List.getElem?_modify] at this
  obtain⟨B0,hB0,e⟩:=Option.map_eq_some_iff.1 this
  have h1:=h.cnt c B0 hB0
  show _∧_≤S.ops+1∧_∧_≤S.ops+1
  split at e
  ·subst e;simp only;omega
  ·subst e;omega
theorem eW.deg{S:Ps}(h:eW S)(x:Bool):eW { S with deg:=x }:=⟨h.may,h.len,h.pgs,⟨h.sq.le,h.sq.one⟩,h.tag,h.bad,h.seq,h.cnt⟩
theorem xC{lt:Int→Int→Bool}{ws:Nat→Int}{gd:Nat→Bool}:∀ {n:Nat},dR lt ws gd n<0→∀ k,k<n→gd k=false
 | 0,_,k,hk=>by omega
 | n+1,h,k,hk=>by
   rw[dR] at h
   split at h
   ·omega
   ·rename_i h1
    simp only[Bool.and_eq_true,Bool.or_eq_true,decide_eq_true_eq,not_and,not_or] at h1
    by_cases hkn:k=n
    ·subst hkn
     cases hg:gd k with
     | false=>rfl
     | true=>exact absurd h (h1 hg).1
    ·exact xC h k (by omega)
theorem oS{lt:Int→Int→Bool}{ws:Nat→Int}{gd:Nat→Bool}:∀ {n:Nat},0≤dR lt ws gd n→dR lt ws gd n<n∧gd (dR lt ws gd n).toNat=true
 | 0,h=>by rw[dR] at h;omega
 | n+1,h=>by
   rw[dR] at h ⊢
   split
   ·rename_i h1
    simp only[Bool.and_eq_true] at h1
    exact⟨by omega,by rw[Int.toNat_natCast];exact h1.1⟩
   ·rename_i h1
    rw[if_neg h1] at h
    obtain⟨h2,h3⟩:=oS h
    exact⟨by omega,h3⟩
theorem mP{S:Ps}(h:0<kG S):0≤cD S∧cD S<nB S∧fD S (cD S).toNat=true:=by
 have h0:0≤cD S:=by
  obtain⟨b,hb,hf⟩:=aMi h
  have:= @xC (fun a b=>decide (a<b)) (aZ S) (fD S) (nB S)
  by_cases hn:cD S<0
  ·have:=this hn b hb
   rw[hf] at this;cases this
  ·omega
 exact⟨h0,oS h0⟩
structure rW (S S':Ps):Prop where
 g:S'.g=S.g
 fs:S'.fs=S.fs
 ep:S'.ep=S.ep
 now:S'.now=S.now
theorem rW.refl(S:Ps):rW S S:=⟨rfl,rfl,rfl,rfl⟩
theorem rW.trans{S S' S'':Ps}(h:rW S S')(k:rW S' S''):rW S S'':=⟨k.g.trans h.g,k.fs.trans h.fs,k.ep.trans h.ep,k.now.trans h.now⟩
theorem rW.nB{S S':Ps}(h:rW S S'):nB S'=nB S:=by unfold Go.Proofs.YteaogiidncpofaaGreat.nB;rw[h.g]
theorem rW.nG{S S':Ps}(h:rW S S'):nG S'=nG S:=by unfold Go.Proofs.YteaogiidncpofaaGreat.nG;rw[h.g]
def rX(S:Ps):Prop:=(∃ b,b<nB S∧cX S b=true)∨3+S.g.sp≤phi S
theorem sY(S:Ps):(jI S=(S,0)∧(dD S:Int)≤S.g.sp)∨(jI S=({ S with deg:=true },12)∧S.g.sp<(dD S:Int)):=by
 unfold jI
 by_cases h:(dD S:Int)≤S.g.sp
 ·exact .inl ⟨if_pos h,h⟩
 ·exact .inr ⟨if_neg h,by omega⟩
theorem jE.deg(S:Ps)(x:Bool):jE S { S with deg:=x }:=⟨rfl,rfl,fun _ _ _ _ _=>Iff.rfl⟩
structure qL (S:Ps) (b:Nat):Prop where
 inv:eW S
 hb:b<nB S
 good:bC S b=false
 lost:(dD S:Int)≤S.g.sp
 phi:2+S.g.sp≤phi S
 ops:S.ops+100≤4294967295
structure yV (S:Ps) (b:Nat) (r:Ps×Int):Prop where
 inv:eW r.1
 same:jE S r.1
 env:rW S r.1
 ops:S.ops≤r.1.ops∧r.1.ops≤S.ops+nG S+1
 lostM:∀ c,bC S c=true→bC r.1 c=true
 code:(r.2=0∧r.1.deg=S.deg∧(dD r.1:Int)≤S.g.sp∧Go.Proofs.YteaogiidncpofaaGreat.phi S≤Go.Proofs.YteaogiidncpofaaGreat.phi r.1∧(rX S→rX r.1)∧(jR S b=true→dF S b<nG S→rX r.1)∧∀ c,aZ r.1 c=if c=b then aZ S b+1 else aZ S c)
  ∨ (r.2=12∧r.1.deg=true∧S.g.sp<(dD r.1:Int))
structure Clr (S0:Ps) (b i:Nat) (to:Int) (S:Ps):Prop where
 inv:eW S
 same:jE S0 S
 env:rW S0 S
 deg:S.deg=S0.deg
 ops:S0.ops≤S.ops∧S.ops≤S0.ops+i
 lostM:∀ c,bC S0 c=true→bC S c=true
 lost:(dD S:Int)≤S.g.sp
 blk:S.x[b]? =S0.x[b]?
 wear:∀ c,aZ S c=aZ S0 c
 stay:∀ c,fD S0 c=false→S.x[c]? =S0.x[c]?
 done:∀ j,j<i→cH S b j=false
 todo:∀ j,i≤j→cH S b j=cH S0 b j
 to:(to<0∧phi S=phi S0∧cnt i (cH S0 b)=0)∨
  (0≤to∧to<nB S∧to.toNat≠b∧fD S0 to.toNat=true∧1≤aP S to.toNat∧aP S to.toNat≤cnt i (cH S0 b)∧((bC S to.toNat=true∧phi S0≤phi S)∨(bC S to.toNat=false∧phi S0≤phi S+1)))
theorem vC{S S':Ps}(hf:S'.fs=S.fs){c:Nat}(h:S'.x[c]? =S.x[c]?):bC S' c=bC S c:=by unfold bC;rw[hf,h]
theorem uT{S S':Ps}{c:Nat}(h:S'.x[c]? =S.x[c]?):aP S' c=aP S c:=by unfold aP;rw[h]
theorem aDf(S:Ps)(b:Nat)(n:Nat)(h:aP S b≤n):cnt n (cH S b)=dF S b:=by
 obtain⟨k,rfl⟩:=Nat.exists_eq_add_of_le h
 induction k with
 | zero=>rfl
 | succ k ih=>
   rw[show aP S b+(k+1)=(aP S b+k)+1 by omega,dT,ih (by omega)]
   have:cH S b (aP S b+k)=false:=by
    cases hl:cH S b (aP S b+k) with
    | false=>rfl
    | true=>
      obtain⟨c,v,hv⟩:=dG.1 hl
      have:=cQ hv.1
      omega
   rw[this]
   simp
theorem aN5{S0 S:Ps}{b:Nat}{to:Int}(h0:qL S0 b)(h:Clr S0 b (nG S0) to S):yV S0 b (xH S b):=by
 have hnb:=h.env.nB
 have hgood:bC S b=false:=by rw[vC h.env.fs h.blk];exact h0.good
 have hb:b<nB S:=by rw[hnb];exact h0.hb
 have hx:b<S.x.length:=by rw[h.inv.len];exact hb
 have hn:∀ i,cH S b i=false:=fun i=>by
  by_cases hi:i<nG S0
  ·exact h.done i hi
  ·cases hl:cH S b i with
   | false=>rfl
   | true=>
     obtain⟨c,v,hv⟩:=dG.1 hl
     have h1:=cQ hv.1
     have h2:=h.inv.pgs b
     rw[h.env.nG] at h2
     omega
 have hsame:=h.same.trans (aIA h.inv.p0 hn)
 have hinv:=h.inv.wipe b
 have hops:S0.ops≤(dL S b).ops∧(dL S b).ops≤S0.ops+nG S0+1:=by
  have:=h.ops
  show _≤S.ops+1∧S.ops+1≤_
  omega
 have henv:rW S0 (dL S b):=h.env.trans ⟨rfl,rfl,rfl,rfl⟩
 have hlm:∀ c,bC S0 c=true→bC (dL S b) c=true:=fun c hc=>(rP c).2 (h.lostM c hc)
 unfold xH
 rw[if_neg (by rw[hgood];simp)]
 rcases sY (dL S b) with⟨e,hw⟩|⟨e,hw⟩
 rotate_left
 ·rw[e]
  refine⟨hinv.deg true,hsame.trans (jE.deg _ _),henv.trans ⟨rfl,rfl,rfl,rfl⟩,hops,hlm,.inr ⟨rfl,rfl,?_⟩⟩
  rw[← henv.g];exact hw
 rw[e]
 refine⟨hinv,hsame,henv,hops,hlm,.inl ⟨rfl,h.deg,by rw[← henv.g];exact hw,?_⟩⟩
 show phi S0≤phi (dL S b)∧(rX S0→rX (dL S b))∧(jR S0 b=true→dF S0 b<nG S0→rX (dL S b))∧∀ c,aZ (dL S b) c=if c=b then aZ S0 b+1 else aZ S0 c
 have hphi:=aK0 (S:=S) hb
 have hub:aP S b=aP S0 b:=uT h.blk
 have hfl:xE S b=(aP S0 b==0):=by unfold xE;rw[hgood,hub];rfl
 rw[hfl] at hphi
 have hwear:∀ c,aZ (dL S b) c=if c=b then aZ S0 b+1 else aZ S0 c:=fun c=>by
  rw[aIJ hx,h.wear,h.wear]
 have hopen:∀ o,o≠b→o<nB S0→cX S0 o=true→cX (dL S b) o=true:=fun o hob ho hop=>by
  have hst:S.x[o]? =S0.x[o]? :=h.stay o (by
   unfold cX at hop
   unfold fD
   simp only[Bool.and_eq_true,decide_eq_true_eq] at hop
   rw[hop.1]
   simp;omega)
  unfold cX cV at hop ⊢
  rw[mI,if_neg hob,(rP o).1 hob,vC h.env.fs hst,uT hst]
  rw[show nG (dL S b)=nG S0 from h.env.nG]
  exact hop
 have hg3:(dL S b).g=S0.g:=henv.g
 have hnbw:nB (dL S b)=nB S0:=henv.nB
 rcases h.to with⟨h1,h2,h3⟩|⟨h1,h2,h2b,h2f,h3,h4,h5⟩
 ·
  by_cases hu:aP S0 b=0
  ·rw[hu] at hphi
   simp only[beq_self_eq_true,if_true] at hphi
   refine⟨by omega,fun hp=>?_,fun hf=>?_,hwear⟩
   ·rcases hp with⟨o,ho,hop⟩|hp
    ·by_cases hob:o=b
     ·subst hob
      unfold cX at hop
      rw[hu] at hop
      simp at hop
     ·exact .inl ⟨o,by rw[hnbw];exact ho,hopen o hob ho hop⟩
    ·exact .inr (by rw[hg3];omega)
   ·unfold jR at hf
    rw[hu] at hf
    simp only[Bool.and_eq_true,beq_iff_eq] at hf
    have:=h0.inv.geo
    omega
  ·have:(aP S0 b==0)=false:=by simpa using hu
   rw[this] at hphi
   simp only[Bool.false_eq_true,if_false] at hphi
   have hp:=h0.phi
   have hP:rX (dL S b):= .inr (by rw[hg3];omega)
   exact⟨by omega,fun _=>hP,fun _ _=>hP,hwear⟩
 ·
  have hcl:=aDf S0 b (nG S0) (h0.inv.pgs b)
  rw[hcl] at h4
  have hu:aP S0 b≠0:=fun hu=>by
   have:dF S0 b=0:=by unfold dF;rw[hu];rfl
   omega
  have:(aP S0 b==0)=false:=by simpa using hu
  rw[this] at hphi
  simp only[Bool.false_eq_true,if_false] at hphi
  have hp:=h0.phi
  rcases h5 with⟨h5,h6⟩|⟨h5,h6⟩
  ·have hP:rX (dL S b):= .inr (by rw[hg3];omega)
   exact⟨by omega,fun _=>hP,fun _ _=>hP,hwear⟩
  ·have hto:dF S0 b<nG S0→rX (dL S b):=fun hl=>by
    refine .inl ⟨to.toNat,by rw[hnbw,← hnb];omega,?_⟩
    unfold cX cV
    rw[mI,if_neg h2b,(rP _).1 h2b,h5,show nG (dL S b)=nG S0 from h.env.nG]
    simp;omega
   refine⟨by omega,fun hpr=>?_,fun _ hl=>hto hl,hwear⟩
   by_cases hl:dF S0 b<nG S0
   ·exact hto hl
   ·rcases hpr with⟨o,ho,hop⟩|hpr
    ·by_cases hob:o=b
     ·subst hob
      have h7:dF S0 o≤aP S0 o:=sM _ _
      unfold cX at hop
      simp only[Bool.and_eq_true,decide_eq_true_eq] at hop
      omega
     ·exact .inl ⟨o,by rw[hnbw];exact ho,hopen o hob ho hop⟩
    ·exact .inr (by rw[hg3];omega)
theorem aDV{S0 S:Ps}{b i:Nat}{to:Int}(h0:qL S0 b)(h:Clr S0 b i to S)(hi:i<nG S0){c:Int×Bool}{v:sD}(hv:jX S c b i v){t:Nat}
 (ht:t<nB S) (htb:t≠b) (htg:bC S t=false) (htf:fD S0 t=true) (hub:aP S t≤cnt i (cH S0 b))
 (hphi:phi S0≤phi S+(if aP S t=0 then 0 else 1)):
 (lB S t v.t v.d).2≠0∧yV S0 b (lB S t v.t v.d)∨(lB S t v.t v.d).2=0∧Clr S0 b (i+1) (t:Int) (lB S t v.t v.d).1:=by
 have hx:t<S.x.length:=by rw[h.inv.len];exact ht
 have htag:=h.inv.tag _ _ _ hv.1
 have hops:=h.ops
 have hsq:=h.inv.seq
 have hop0:=h0.ops
 have hge:=h0.inv.geo
 have hcnt:=sM i (cH S0 b)
 have hok:=iT htag.1
 have hinv:eW (bM S t v.t v.d):=h.inv.push ht htg (by rw[h.env.nG];omega) (aFH (by omega)) htag.2.1 htag.2.2.2.1 htag.2.2.2.2
 have hsame:=h.same.trans (aHA h.inv.sq hv hx)
 have henv:rW S0 (bM S t v.t v.d):=h.env.trans ⟨rfl,rfl,rfl,rfl⟩
 have hlm:∀ d,bC S0 d=true→bC (bM S t v.t v.d) d=true:=fun d hd=>(xA _ _ d).2 (h.lostM d hd)
 have hlive:cH S0 b i=true:=by rw[← h.todo i (Nat.le_refl _)];exact dG.2 ⟨_,_,hv⟩
 have hcs:cnt (i+1) (cH S0 b)=cnt i (cH S0 b)+1:=by rw[dT,if_pos hlive]
 have hpp:=aD9 (S:=S) ht hx v.t v.d
 unfold lB
 rcases sY (bM S t v.t v.d) with⟨e,hw⟩|⟨e,hw⟩
 rotate_left
 ·rw[e]
  left
  refine⟨by simp,hinv.deg true,hsame.trans (jE.deg _ _),henv.trans ⟨rfl,rfl,rfl,rfl⟩,?_,hlm,.inr ⟨rfl,rfl,?_⟩⟩
  ·show _≤S.ops+1∧S.ops+1≤_
   omega
  ·rw[← henv.g];exact hw
 rw[e]
 right
 refine⟨rfl,hinv,hsame,henv,h.deg,?_,hlm,hw,?_,fun d=>?_,fun d hd=>?_,fun j hj=>?_,fun j hj=>?_,.inr ⟨by omega,?_,by rw[Int.toNat_natCast];exact htb,by rw[Int.toNat_natCast];exact htf,?_,?_,?_⟩⟩
 ·show _≤S.ops+1∧S.ops+1≤_
  omega
 ·show (S.x.modify t _)[b]? =_
  rw[List.getElem?_modify,← h.blk]
  cases S.x[b]? with
  | none=>rfl
  | some B=>simp[htb]
 ·rw[show (bM S t v.t v.d,(0:Int)).1=bM S t v.t v.d from rfl,aHM,h.wear]
 ·show (S.x.modify t _)[d]? =_
  rw[List.getElem?_modify,← h.stay d hd]
  have:t≠d:=by rintro rfl;rw[htf] at hd;cases hd
  cases S.x[d]? with
  | none=>rfl
  | some B=>simp[this]
 ·show cH (bM S t v.t v.d) b j=false
  rw[aB7 h.inv.sq hv hx (fun e=>htb e.1.symm)]
  by_cases e:j=i
  ·subst e;simp
  ·rw[h.done j (by omega)];rfl
 ·show cH (bM S t v.t v.d) b j=_
  rw[aB7 h.inv.sq hv hx (fun e=>htb e.1.symm),h.todo j (by omega)]
  have:j≠i:=by omega
  simp[this]
 ·show (t:Int)<nB S
  omega
 ·rw[Int.toNat_natCast]
  show 1≤aP (bM S t v.t v.d) t
  rw[mB hx,if_pos rfl];omega
 ·rw[Int.toNat_natCast,hcs]
  show aP (bM S t v.t v.d) t≤_
  rw[mB hx,if_pos rfl];omega
 ·rw[Int.toNat_natCast]
  show (bC (bM S t v.t v.d) t=true∧phi S0≤phi (bM S t v.t v.d))∨(bC (bM S t v.t v.d) t=false∧phi S0≤phi (bM S t v.t v.d)+1)
  have hfl:xE S t=(aP S t==0):=by unfold xE;rw[htg];rfl
  rw[hfl] at hpp
  cases hl:bC (bM S t v.t v.d) t with
  | true=>
    left
    rw[hl] at hpp
    refine⟨rfl,?_⟩
    by_cases hu:aP S t=0
    ·rw[hu] at hpp hphi
     simp at hpp hphi
     omega
    ·have:(aP S t==0)=false:=by simpa using hu
     rw[this] at hpp
     rw[if_neg hu] at hphi
     simp at hpp
     omega
  | false=>
    right
    rw[hl] at hpp
    refine⟨rfl,?_⟩
    by_cases hu:aP S t=0
    ·rw[hu] at hpp hphi
     simp at hpp hphi
     omega
    ·have:(aP S t==0)=false:=by simpa using hu
     rw[this] at hpp
     rw[if_neg hu] at hphi
     simp at hpp
     omega
theorem aAY{S0:Ps}{b:Nat}(h0:qL S0 b):∀ (k i:Nat) (to:Int) (S:Ps),k+i=nG S0→Clr S0 b i to S→yV S0 b (wP b (cH S0 b) k i to S)
 | 0,i,to,S,hk,h=>by
   have:i=nG S0:=by omega
   subst this
   exact aN5 h0 h
 | k+1,i,to,S,hk,h=>by
   rw[wP]
   cases hl:cH S0 b i with
   | false=>
     simp only
     refine aAY h0 k (i+1) to S (by omega) ⟨h.inv,h.same,h.env,h.deg,by have:=h.ops;omega,h.lostM,h.lost,h.blk,h.wear,h.stay,fun j hj=>?_,fun j hj=>h.todo j (by omega),?_⟩
     ·by_cases e:j=i
      ·subst e;rw[h.todo j (Nat.le_refl _)];exact hl
      ·exact h.done j (by omega)
     ·have:cnt (i+1) (cH S0 b)=cnt i (cH S0 b):=by rw[dT,hl];simp
      rw[this];exact h.to
   | true=>
     obtain⟨c,v,hv⟩:=dG.1 ((h.todo i (Nat.le_refl _)).trans hl)
     rw[hv.1]
     simp only
     have hi:i<nG S0:=by omega
     have fresh:phi S0≤phi S→0≤cD S∧cD S<nB S∧(cD S).toNat<nB S∧(cD S).toNat≠b∧bC S (cD S).toNat=false∧fD S0 (cD S).toNat=true∧aP S (cD S).toNat=0:=fun hp=>by
      have h1:=rF S
      have h2:=h.lost
      have h3:=h0.phi
      have h4:=congrArg eF.sp h.env.g
      obtain⟨f1,f2,f3⟩:=mP (S:=S) (by omega)
      have f4:=f3
      unfold fD cV at f4
      simp only[Bool.and_eq_true,Bool.not_eq_true',beq_iff_eq] at f4
      refine⟨f1,f2,by omega,fun e=>?_,f4.1,?_,f4.2⟩
      ·have:=cQ hv.1
       rw[← e] at this;omega
      ·cases hf:fD S0 (cD S).toNat with
       | true=>rfl
       | false=>
         have hst:=h.stay _ hf
         unfold fD cV at f3 hf
         rw[vC h.env.fs hst,uT hst,hf] at f3
         cases f3
     obtain⟨t,ht1,ht2,ht3,ht4,ht5,ht6,ht7⟩:∃ t:Nat,(if to<0 then cD S else if (bC S to.toNat||aP S to.toNat==nG S)=true then cD S else to)=(t:Int)∧t<nB S∧t≠b∧bC S t=false∧fD S0 t=true∧aP S t≤cnt i (cH S0 b)∧phi S0≤phi S+(if aP S t=0 then 0 else 1):=by
      rcases h.to with⟨h1,h2,h3⟩|⟨h1,h2,h3,h4,h5,h6,h7⟩
      ·rw[if_pos h1]
       obtain⟨f1,f2,f3,f4,f5,f6,f7⟩:=fresh (by omega)
       exact⟨(cD S).toNat,by omega,f3,f4,f5,f6,by omega,by rw[if_pos f7];omega⟩
      ·rw[if_neg (by omega)]
       rcases h7 with⟨h7,h8⟩|⟨h7,h8⟩
       ·rw[if_pos (by rw[h7];rfl)]
        obtain⟨f1,f2,f3,f4,f5,f6,f7⟩:=fresh h8
        exact⟨(cD S).toNat,by omega,f3,f4,f5,f6,by omega,by rw[if_pos f7];omega⟩
       ·have hc:=sM i (cH S0 b)
        have hne:(aP S to.toNat==nG S)=false:=by
         rw[h.env.nG]
         simp;omega
        rw[h7,hne,if_neg (by simp)]
        exact⟨to.toNat,by omega,by omega,h3,h7,h4,h6,by rw[if_neg (by omega)];omega⟩
     rw[ht1]
     rw[if_neg (by omega)]
     rw[Int.toNat_natCast]
     rcases aDV h0 h hi hv ht2 ht3 ht4 ht5 ht6 ht7 with⟨e,hp⟩|⟨e,hp⟩
     ·rw[if_pos e]
      exact hp
     ·rw[if_neg (by rw[e];simp)]
      exact aAY h0 k (i+1) t _ (by omega) hp
theorem tN{S:Ps}{b:Nat}(h:qL S b):yV S b (gB S b):=
 aAY h (nG S) 0 (-1) S (by omega) ⟨h.inv,jE.refl S,rW.refl S,rfl,by omega,fun _ h=>h,h.lost,rfl,fun _=>rfl,fun _ _=>rfl,fun j hj=>by omega,fun _ _=>rfl,.inl ⟨by omega,rfl,rfl⟩⟩
structure Pre (S:Ps) (n:Nat):Prop where
 inv:eW S
 lost:(dD S:Int)≤S.g.sp
 phi:2+S.g.sp≤phi S
 ops:S.ops+9*n+100≤4294967295
structure aGX (S:Ps) (n:Nat) (r:Ps×Int):Prop where
 inv:eW r.1
 same:jE S r.1
 env:rW S r.1
 ops:S.ops≤r.1.ops∧r.1.ops≤S.ops+9*n
 lostM:∀ c,bC S c=true→bC r.1 c=true
 code:(r.2=0∧r.1.deg=S.deg∧(dD r.1:Int)≤S.g.sp∧Go.Proofs.YteaogiidncpofaaGreat.phi S≤Go.Proofs.YteaogiidncpofaaGreat.phi r.1∧(rX S→rX r.1))∨(r.2=12∧r.1.deg=true∧S.g.sp<(dD r.1:Int))
theorem aFc:∀ (n:Nat) (S:Ps),Pre S n→aGX S n (wL n S)
 | 0,S,h=>⟨h.inv,jE.refl S,rW.refl S,⟨Int.le_refl _,by show S.ops≤S.ops+9*((0:Nat):Int);omega⟩,fun _ h=>h,.inl ⟨rfl,rfl,h.lost,Nat.le_refl _,fun h=>h⟩⟩
 | n+1,S,h=>by
   rw[wL]
   have hge:=h.inv.geo
   by_cases hs:kY S>S.g.tr
   ·rw[if_pos hs]
    have hm:=bP.1 h.inv.may
    have h0:0≤dR (fun a b=>decide (a<b)) (aZ S) (cV S) (nB S):=by
     by_cases hn:dR (fun a b=>decide (a<b)) (aZ S) (cV S) (nB S)<0
     ·unfold kY at hs
      simp only[hn,if_true] at hs
      omega
     ·omega
    obtain⟨h1,h2⟩:=oS h0
    unfold cV at h2
    simp only[Bool.not_eq_true'] at h2
    have hc:=tN (S:=S) (b:=(dR (fun a b=>decide (a<b)) (aZ S) (cV S) (nB S)).toNat) ⟨h.inv,by omega,h2,h.lost,h.phi,by have:=h.ops;omega⟩
    simp only
    rcases hc.code with⟨e,hd,hl,hp,hq,_,_⟩|⟨e,hd,hl⟩
    ·rw[if_neg (by rw[e];simp)]
     have hop:=hc.ops
     have ih:=aFc n (gB S (dR (fun a b=>decide (a<b)) (aZ S) (cV S) (nB S)).toNat).1 ⟨hc.inv,by rw[hc.env.g];exact hl,by rw[hc.env.g];have:=h.phi;omega,by have:=h.ops;omega⟩
     have iop:=ih.ops
     refine⟨ih.inv,hc.same.trans ih.same,hc.env.trans ih.env,⟨by omega,by omega⟩,fun c hx=>ih.lostM c (hc.lostM c hx),?_⟩
     rcases ih.code with⟨k1,k2,k3,k4,k5⟩|⟨k1,k2,k3⟩
     ·exact .inl ⟨k1,k2.trans hd,by rw[hc.env.g] at k3;exact k3,by omega,fun hx=>k5 (hq hx)⟩
     ·exact .inr ⟨k1,k2,by rw[hc.env.g] at k3;exact k3⟩
    ·rw[if_pos (by rw[e];simp)]
     have hop:=hc.ops
     exact⟨hc.inv,hc.same,hc.env,⟨by omega,by omega⟩,hc.lostM,.inr ⟨e,hd,hl⟩⟩
   ·rw[if_neg hs]
    exact⟨h.inv,jE.refl S,rW.refl S,⟨Int.le_refl _,by show S.ops≤S.ops+9*((n+1:Nat):Int);omega⟩,fun _ h=>h,.inl ⟨rfl,rfl,h.lost,Nat.le_refl _,fun h=>h⟩⟩
theorem pM(lv:Nat→Nat)(ws:Nat→Int)(may:Nat→Bool):∀ n:Nat,(eK lv ws may n<0→∀ k,k<n→may k=false)∧(0≤eK lv ws may n→eK lv ws may n<n∧may (eK lv ws may n).toNat=true∧∀ k,k<n→may k=true→lv (eK lv ws may n).toNat≤lv k)
 | 0=>⟨fun _ k hk=>by omega,fun h=>by rw[eK] at h;omega⟩
 | n+1=>by
   obtain⟨i1,i2⟩:=pM lv ws may n
   rw[eK]
   split
   ·rename_i hc
    simp only[Bool.and_eq_true,Bool.or_eq_true,decide_eq_true_eq,beq_iff_eq] at hc
    refine⟨fun h=>by omega,fun _=>⟨by omega,by rw[Int.toNat_natCast];exact hc.1,fun k hk hm=>?_⟩⟩
    rw[Int.toNat_natCast]
    by_cases e:k=n
    ·rw[e];exact Nat.le_refl _
    ·rcases hc.2 with h|h|h
     ·have:=i1 h k (by omega)
      rw[this] at hm;cases hm
     ·by_cases h0:eK lv ws may n<0
      ·have:=i1 h0 k (by omega)
       rw[this] at hm;cases hm
      ·have:=(i2 (by omega)).2.2 k (by omega) hm
       omega
     ·by_cases h0:eK lv ws may n<0
      ·have:=i1 h0 k (by omega)
       rw[this] at hm;cases hm
      ·have:=(i2 (by omega)).2.2 k (by omega) hm
       omega
   ·rename_i hc
    simp only[Bool.and_eq_true,Bool.or_eq_true,decide_eq_true_eq,beq_iff_eq,not_and,not_or] at hc
    refine⟨fun h k hk=>?_,fun h=>?_⟩
    ·by_cases e:k=n
     ·subst e
      cases hm:may k with
      | false=>rfl
      | true=>exact absurd h (hc hm).1
     ·exact i1 h k (by omega)
    ·obtain⟨j1,j2,j3⟩:=i2 h
     refine⟨by omega,j2,fun k hk hm=>?_⟩
     by_cases e:k=n
     ·subst e
      have:=(hc hm).2.1
      omega
     ·exact j3 k (by omega) hm
theorem aIR(n:Nat):cnt n (fun _=>true)=n:=by
 induction n with
 | zero=>rfl
 | succ n ih=>rw[dT,ih,if_pos rfl]
theorem aKz{f:Nat→Nat}{is:Nat→Bool}{g:Nat}:∀ n,(∀ b,b<n→is b=true→g≤f b)→cnt n is*g≤aIT f n
 | 0,_=>by simp[cnt]
 | n+1,h=>by
   have ih:=aKz (f:=f) (is:=is) (g:=g) n fun b hb=>h b (by omega)
   rw[dT,aIT,Nat.add_mul]
   cases hi:is n with
   | false=>simp;omega
   | true=>
     have:=h n (by omega) hi
     simp;omega
theorem aBE{S:Ps}(h:Pre S 0)(ho:∀ b,b<nB S→cX S b=false)(hf:(kG S:Int)≤eV S):0≤iH S∧iH S<nB S∧jR S (iH S).toNat=true∧dF S (iH S).toNat<nG S:=by
 have hge:=h.inv.geo
 have hph:=rF S
 have hlost:=h.lost
 have hm:=bP.1 h.inv.may
 have hfull:cnt (nB S) (fun _=>true)=cnt (nB S) (xE S)+cnt (nB S) (jR S):=by
  refine aGI (fun b hb=>?_) (fun b hb hx=>?_)
  ·have h1:=ho b hb
   have h2:=h.inv.pgs b
   unfold cX cV at h1
   unfold xE jR cV
   cases hl:bC S b with
   | true=>rfl
   | false=>
     rw[hl] at h1
     simp only[Bool.not_false,Bool.true_and,Bool.and_eq_false_iff,decide_eq_false_iff_not] at h1
     simp only[Bool.false_or,Bool.not_false,Bool.true_and]
     symm
     rw[Bool.or_eq_true,beq_iff_eq,beq_iff_eq]
     omega
  ·unfold xE at hx
   unfold jR cV
   cases hl:bC S b with
   | true=>rfl
   | false=>
     rw[hl] at hx
     simp only[Bool.false_or,beq_iff_eq] at hx
     rw[hx]
     simp;omega
 rw[aIR] at hfull
 have hphi:cnt (nB S) (xE S)=phi S:=rfl
 have hp2:(phi S:Int)≤2+S.g.sp:=by unfold eV at hf;omega
 have ex:∃ b,b<nB S∧jR S b=true∧dF S b<nG S:=Classical.byContradiction fun hn=>by
  have hall:∀ b,b<nB S→jR S b=true→nG S≤dF S b:=fun b hb hfb=>by
   by_cases hx:nG S≤dF S b
   ·exact hx
   ·exact absurd ⟨b,hb,hfb,by omega⟩ hn
  have h1:=aKz (f:=dF S) (nB S) hall
  have h2:=aFx h.inv
  obtain⟨h3,h4⟩:=vD h.inv.may
  have h5:(nB S-(phi S))*nG S≤cnt (nB S) (jR S)*nG S:=Nat.mul_le_mul_right _ (by omega)
  obtain⟨s,hs⟩:∃ s:Nat,S.g.sp=s:=⟨S.g.sp.toNat,by omega⟩
  rw[hge.1,hge.2.1,hs] at h4
  have e1:((nB S:Int)-s-3)=((nB S-s-3:Nat):Int):=by omega
  rw[e1,← Int.natCast_mul] at h4
  have h6:(nB S-s-3)*nG S≤(nB S-phi S)*nG S:=Nat.mul_le_mul_right _ (by omega)
  omega
 obtain⟨b,hb,hfb,hlb⟩:=ex
 obtain⟨p1,p2⟩:=pM (dF S) (aZ S) (jR S) (nB S)
 have h0:0≤iH S:=by
  by_cases hn:iH S<0
  ·have:=p1 hn b hb
   rw[this] at hfb;cases hfb
  ·omega
 obtain⟨q1,q2,q3⟩:=p2 h0
 exact⟨h0,q1,q2,Nat.lt_of_le_of_lt (q3 b hb hfb) hlb⟩
theorem aGP{S:Ps}(h:Pre S (nB S+1))(ho:∀ b,b<nB S→cX S b=false)(hf:(kG S:Int)≤eV S):aGX S (nB S+1) (cP S)∧((cP S).2=0→rX (cP S).1):=by
 have hop0:=h.ops
 obtain⟨v1,v2,v3,v4⟩:=aBE (S:=S) ⟨h.inv,h.lost,h.phi,by omega⟩ ho hf
 have hge:=h.inv.geo
 have hc:=tN (S:=S) (b:=(iH S).toNat) ⟨h.inv,by omega,by unfold jR cV at v3;simp only[Bool.and_eq_true,Bool.not_eq_true'] at v3;exact v3.1,h.lost,h.phi,by omega⟩
 have hop:=hc.ops
 unfold cP
 rw[if_neg (by omega),if_neg (by omega)]
 simp only
 rcases hc.code with⟨e,hd,hl,hp,hq,hr,_⟩|⟨e,hd,hl⟩
 ·rw[if_neg (by rw[e];simp)]
  have ih:=aFc (nB (gB S (iH S).toNat).1) (gB S (iH S).toNat).1 ⟨hc.inv,by rw[hc.env.g];exact hl,by rw[hc.env.g];have:=h.phi;omega,by rw[hc.env.nB];omega⟩
  have iop:=ih.ops
  have hnb:=hc.env.nB
  have hprog:=hr v3 v4
  refine⟨⟨ih.inv,hc.same.trans ih.same,hc.env.trans ih.env,⟨Int.le_trans hop.1 iop.1,Int.le_trans iop.2 (by omega)⟩,fun c hx=>ih.lostM c (hc.lostM c hx),?_⟩,fun h0=>?_⟩
  ·rcases ih.code with⟨k1,k2,k3,k4,k5⟩|⟨k1,k2,k3⟩
   ·exact .inl ⟨k1,k2.trans hd,by rw[hc.env.g] at k3;exact k3,Nat.le_trans hp k4,fun hx=>k5 (hq hx)⟩
   ·exact .inr ⟨k1,k2,by rw[hc.env.g] at k3;exact k3⟩
  ·rcases ih.code with⟨k1,k2,k3,k4,k5⟩|⟨k1,k2,k3⟩
   ·exact k5 hprog
   ·unfold mO at h0
    rw[k1] at h0;cases h0
 ·rw[if_pos (by rw[e];simp)]
  exact⟨⟨hc.inv,hc.same,hc.env,⟨by omega,by omega⟩,hc.lostM,.inr ⟨e,hd,hl⟩⟩,fun h0=>by rw[e] at h0;cases h0⟩
theorem lC(is:Nat→Bool):∀ n:Nat,(cK is n<0→∀ k,k<n→is k=false)∧(0≤cK is n→cK is n<n∧is (cK is n).toNat=true)
 | 0=>⟨fun _ k hk=>by omega,fun h=>by rw[cK] at h;omega⟩
 | n+1=>by
   obtain⟨i1,i2⟩:=lC is n
   rw[cK]
   by_cases h:cK is n≥0
   ·rw[if_pos h]
    exact⟨fun h'=>by omega,fun h'=>⟨by have:=(i2 h).1;omega,(i2 h).2⟩⟩
   ·rw[if_neg h]
    cases hi:is n with
    | true=>
      rw[if_pos rfl]
      exact⟨fun h'=>by omega,fun _=>⟨by omega,by rw[Int.toNat_natCast];exact hi⟩⟩
    | false=>
      rw[if_neg (by simp)]
      refine⟨fun _ k hk=>?_,fun h'=>by omega⟩
      by_cases e:k=n
      ·rw[e];exact hi
      ·exact i1 (by omega) k (by omega)
def aSy(S:Ps)(o:Int):Prop:=0≤o∧o<nB S∧bC S o.toNat=false∧aP S o.toNat<nG S∧((0<aP S o.toNat∧2+S.g.sp≤phi S)∨(aP S o.toNat=0∧3+S.g.sp≤phi S))
theorem aDI{S:Ps}(h:Pre S 0)(hp:rX S)(k:Nat):∃ o,aEA (k+1) S=(S,o,0)∧aSy S o:=by
 rw[aEA]
 simp only
 have hge:=h.inv.geo
 have hph:=rF S
 have hlost:=h.lost
 obtain⟨f1,f2⟩:=lC (cX S) (nB S)
 by_cases hn:cK (cX S) (nB S)<0
 ·have h3:3+S.g.sp≤phi S:=by
   rcases hp with⟨b,hb,hob⟩|hp
   ·have:=f1 hn b hb
    rw[this] at hob;cases hob
   ·exact hp
  obtain⟨g1,g2,g3⟩:=mP (S:=S) (by omega)
  have hc:(decide (cK (cX S) (nB S)<0)&&decide ((kG S:Int)>eV S))=true:=by
   rw[Bool.and_eq_true,decide_eq_true_eq,decide_eq_true_eq]
   unfold eV
   exact⟨hn,by omega⟩
  rw[if_pos hc,if_pos g1]
  unfold fD cV at g3
  simp only[Bool.and_eq_true,Bool.not_eq_true',beq_iff_eq] at g3
  exact⟨_,rfl,g1,g2,g3.1,by omega,.inr ⟨g3.2,h3⟩⟩
 ·obtain⟨g1,g2⟩:=f2 (by omega)
  have hc:¬ ((decide (cK (cX S) (nB S)<0)&&decide ((kG S:Int)>eV S))=true):=by
   rw[Bool.and_eq_true,decide_eq_true_eq]
   exact fun h=>hn h.1
  rw[if_neg hc,if_pos (by omega)]
  unfold cX cV at g2
  simp only[Bool.and_eq_true,Bool.not_eq_true',decide_eq_true_eq] at g2
  exact⟨_,rfl,by omega,g1,g2.1,g2.2.2,.inl ⟨g2.2.1,h.phi⟩⟩
structure aOd (S:Ps) (r:Ps×Int×Int):Prop where
 inv:eW r.1
 same:jE S r.1
 env:rW S r.1
 ops:S.ops≤r.1.ops∧r.1.ops≤S.ops+9*(nB S+1)
 lostM:∀ c,bC S c=true→bC r.1 c=true
 code:(r.2.2=0∧r.1.deg=S.deg∧(dD r.1:Int)≤S.g.sp∧aSy r.1 r.2.1)∨(r.2.2=12∧r.1.deg=true∧S.g.sp<(dD r.1:Int))
theorem aFG{S:Ps}(h:Pre S (nB S+1)):aOd S (bA S):=by
 have hge:=h.inv.geo
 have hop:=h.ops
 have hk:∃ k,nB S*nG S=k+2:=⟨nB S*nG S-2,by have:8*4≤nB S*nG S:=Nat.mul_le_mul (by omega) (by omega);omega⟩
 obtain⟨k,hk⟩:=hk
 unfold bA
 rw[hk]
 have h0:Pre S 0:=⟨h.inv,h.lost,h.phi,by omega⟩
 by_cases hp:rX S
 ·obtain⟨o,e,hs⟩:=aDI h0 hp (k+1)
  rw[e]
  exact⟨h.inv,jE.refl S,rW.refl S,⟨Int.le_refl _,by show S.ops≤_;omega⟩,fun _ h=>h,.inl ⟨rfl,rfl,h.lost,hs⟩⟩
 ·have ho:∀ b,b<nB S→cX S b=false:=fun b hb=>by
   cases hx:cX S b with
   | false=>rfl
   | true=>exact absurd (.inl ⟨b,hb,hx⟩) hp
  have hph:=rF S
  have hf:(kG S:Int)≤eV S:=by
   unfold eV
   have:¬ (3+S.g.sp≤phi S):=fun hx=>hp (.inr hx)
   omega
  have hn:cK (cX S) (nB S)<0:=by
   obtain⟨f1,f2⟩:=lC (cX S) (nB S)
   by_cases hx:cK (cX S) (nB S)<0
   ·exact hx
   ·obtain⟨g1,g2⟩:=f2 (by omega)
    rw[ho _ (by omega)] at g2;cases g2
  rw[aEA]
  simp only
  have hcn:¬ ((decide (cK (cX S) (nB S)<0)&&decide ((kG S:Int)>eV S))=true):=by
   rw[Bool.and_eq_true,decide_eq_true_eq,decide_eq_true_eq]
   exact fun h=>by have:=h.2;omega
  rw[if_neg hcn,if_neg (show ¬ (cK (cX S) (nB S)≥0) by omega)]
  obtain⟨hc,hpr⟩:=aGP h ho hf
  have cop:=hc.ops
  rcases hc.code with⟨e,c2,c3,c4,c5⟩|⟨e,c2,c3⟩
  ·rw[if_neg (show ¬ ((cP S).2≠0) by rw[e];simp)]
   obtain⟨o,e2,hs⟩:=aDI (S:=(cP S).1) ⟨hc.inv,by rw[hc.env.g];exact c3,by rw[hc.env.g];have:=h.phi;omega,by omega⟩ (hpr e) k
   rw[e2]
   exact⟨hc.inv,hc.same,hc.env,⟨cop.1,by show (cP S).1.ops≤_;omega⟩,hc.lostM,.inl ⟨rfl,c2,c3,hs⟩⟩
  ·rw[if_pos (show (cP S).2≠0 by rw[e];simp)]
   exact⟨hc.inv,hc.same,hc.env,⟨cop.1,by show (cP S).1.ops≤_;omega⟩,hc.lostM,.inr ⟨e,c2,c3⟩⟩
theorem tS{p:Nat}{M:aC}{xo yo:Operand}:cZ tb .eql 58 xo yo (.ptr p 0) (.val (.pointer none)) M=some (.val (.bool false),M):=cB (by kernel_rfl)
theorem aH7{p:Nat}{M:aC}{xo yo:Operand}:cZ tb .neq 58 xo yo (.ptr p 0) (.val (.pointer none)) M=some (.val (.bool true),M):=cB (by kernel_rfl)
theorem sX.ldg{M:aC}{f:Nat}{F:Fl}{p:Nat}{C:aQ}(h:sX M f F p C):aH tb 23 (.ptr f 1) M=some (fX C.g,M):=by
 rw[← h.geo];exact aS (eC (n:=5) aIx rfl rfl h.fl (by simp[jZ]))
def aFW(C:aQ)(at':Int):Int:=if C.off=true then 9 else if 0≤at'∧at'<eL C.g then 0 else 2
theorem aMu(M:aC)(hw:M.WF)(f:Nat)(F:Fl)(p:Nat)(C:aQ)(h:sX M f F p C)(z:Int):aB tb.P 74 [.ptr f 0,i64 z] M fun y N=>y=i64 (aFW C z)∧aD M N []:=by
 refine aQq ?_
 unfold F74
 simp only[i64,aJ]
 rw[tS,eM]
 simp only[cO,fG]
 refine aG dB ?_
 refine aG (oB f).1 ?_
 simp only[bV]
 refine aG h.ldp ?_
 refine (aLJ M hw p C h.chip).mono ?_
 rintro y M10 ⟨rfl,hM⟩
 rw[hM]
 clear hM
 simp only[cO]
 refine aT (fun ho=>?_) (fun ho=>?_)
 ·have:C.off=true:=by simpa using ho
  exact⟨by unfold aFW;rw[if_pos this],aD.refl hw⟩
 have ho':C.off≠true:=by simpa using ho
 refine bE fun K hK=>?_
 refine aT (fun hz=>?_) (fun hz=>?_)
 ·have hz':z<0:=of_decide_eq_true hz
  rw[hK]
  simp only[jF]
  exact⟨by unfold aFW;rw[if_neg ho',if_neg (by omega)],aD.refl hw⟩
 ·have hz':¬ z<0:=of_decide_eq_false hz
  refine aG dB ?_
  refine aG (oB f).2.1 ?_
  simp only[bV]
  refine aG h.ldg ?_
  refine⟨_,_,_,_,_,rfl,?_⟩
  refine (xF M hw C.g h.chip.may).mono ?_
  rintro y M23 ⟨rfl,hk⟩
  simp only[i64,aJ]
  rw[hK]
  show aE _ _ _
  refine aT (fun hge=>?_) (fun hge=>?_)
  ·have:z≥eL C.g:=of_decide_eq_true hge
   exact⟨by unfold aFW;rw[if_neg ho',if_neg (by omega)],hk⟩
  ·have:¬ z≥eL C.g:=of_decide_eq_false hge
   exact⟨by unfold aFW;rw[if_neg ho',if_pos (by omega)],hk⟩
theorem aH6(M:aC)(hw:M.WF)(f:Nat)(F:Fl)(p:Nat)(C:aQ)(h:sX M f F p C):aB tb.P 76 [.ptr f 0] M fun y N=>y=i64 (eL C.g)∧aD M N []:=by
 refine aQo ?_
 unfold F76
 rw[tS,eM]
 simp only[cO,fG]
 refine aG dB ?_
 refine aG (oB f).2.1 ?_
 simp only[bV]
 refine aG h.ldg ?_
 refine⟨_,_,_,_,_,rfl,?_⟩
 refine (xF M hw C.g h.chip.may).mono ?_
 rintro y N ⟨rfl,hk⟩
 simp only[i64,aJ]
 exact⟨by trivial,hk⟩
theorem aQx(M:aC)(f:Nat)(F:Fl)(p:Nat)(C:aQ)(h:sX M f F p C):aB tb.P 41 [.ptr f 0] M fun y N=>y= .ptr p 0∧N=M:=by
 refine aPh ?_
 unfold F41
 rw[tS,eM]
 simp only[cO,fG]
 refine aG dB ?_
 refine aG (oB f).1 ?_
 simp only[bV]
 refine aG h.ldp ?_
 exact⟨by trivial,by trivial⟩
theorem aMk{M:aC}{f:Nat}{F:Fl}{p:Nat}{C:aQ}(h:sX M f F p C):aH tb 4 (.ptr f 13) M=some (.val (.bool F.deg),M):=aS (eB ty4 rfl h.fl rfl)
theorem aFy(M:aC)(f:Nat)(F:Fl)(p:Nat)(C:aQ)(h:sX M f F p C):aB tb.P 36 [.ptr f 0] M fun y N=>y= .val (.bool F.deg)∧N=M:=by
 refine aPX ?_
 unfold F36
 refine bE fun K hK=>?_
 rw[aH7,eM]
 simp only[cO,jF]
 refine aG dB ?_
 refine aG (oB f).2.2.2.2.2.2 ?_
 simp only[bV]
 refine aG (aMk h) ?_
 simp only[cO]
 rw[hK]
 exact⟨rfl,rfl⟩
theorem sJ:tb.ty.get 75=some ⟨.mp 3 25,1,8,[.map none],none⟩:=by kernel_rfl
theorem aPy:∃ ti,tb.ty.get 75=some ti∧ti.k= .mp 3 25:=⟨_,sJ,rfl⟩
theorem ia{a b:Int}(h:(-4000000000≤a∧a≤4000000000)∧ -4000000000≤b∧b≤4000000000):aM .i64 a b=a+b:=aL (by omega) (by omega)
theorem oA{a b:Int}(h:(-4000000000≤a∧a≤4000000000)∧ -4000000000≤b∧b≤4000000000):aW .i64 a b=a-b:=aL (by omega) (by omega)
structure PS (M0:aC) (b:Nat) (L0:List Fd) (M:aC):Prop where
 get:∃ L:List Fd,L.Perm L0∧M.get b=some (.cells (L.flatMap fJ) true)
 keep:aD M0 M [b]
 lt:b<M0.next
theorem PS.post{M0:aC}{b:Nat}{L0:List Fd}{M N:aC}(h:PS M0 b L0 M)(k:aD M N []):PS M0 b L0 N:=by
 obtain⟨L,h1,h2⟩:=h.get
 exact⟨⟨L,h1,k.get h.keep.wf h2 (by simp)⟩,h.keep.trans k (fun _ h _=>h) (by simp),h.lt⟩
def mV(a4:AV)(M0:aC)(b:Nat):Prop:=∀ (N:aC) (f g:Fd) (K:AV→aC→Prop),aD M0 N [b]→(∀ z N',aD N N' []→K (.val (.int .i64 z)) N')→eD tb a4 [.agg (fJ f),.agg (fJ g)] N K
section
variable {M0:aC} {b:Nat} {L0:List Fd} {M:aC}
def sH(b:Nat)(L0:List Fd):AV:= .sl b 0 L0.length L0.length (some 6)
theorem PS.one(h:PS M0 b L0 M){i:Int}(hi:0≤i∧i<L0.length):∃ f:Fd,(∀ N,bU tb 111 (sH b L0) (.val (.int .i64 i)) N=some (.ptr b (i.toNat*6),N))∧aH tb 115 (.ptr b (i.toNat*6)) M=some (.agg (fJ f),M)∧∃ L:List Fd,L.Perm L0∧M.get b=some (.cells (L.flatMap fJ) true)∧L[i.toNat]? =some f:=by
 obtain⟨L,h1,h2⟩:=h.get
 have hl:=h1.length_eq
 have hat:jQ M (sH b L0) L:=⟨cA eI _,.inr ⟨b,0,L0.length,some 6,by unfold sH;rw[hl],⟨by omega,.inr rfl⟩,.inr ⟨_,true,h2,by rw[cA eI];omega,by rw[List.drop_zero,List.take_of_length_le (by rw[cA eI];exact Nat.le_refl _)]⟩⟩⟩
 have hi':i.toNat<L.length:=by omega
 obtain⟨p,o,g1,g2⟩:=aO.ldAgg hat aBa rfl nL rfl rfl hi' (k':= .i64)
 rw[rL eI hi'] at g2
 rw[show ((i.toNat:Nat):Int)=i by omega] at g1
 have hp:(AV.ptr p o)= .ptr b (i.toNat*6):=by
  have:bJ tb 111 (sH b L0) (.val (.int .i64 i))=some (.ptr b (0+i.toNat*6)):=by
   unfold bJ sH
   rw[aBa]
   simp only
   rw[nL]
   have h3:decide ((0:Int)≤i)=true:=decide_eq_true hi.1
   simp only[h3,blt_of (show i.toNat<L0.length by omega),cond_true]
  rw[g1] at this
  injection this with this
  rw[this,Nat.zero_add]
 rw[hp] at g1 g2
 exact⟨L[i.toNat],fun N=>bH g1,aS g2,L,h1,h2,List.getElem?_eq_getElem hi'⟩
theorem aOw{L:List Fd}{i:Nat}{f:Fd}(hg:M.get b=some (.cells (L.flatMap fJ) true))(hi:i<L.length):cL tb 115 (.ptr b (i*6)) (.agg (fJ f)) M=some (eY,M.put b (.cells ((L.set i f).flatMap fJ) true)):=by
 have h:=aF0 (T:=tb) (x:= .agg (fJ f)) (n:=6) (o:=i*6) nL rfl rfl hg (by rw[cA eI];omega) (zF f)
 rw[oF h]
 have e1:=pI eI (l:=L) hi
 have e2:(L.set i f).flatMap fJ=(L.take i).flatMap fJ++fJ f++(L.drop (i+1)).flatMap fJ:=by
  rw[List.set_eq_take_append_cons_drop,if_pos hi,List.flatMap_append,List.flatMap_cons,List.append_assoc]
 have h3:=rN (fJ f) ((L.take i).flatMap fJ) ((L.drop (i+1)).flatMap fJ) (fJ L[i]) rfl
 rw[cA eI,List.length_take,Nat.min_eq_left (by omega)] at h3
 rw[e2,← h3,e1]
 rfl
theorem aHE{L:List Fd}{i j:Nat}{f g:Fd}(hi:L[i]? =some f)(hj:L[j]? =some g):((L.set j f).set i g).Perm L:=by
 obtain⟨hi',rfl⟩:=List.getElem?_eq_some_iff.1 hi
 obtain⟨hj',rfl⟩:=List.getElem?_eq_some_iff.1 hj
 exact List.set_set_perm hj' hi'
theorem cm{a4:AV}{K:AV→aC→Prop}(hc:mV a4 M0 b)(h:PS M0 b L0 M){i j:Int}(hi:0≤i∧i<L0.length)(hj:0≤j∧j<L0.length)(hK:∀ z N,PS M0 b L0 N→K (.val (.int .i64 z)) N):
 aA (bU tb 111 (sH b L0) (.val (.int .i64 i)) M) fun y1=>zP y1.1 fun p o=>aA (bU tb 111 (sH b L0) (.val (.int .i64 j)) M) fun y2=>zP y2.1 fun p2 o2=>aA (aH tb 115 (.ptr p o) M) fun y3=>∃ (z1:Int) (z2:Int) (z3:Int) (z4:Int) (z5:Int) (z6:Int),y3.1=
  (.agg [(.val (.int .i64 z1)),(.val (.int .i64 z2)),(.val (.int .i64 z3)),(.val (.int .i64 z4)),(.val (.int .i64 z5)),(.val (.int .i64 z6))])∧
  (aA (aH tb 115 (.ptr p2 o2) M) fun y4=>∃ (w1:Int) (w2:Int) (w3:Int) (w4:Int) (w5:Int) (w6:Int),y4.1=
  (.agg [(.val (.int .i64 w1)),(.val (.int .i64 w2)),(.val (.int .i64 w3)),(.val (.int .i64 w4)),(.val (.int .i64 w5)),(.val (.int .i64 w6))])∧
  (eD tb a4 [(.agg [(.val (.int .i64 z1)),(.val (.int .i64 z2)),(.val (.int .i64 z3)),(.val (.int .i64 z4)),(.val (.int .i64 z5)),(.val (.int .i64 z6))]),(.agg [(.val (.int .i64 w1)),(.val (.int .i64 w2)),(.val (.int .i64 w3)),(.val (.int .i64 w4)),(.val (.int .i64 w5)),(.val (.int .i64 w6))])] M K)):=by
 obtain⟨f,f1,f2,_⟩:=h.one hi
 obtain⟨g,g1,g2,_⟩:=h.one hj
 refine aG (f1 M) ?_
 rw[bV]
 refine aG (g1 M) ?_
 rw[bV]
 refine aG f2 ⟨_,_,_,_,_,_,rfl,aG g2 ⟨_,_,_,_,_,_,rfl,?_⟩⟩
 exact hc M f g K h.keep fun z N' hk=>hK z N' (h.post hk)
theorem swk{K:AV×aC→Prop}(h:PS M0 b L0 M){i j:Int}(hi:0≤i∧i<L0.length)(hj:0≤j∧j<L0.length)(hK:∀ N,PS M0 b L0 N→aD M N [b]→K (eY,N)):
 aA (bU tb 111 (sH b L0) (.val (.int .i64 i)) M) fun y1=>zP y1.1 fun p o=>aA (bU tb 111 (sH b L0) (.val (.int .i64 j)) M) fun y2=>zP y2.1 fun p2 o2=>aA (aH tb 115 (.ptr p o) M) fun y3=>∃ (z1:Int) (z2:Int) (z3:Int) (z4:Int) (z5:Int) (z6:Int),y3.1=
  (.agg [(.val (.int .i64 z1)),(.val (.int .i64 z2)),(.val (.int .i64 z3)),(.val (.int .i64 z4)),(.val (.int .i64 z5)),(.val (.int .i64 z6))])∧
  (aA (aH tb 115 (.ptr p2 o2) M) fun y4=>∃ (w1:Int) (w2:Int) (w3:Int) (w4:Int) (w5:Int) (w6:Int),y4.1=
  (.agg [(.val (.int .i64 w1)),(.val (.int .i64 w2)),(.val (.int .i64 w3)),(.val (.int .i64 w4)),(.val (.int .i64 w5)),(.val (.int .i64 w6))])∧
  (aA (bU tb 111 (sH b L0) (.val (.int .i64 j)) M) fun y5=>zP y5.1 fun p3 o3=>aA (cL tb 115 (.ptr p3 o3) (.agg [(.val (.int .i64 z1)),(.val (.int .i64 z2)),(.val (.int .i64 z3)),(.val (.int .i64 z4)),(.val (.int .i64 z5)),(.val (.int .i64 z6))]) M) fun y6=>aA (bU tb 111 (sH b L0) (.val (.int .i64 i)) y6.2) fun y7=>zP y7.1 fun p4 o4=>aA (cL tb 115 (.ptr p4 o4) (.agg [(.val (.int .i64 w1)),(.val (.int .i64 w2)),(.val (.int .i64 w3)),(.val (.int .i64 w4)),(.val (.int .i64 w5)),(.val (.int .i64 w6))]) y6.2) fun y8=>K y8)):=by
 obtain⟨f,f1,f2,L,h1,h2,h3⟩:=h.one hi
 obtain⟨g,g1,g2,L',_,h2',h4⟩:=h.one hj
 have hLL:L'.flatMap fJ=L.flatMap fJ:=by rw[h2] at h2';injection h2' with h2';injection h2' with h2' _;exact h2'.symm
 have hl:=h1.length_eq
 have hj':j.toNat<L.length:=by omega
 have h5:L[j.toNat]? =some g:=by
  have e1:=rL eI (l:=L) hj'
  obtain⟨hj2,e2⟩:=List.getElem?_eq_some_iff.1 h4
  have e3:=rL eI (l:=L') hj2
  rw[hLL,e1,e2] at e3
  have e4:L[j.toNat]=g:=by
   generalize L[j.toNat]=u at e3
   obtain⟨u1,u2,⟨u3,u4,u5,u6⟩⟩:=u
   obtain⟨v1,v2,⟨v3,v4,v5,v6⟩⟩:=g
   simp[fJ,i64] at e3
   obtain⟨rfl,rfl,rfl,rfl,rfl,rfl⟩:=e3
   rfl
  rw[List.getElem?_eq_getElem hj',e4]
 refine aG (f1 M) ?_
 rw[bV]
 refine aG (g1 M) ?_
 rw[bV]
 refine aG f2 ⟨_,_,_,_,_,_,rfl,aG g2 ⟨_,_,_,_,_,_,rfl,?_⟩⟩
 refine aG (g1 M) ?_
 rw[bV]
 refine aG (aOw (f:=f) h2 hj') ?_
 refine aG (f1 _) ?_
 rw[bV]
 have hg':(M.put b (.cells ((L.set j.toNat f).flatMap fJ) true)).get b=some (.cells ((L.set j.toNat f).flatMap fJ) true):=by rw[aC.get_put,if_pos rfl]
 refine aG (aOw (f:=g) hg' (i:=i.toNat) (by rw[List.length_set];omega)) ?_
 have hw1:=h.keep.wf.put (h.keep.wf _ _ h2) (.cells ((L.set j.toNat f).flatMap fJ) true)
 have kk:aD M ((M.put b (.cells ((L.set j.toNat f).flatMap fJ) true)).put b (.cells (((L.set j.toNat f).set i.toNat g).flatMap fJ) true)) [b]:=⟨hw1.put (hw1 _ _ hg') _,Nat.le_refl _,fun c hc hn=>by
  have hcb:c≠b:=fun e=>hn (by simp[e])
  rw[aC.get_put,if_neg hcb,aC.get_put,if_neg hcb]⟩
 exact hK _ ⟨⟨_,(aHE h3 h5).trans h1,by rw[aC.get_put,if_pos rfl]⟩,h.keep.trans kk (fun _ h _=>h) (fun _ h _=>h),h.lt⟩ kk
theorem sw{K:AV×aC→Prop}(h:PS M0 b L0 M){i j:Int}(hi:0≤i∧i<L0.length)(hj:0≤j∧j<L0.length)(hK:∀ N,PS M0 b L0 N→K (eY,N)):
 aA (bU tb 111 (sH b L0) (.val (.int .i64 i)) M) fun y1=>zP y1.1 fun p o=>aA (bU tb 111 (sH b L0) (.val (.int .i64 j)) M) fun y2=>zP y2.1 fun p2 o2=>aA (aH tb 115 (.ptr p o) M) fun y3=>∃ (z1:Int) (z2:Int) (z3:Int) (z4:Int) (z5:Int) (z6:Int),y3.1=
  (.agg [(.val (.int .i64 z1)),(.val (.int .i64 z2)),(.val (.int .i64 z3)),(.val (.int .i64 z4)),(.val (.int .i64 z5)),(.val (.int .i64 z6))])∧
  (aA (aH tb 115 (.ptr p2 o2) M) fun y4=>∃ (w1:Int) (w2:Int) (w3:Int) (w4:Int) (w5:Int) (w6:Int),y4.1=
  (.agg [(.val (.int .i64 w1)),(.val (.int .i64 w2)),(.val (.int .i64 w3)),(.val (.int .i64 w4)),(.val (.int .i64 w5)),(.val (.int .i64 w6))])∧
  (aA (bU tb 111 (sH b L0) (.val (.int .i64 j)) M) fun y5=>zP y5.1 fun p3 o3=>aA (cL tb 115 (.ptr p3 o3) (.agg [(.val (.int .i64 z1)),(.val (.int .i64 z2)),(.val (.int .i64 z3)),(.val (.int .i64 z4)),(.val (.int .i64 z5)),(.val (.int .i64 z6))]) M) fun y6=>aA (bU tb 111 (sH b L0) (.val (.int .i64 i)) y6.2) fun y7=>zP y7.1 fun p4 o4=>aA (cL tb 115 (.ptr p4 o4) (.agg [(.val (.int .i64 w1)),(.val (.int .i64 w2)),(.val (.int .i64 w3)),(.val (.int .i64 w4)),(.val (.int .i64 w5)),(.val (.int .i64 w6))]) y6.2) fun y8=>K y8)):=swk h hi hj fun N hN _=>hK N hN
end
section
variable {M0:aC} {b:Nat} {L0:List Fd} {M:aC} {a4:AV}
theorem aOs(hc:mV a4 M0 b)(hn:L0.length≤1000)(h:PS M0 b L0 M){a c:Int}(ha:0≤a∧a≤c∧c≤L0.length):aB tb.P 163 [sH b L0,i64 a,i64 c,a4] M fun _ N=>PS M0 b L0 N:=by
 refine aGZ ?_
 unfold F163
 simp only[i64,aJ]
 simp (disch:=omega) only[ia,oA]
 refine⟨fun z n P=>(a+1≤z∧n=(c-z).toNat)∧PS M0 b L0 P,⟨_,⟨by omega,rfl⟩,h⟩,?_⟩
 rintro _ z n P ⟨⟨hz,rfl⟩,hP⟩
 refine aT (fun hlt=>?_) (fun _=>hP)
 have hlt:=of_decide_eq_true hlt
 refine⟨fun y m Q=>(a≤y∧y≤z∧m=(y-a).toNat)∧PS M0 b L0 Q,⟨_,⟨by omega,by omega,rfl⟩,hP⟩,?_⟩
 rintro _ y m Q ⟨⟨hy1,hy2,rfl⟩,hQ⟩
 simp (disch:=omega) only[ia,oA]
 refine bE fun K hK=>?_
 have key:∀ (t:Bool) (N:aC),PS M0 b L0 N→(t=true→y>a)→K t N:=by
  intro t N hN ht
  rw[hK]
  refine aT (fun e=>?_) (fun _=>⟨_,by omega,⟨by omega,rfl⟩,hN⟩)
  have:=ht e
  exact sw hN (by omega) (by omega) fun N' hN'=>⟨_,by omega,⟨by omega,by omega,rfl⟩,hN'⟩
 refine aT (fun hgt=>?_) (fun _=>key _ _ hQ (by simp))
 have hgt:=of_decide_eq_true hgt
 refine cm hc hQ (by omega) (by omega) fun z' N hN=>?_
 rw[aJ]
 exact key _ _ hN fun _=>hgt
theorem aR7(hn:L0.length≤1000)(h:PS M0 b L0 M){a c:Int}(ha:0≤a∧a≤c∧c≤L0.length):aB tb.P 167 [sH b L0,i64 a,i64 c,a4] M fun _ N=>PS M0 b L0 N:=by
 refine aM7 ?_
 unfold F167
 simp only[i64,aJ]
 simp (disch:=omega) only[ia,oA]
 refine⟨fun z y n P=>(a≤z∧y≤c-1∧n=(y-z+2).toNat∧ -2≤y-z)∧PS M0 b L0 P,⟨_,⟨by omega,by omega,rfl,by omega⟩,h⟩,?_⟩
 rintro _ z y n P ⟨⟨hz,hy,rfl,hzy⟩,hP⟩
 refine aT (fun hlt=>?_) (fun _=>hP)
 have hlt:=of_decide_eq_true hlt
 simp (disch:=omega) only[ia,oA]
 exact sw hP (by omega) (by omega) fun N hN=>⟨_,by omega,⟨by omega,by omega,rfl,by omega⟩,hN⟩
theorem aKt(hc:mV a4 M0 b)(hn:L0.length≤1000)(h:PS M0 b L0 M){lo hi f:Int}(ha:0≤lo∧lo≤1000∧0≤f∧0≤hi∧f+hi≤L0.length):aB tb.P 188 [sH b L0,i64 lo,i64 hi,i64 f,a4] M fun _ N=>PS M0 b L0 N:=by
 by_cases hbig:lo≥hi
 ·refine aHp ?_
  unfold F188
  simp only[i64,aJ]
  refine⟨fun z n P=>z=lo∧PS M0 b L0 P,⟨0,rfl,h⟩,?_⟩
  rintro _ z n P ⟨rfl,hP⟩
  have e1:bT .i64 2 z=2*z:=aL (by omega) (by omega)
  rw[e1,ia (by omega)]
  rw[decide_eq_true (by omega:2*z+1≥hi),jF]
  exact hP
 ·refine aHp ?_
  unfold F188
  simp only[i64,aJ]
  refine⟨fun z n P=>(0≤z∧z<hi∧n=(hi-z).toNat)∧PS M0 b L0 P,⟨_,⟨by omega,by omega,rfl⟩,h⟩,?_⟩
  rintro _ z n P ⟨⟨hz,hz2,rfl⟩,hP⟩
  have e1:bT .i64 2 z=2*z:=aL (by omega) (by omega)
  simp only[e1]
  simp (disch:=omega) only[ia,oA]
  refine aT (fun _=>hP) (fun hlt=>?_)
  have hlt:=of_decide_eq_false hlt
  refine bE fun K hK=>?_
  have key:∀ (y:Int) (N:aC),PS M0 b L0 N→z<y∧y<hi→K y N:=by
   intro y N hN hy
   rw[hK]
   simp (disch:=omega) only[ia,oA]
   refine cm hc hN (by omega) (by omega) fun z' N' hN'=>?_
   rw[aJ]
   refine aT (fun _=>hN') (fun _=>?_)
   exact sw hN' (by omega) (by omega) fun N2 hN2=>⟨_,by omega,⟨by omega,by omega,rfl⟩,hN2⟩
  refine bE fun K2 hK2=>?_
  have key2:∀ (t:Bool) (N:aC),PS M0 b L0 N→(t=true→2*z+1+1<hi)→K2 t N:=by
   intro t N hN ht
   rw[hK2]
   refine aT (fun e=>?_) (fun _=>key _ _ hN (by omega))
   have:=ht e
   exact key _ _ hN (by omega)
  refine aT (fun h3=>?_) (fun _=>key2 _ _ hP (by simp))
  have h3:=of_decide_eq_true h3
  refine cm hc hP (by omega) (by omega) fun z' N' hN'=>?_
  rw[aJ]
  exact key2 _ _ hN' fun _=>h3
theorem aJl{a c:Int}(h:0≤a∧a≤4000000000)(hc:0<c):kV .i64 a c=a/c:=by
 have h1:a.tdiv c=a/c:=Int.tdiv_eq_ediv_of_nonneg h.1
 have h2:0≤a/c:=Int.ediv_nonneg h.1 (by omega)
 have h3:a/c≤a:=Int.ediv_le_self c h.1
 rw[kV,h1,aL (by omega) (by omega)]
theorem aRh(hc:mV a4 M0 b)(hn:L0.length≤1000)(h:PS M0 b L0 M){a c:Int}(ha:0≤a∧a≤c∧c≤L0.length):aB tb.P 164 [sH b L0,i64 a,i64 c,a4] M fun _ N=>PS M0 b L0 N:=by
 refine aMO ?_
 unfold F164
 simp only[i64,aJ]
 simp (disch:=omega) only[ia,oA]
 have hq:kV .i64 (c-a-1) 2≤1000∧ -1≤kV .i64 (c-a-1) 2:=by
  by_cases h0:0≤c-a-1
  ·rw[aJl (by omega) (by omega)];omega
  ·have:c-a-1= -1:=by omega
   rw[this];decide
 generalize kV .i64 (c-a-1) 2=q at hq
 refine⟨fun z n P=>(-1≤z∧z≤1000∧n=(z+1).toNat)∧PS M0 b L0 P,⟨_,⟨by omega,by omega,rfl⟩,h⟩,?_⟩
 rintro _ z n P ⟨⟨hz,hz2,rfl⟩,hP⟩
 refine aT (fun hge=>?_) (fun _=>?_)
 ·have hge:=of_decide_eq_true hge
  refine (aKt hc hn hP (lo:=z) (hi:=c-a) (f:=a) (by omega)).mono ?_
  intro y N hN
  simp (disch:=omega) only[ia,oA]
  exact⟨_,by omega,⟨by omega,by omega,rfl⟩,hN⟩
 ·refine⟨fun z n P=>(-1≤z∧z≤c-a-1∧n=(z+1).toNat)∧PS M0 b L0 P,⟨_,⟨by omega,by omega,rfl⟩,hP⟩,?_⟩
  rintro _ z n P ⟨⟨hz,hz2,rfl⟩,hP⟩
  refine aT (fun hge=>?_) (fun _=>hP)
  have hge:=of_decide_eq_true hge
  simp (disch:=omega) only[ia,oA]
  refine sw hP (by omega) (by omega) fun N hN=>?_
  refine (aKt hc hn hN (lo:=0) (hi:=z) (f:=a) (by omega)).mono ?_
  intro y N hN
  exact⟨_,by omega,⟨by omega,by omega,rfl⟩,hN⟩
def tI(M0:aC)(b q:Nat)(M:aC):Prop:=q≠b∧M0.next≤q∧∃ z:Int,M.get q=some (.cells [.val (.int .i64 z)] true)
theorem tI.post{q:Nat}{N:aC}(h:tI M0 b q M)(hw:M.WF)(k:aD M N []):tI M0 b q N:=by
 obtain⟨h1,h2,z,h3⟩:=h
 exact⟨h1,h2,z,k.get hw h3 (by simp)⟩
theorem PS.put{q:Nat}(h:PS M0 b L0 M)(hq:tI M0 b q M)(r:hY):PS M0 b L0 (M.put q r):=by
 obtain⟨L,h1,h2⟩:=h.get
 obtain⟨q1,q2,z,q3⟩:=hq
 refine⟨⟨L,h1,by rw[aC.get_put,if_neg (fun e=>q1 e.symm)];exact h2⟩,⟨h.keep.wf.put (h.keep.wf _ _ q3) _,h.keep.nxt,fun c hc hn=>?_⟩,h.lt⟩
 rw[aC.get_put,if_neg (by omega)]
 exact h.keep.old c hc hn
theorem cmq{K:AV→aC→Prop}{q:Nat}(hc:mV a4 M0 b)(h:PS M0 b L0 M)(hq:tI M0 b q M){i j:Int}(hi:0≤i∧i<L0.length)(hj:0≤j∧j<L0.length)(hK:∀ z N,PS M0 b L0 N→tI M0 b q N→K (.val (.int .i64 z)) N):
 aA (bU tb 111 (sH b L0) (.val (.int .i64 i)) M) fun y1=>zP y1.1 fun p o=>aA (bU tb 111 (sH b L0) (.val (.int .i64 j)) M) fun y2=>zP y2.1 fun p2 o2=>aA (aH tb 115 (.ptr p o) M) fun y3=>∃ (z1:Int) (z2:Int) (z3:Int) (z4:Int) (z5:Int) (z6:Int),y3.1=
  (.agg [(.val (.int .i64 z1)),(.val (.int .i64 z2)),(.val (.int .i64 z3)),(.val (.int .i64 z4)),(.val (.int .i64 z5)),(.val (.int .i64 z6))])∧
  (aA (aH tb 115 (.ptr p2 o2) M) fun y4=>∃ (w1:Int) (w2:Int) (w3:Int) (w4:Int) (w5:Int) (w6:Int),y4.1=
  (.agg [(.val (.int .i64 w1)),(.val (.int .i64 w2)),(.val (.int .i64 w3)),(.val (.int .i64 w4)),(.val (.int .i64 w5)),(.val (.int .i64 w6))])∧
  (eD tb a4 [(.agg [(.val (.int .i64 z1)),(.val (.int .i64 z2)),(.val (.int .i64 z3)),(.val (.int .i64 z4)),(.val (.int .i64 z5)),(.val (.int .i64 z6))]),(.agg [(.val (.int .i64 w1)),(.val (.int .i64 w2)),(.val (.int .i64 w3)),(.val (.int .i64 w4)),(.val (.int .i64 w5)),(.val (.int .i64 w6))])] M K)):=by
 obtain⟨f,f1,f2,_⟩:=h.one hi
 obtain⟨g,g1,g2,_⟩:=h.one hj
 refine aG (f1 M) ?_
 rw[bV]
 refine aG (g1 M) ?_
 rw[bV]
 refine aG f2 ⟨_,_,_,_,_,_,rfl,aG g2 ⟨_,_,_,_,_,_,rfl,?_⟩⟩
 exact hc M f g K h.keep fun z N' hk=>hK z N' (h.post hk) (hq.post h.keep.wf hk)
theorem aK3{q:Nat}(hc:mV a4 M0 b)(h:PS M0 b L0 M)(hq:tI M0 b q M){i j:Int}(hi:0≤i∧i<L0.length)(hj:0≤j∧j<L0.length):
 aB tb.P 198 [sH b L0,i64 i,i64 j,.ptr q 0,a4] M fun y N=>(∃ u v:Int,y= .tup [i64 u,i64 v]∧(u=i∧v=j∨u=j∧v=i))∧PS M0 b L0 N∧tI M0 b q N:=by
 refine aLE ?_
 unfold F198
 simp only[i64,aJ]
 refine cmq hc h hq hj hi fun z N hN hqN=>?_
 rw[aJ]
 refine aT (fun _=>?_) (fun _=>⟨⟨_,_,rfl,.inl ⟨rfl,rfl⟩⟩,hN,hqN⟩)
 refine aG dB ?_
 obtain⟨q1,q2,z',q3⟩:=hqN
 refine aG (aS (eB dX rfl q3 rfl)) ?_
 simp only[aJ]
 refine aG dB ?_
 refine aG (oF (dK dX rfl rfl q3 (by simp))) ?_
 refine⟨⟨_,_,rfl,.inr ⟨rfl,rfl⟩⟩,hN.put ⟨q1,q2,z',q3⟩ _,q1,q2,_,by rw[aC.get_put,if_pos rfl];rfl⟩
theorem aOO{q:Nat}(hc:mV a4 M0 b)(h:PS M0 b L0 M)(hq:tI M0 b q M){i j k lo up:Int}(h0:0≤lo∧up<L0.length)(hij:(lo≤i∧i≤up)∧(lo≤j∧j≤up)∧lo≤k∧k≤up):
 aB tb.P 190 [sH b L0,i64 i,i64 j,i64 k,.ptr q 0,a4] M fun y N=>(∃ u:Int,y=i64 u∧lo≤u∧u≤up)∧PS M0 b L0 N∧tI M0 b q N:=by
 refine aN2 ?_
 unfold F190
 simp only[i64,aJ]
 refine (aK3 hc h hq (i:=i) (j:=j) (by omega) (by omega)).mono ?_
 rintro y N ⟨⟨u,v,rfl,huv⟩,hN,hqN⟩
 refine⟨u,v,rfl,?_⟩
 refine (aK3 hc hN hqN (i:=v) (j:=k) (by omega) (by omega)).mono ?_
 rintro y N2 ⟨⟨u2,v2,rfl,huv2⟩,hN2,hqN2⟩
 refine⟨u2,v2,rfl,?_⟩
 refine (aK3 hc hN2 hqN2 (i:=u) (j:=u2) (by omega) (by omega)).mono ?_
 rintro y N3 ⟨⟨u3,v3,rfl,huv3⟩,hN3,hqN3⟩
 exact⟨u3,v3,rfl,⟨_,rfl,by omega⟩,hN3,hqN3⟩
theorem aKP{q:Nat}(hc:mV a4 M0 b)(hn:L0.length≤1000)(h:PS M0 b L0 M)(hq:tI M0 b q M){i:Int}(hi:1≤i∧i+1<L0.length):
 aB tb.P 189 [sH b L0,i64 i,.ptr q 0,a4] M fun y N=>(∃ u:Int,y=i64 u∧i-1≤u∧u≤i+1)∧PS M0 b L0 N∧tI M0 b q N:=by
 refine aND ?_
 unfold F189
 simp only[i64,aJ]
 simp (disch:=omega) only[ia,oA]
 refine (aOO hc h hq (i:=i-1) (j:=i) (k:=i+1) (lo:=i-1) (up:=i+1) (by omega) (by omega)).mono ?_
 rintro y N ⟨⟨u,rfl,hu⟩,hN,hqN⟩
 simp only[i64,aJ]
 exact⟨⟨u,rfl,hu⟩,hN,hqN⟩
theorem aMb(hc:mV a4 M0 b)(hn:L0.length≤1000)(h:PS M0 b L0 M){a c:Int}(ha:0≤a∧a+8≤c∧c≤L0.length):
 aB tb.P 166 [sH b L0,i64 a,i64 c,a4] M fun y N=>(∃ u v:Int,y= .tup [i64 u,i64 v]∧a≤u∧u<c)∧PS M0 b L0 N:=by
 refine aNS ?_
 unfold F166
 simp only[i64,aJ]
 have e1:∀ k:Int,1≤k∧k≤3→aM .i64 a (bT .i64 (kV .i64 (aW .i64 c a) 4) k)=a+(c-a)/4*k:=fun k hk=>by
  rw[oA (by omega),aJl (by omega) (by omega)]
  have h4:(c-a)/4*k≤1000∧0≤(c-a)/4*k:=by
   have:k=1∨k=2∨k=3:=by omega
   rcases this with rfl|rfl|rfl <;> omega
  have e2:bT .i64 ((c-a)/4) k=(c-a)/4*k:=aL (by omega) (by omega)
  rw[e2,ia (by omega)]
 simp only[e1 1 (by omega),e1 2 (by omega),e1 3 (by omega)]
 simp (disch:=omega) only[oA]
 refine bE fun M3 hM3=>?_
 have e3:M3=M.new (.cells [.val (.int .i64 0)] true):=hM3
 have h3:PS M0 b L0 M3:=h.post (by rw[e3];exact aD.new h.keep.wf _)
 have q3:tI M0 b M.next M3:=⟨by have:=h.lt;have:=h.keep.nxt;omega,h.keep.nxt,0,by rw[e3];exact get_new _ _⟩
 clear hM3 e3
 refine bE fun K hK=>?_
 have key:∀ (z:Int) (N:aC),PS M0 b L0 N→tI M0 b M.next N→a≤z∧z<c→K z N:=by
  rintro z N hN ⟨_,_,w,hw⟩ hz
  rw[hK]
  refine aG (aS (eB dX rfl hw rfl)) ?_
  rw[aJ]
  refine aT (fun _=>⟨⟨_,_,rfl,hz⟩,hN⟩) (fun _=>aT (fun _=>⟨⟨_,_,rfl,hz⟩,hN⟩) (fun _=>⟨⟨_,_,rfl,hz⟩,hN⟩))
 rw[decide_eq_true (by omega:c-a≥8),jF]
 refine bE fun K2 hK2=>?_
 have key2:∀ (x y z:Int) (N:aC),PS M0 b L0 N→tI M0 b M.next N→(a≤x∧x≤c-1)∧(a≤y∧y≤c-1)∧a≤z∧z≤c-1→K2 x y z N:=by
  intro x y z N hN hq hz
  rw[hK2]
  refine (aOO hc hN hq (lo:=a) (up:=c-1) (by omega) hz).mono ?_
  rintro y N ⟨⟨u,rfl,hu⟩,hN,hqN⟩
  simp only[i64,aJ]
  exact key _ _ hN hqN (by omega)
 refine aT (fun h50=>?_) (fun _=>key2 _ _ _ _ h3 q3 (by omega))
 have h50:=of_decide_eq_true h50
 refine (aKP hc hn h3 q3 (by omega)).mono ?_
 rintro y N ⟨⟨u,rfl,hu⟩,hN,hqN⟩
 simp only[i64,aJ]
 refine (aKP hc hn hN hqN (by omega)).mono ?_
 rintro y N2 ⟨⟨u2,rfl,hu2⟩,hN2,hqN2⟩
 simp only[i64,aJ]
 refine (aKP hc hn hN2 hqN2 (by omega)).mono ?_
 rintro y N3 ⟨⟨u3,rfl,hu3⟩,hN3,hqN3⟩
 simp only[i64,aJ]
 exact key2 _ _ _ _ hN3 hqN3 (by omega)
end
section
variable {M0:aC} {b:Nat} {L0:List Fd} {M:aC} {a4:AV}
theorem aRR(hc:mV a4 M0 b)(hn:L0.length≤1000)(h:PS M0 b L0 M){a c p:Int}(ha:0≤a∧a<c∧c≤L0.length)(hp:a≤p∧p<c):
 aB tb.P 169 [sH b L0,i64 a,i64 c,i64 p,a4] M fun y N=>(∃ u:Int,y=i64 u∧a<u∧u≤c)∧PS M0 b L0 N:=by
 refine aMz ?_
 unfold F169
 simp only[i64,aJ]
 simp (disch:=omega) only[ia,oA]
 refine sw h (by omega) (by omega) fun N hN=>?_
 refine⟨fun z y n P=>(a<z∧z≤c∧a≤y∧y≤c-1∧z≤y+2∧n=(y-z+3).toNat)∧PS M0 b L0 P,⟨_,⟨by omega,by omega,by omega,by omega,by omega,rfl⟩,hN⟩,?_⟩
 rintro _ z y n P ⟨⟨h1,h2,h3,h4,h5,rfl⟩,hP⟩
 refine⟨fun z1 n P=>(z≤z1∧z1≤c∧(z1≤y+1∨z1=z)∧n=(c-z1).toNat)∧PS M0 b L0 P,⟨_,⟨by omega,by omega,by omega,rfl⟩,hP⟩,?_⟩
 rintro _ z1 n P ⟨⟨h6,h7,h7b,rfl⟩,hP⟩
 refine bE fun K hK=>?_
 have key:∀ (t:Bool) (N:aC),PS M0 b L0 N→(t=true→z1≤y)→K t N:=by
  intro t N hN ht
  rw[hK]
  refine aT (fun e=>?_) (fun _=>?_)
  ·have:=ht e
   simp (disch:=omega) only[ia,oA]
   exact⟨_,by omega,⟨by omega,by omega,by omega,rfl⟩,hN⟩
  refine⟨fun y1 n P=>(y1≤y∧a≤y1∧n=(y1+1).toNat)∧PS M0 b L0 P,⟨_,⟨by omega,by omega,rfl⟩,hN⟩,?_⟩
  rintro _ y1 n P ⟨⟨h8,h9,rfl⟩,hP⟩
  refine bE fun K2 hK2=>?_
  have key2:∀ (t:Bool) (N:aC),PS M0 b L0 N→(t=true→z1≤y1)→K2 t N:=by
   intro t N hN ht
   rw[hK2]
   refine aT (fun e=>?_) (fun _=>?_)
   ·have:=ht e
    simp (disch:=omega) only[ia,oA]
    exact⟨_,by omega,⟨by omega,by omega,rfl⟩,hN⟩
   ·refine aT (fun _=>⟨⟨_,rfl,by omega⟩,hN⟩) (fun h10=>?_)
    have h10:=of_decide_eq_false h10
    simp (disch:=omega) only[ia,oA]
    exact sw hN (by omega) (by omega) fun N2 hN2=>⟨_,by omega,⟨by omega,by omega,by omega,by omega,by omega,rfl⟩,hN2⟩
  refine aT (fun h11=>?_) (fun _=>key2 _ _ hP (by simp))
  have h11:=of_decide_eq_true h11
  refine cm hc hP (by omega) (by omega) fun z' N' hN'=>?_
  rw[aJ]
  exact key2 _ _ hN' fun _=>h11
 refine aT (fun h11=>?_) (fun _=>key _ _ hP (by simp))
 have h11:=of_decide_eq_true h11
 refine cm hc hP (by omega) (by omega) fun z' N' hN'=>?_
 rw[aJ]
 exact key _ _ hN' fun _=>h11
theorem aQ5(hc:mV a4 M0 b)(hn:L0.length≤1000)(h:PS M0 b L0 M){a c p:Int}(ha:0≤a∧a+1<c∧c≤L0.length)(hp:a≤p∧p<c):
 aB tb.P 170 [sH b L0,i64 a,i64 c,i64 p,a4] M fun y N=>(∃ (u:Int) (v:Bool),y= .tup [i64 u,.val (.bool v)]∧a≤u∧u<c)∧PS M0 b L0 N:=by
 refine aNE ?_
 unfold F170
 simp only[i64,aJ]
 rw[ia (a:=a) (b:=1) (by omega),oA (a:=c) (b:=1) (by omega)]
 refine sw h (by omega) (by omega) fun N hN=>?_
 refine⟨fun z n P=>(a<z∧z≤c∧n=(c-z).toNat)∧PS M0 b L0 P,⟨_,⟨by omega,by omega,rfl⟩,hN⟩,?_⟩
 rintro _ z n P ⟨⟨h1,h2,rfl⟩,hP⟩
 refine bE fun K hK=>?_
 have key:∀ (t:Bool) (N:aC),PS M0 b L0 N→(t=true→z≤c-1)→K t N:=by
  intro t N hN ht
  rw[hK]
  refine aT (fun e=>?_) (fun _=>?_)
  ·have:=ht e
   simp (disch:=omega) only[ia,oA]
   exact⟨_,by omega,⟨by omega,by omega,rfl⟩,hN⟩
  refine⟨fun y n P=>(z-1≤y∧y≤c-1∧n=(y+1).toNat)∧PS M0 b L0 P,⟨_,⟨by omega,by omega,rfl⟩,hN⟩,?_⟩
  rintro _ y n P ⟨⟨h3,h4,rfl⟩,hP⟩
  refine bE fun K2 hK2=>?_
  have key2:∀ (t:Bool) (N:aC),PS M0 b L0 N→(t=true→z≤y)→K2 t N:=by
   intro t N hN ht
   rw[hK2]
   refine aT (fun e=>?_) (fun _=>?_)
   ·have:=ht e
    simp (disch:=omega) only[ia,oA]
    exact⟨_,by omega,⟨by omega,by omega,rfl⟩,hN⟩
   ·refine aT (fun _=>?_) (fun h10=>?_)
    ·exact sw hN (by omega) (by omega) fun N2 hN2=>⟨⟨_,_,rfl,by omega⟩,hN2⟩
    have h10:=of_decide_eq_false h10
    simp (disch:=omega) only[ia,oA]
    refine sw hN (by omega) (by omega) fun N2 hN2=>?_
    refine⟨fun z y n P=>(a<z∧z≤c∧a≤y∧y≤c-1∧z≤y+2∧n=(y-z+3).toNat)∧PS M0 b L0 P,⟨_,⟨by omega,by omega,by omega,by omega,by omega,rfl⟩,hN2⟩,?_⟩
    rintro _ z y n P ⟨⟨h1,h2,h3,h4,h5,rfl⟩,hP⟩
    refine⟨fun z1 n P=>(z≤z1∧z1≤c∧(z1≤y+1∨z1=z)∧n=(c-z1).toNat)∧PS M0 b L0 P,⟨_,⟨by omega,by omega,by omega,rfl⟩,hP⟩,?_⟩
    rintro _ z1 n P ⟨⟨h6,h7,h7b,rfl⟩,hP⟩
    refine bE fun K hK=>?_
    have key:∀ (t:Bool) (N:aC),PS M0 b L0 N→(t=true→z1≤y)→K t N:=by
     intro t N hN ht
     rw[hK]
     refine aT (fun e=>?_) (fun _=>?_)
     ·have:=ht e
      simp (disch:=omega) only[ia,oA]
      exact⟨_,by omega,⟨by omega,by omega,by omega,rfl⟩,hN⟩
     refine⟨fun y1 n P=>(y1≤y∧(z1-1≤y1∨y1=y)∧a≤y1∧n=(y1+1).toNat)∧PS M0 b L0 P,⟨_,⟨by omega,by omega,by omega,rfl⟩,hN⟩,?_⟩
     rintro _ y1 n P ⟨⟨h8,h8b,h9,rfl⟩,hP⟩
     refine bE fun K2 hK2=>?_
     have key2:∀ (t:Bool) (N:aC),PS M0 b L0 N→(t=true→z1≤y1)→K2 t N:=by
      intro t N hN ht
      rw[hK2]
      refine aT (fun e=>?_) (fun _=>?_)
      ·have:=ht e
       simp (disch:=omega) only[ia,oA]
       exact⟨_,by omega,⟨by omega,by omega,by omega,rfl⟩,hN⟩
      ·refine aT (fun _=>?_) (fun h10=>?_)
       ·exact sw hN (by omega) (by omega) fun N2 hN2=>⟨⟨_,_,rfl,by omega⟩,hN2⟩
       have h10:=of_decide_eq_false h10
       simp (disch:=omega) only[ia,oA]
       exact sw hN (by omega) (by omega) fun N2 hN2=>⟨_,by omega,⟨by omega,by omega,by omega,by omega,by omega,rfl⟩,hN2⟩
     refine aT (fun h11=>?_) (fun _=>key2 _ _ hP (by simp))
     have h11:=of_decide_eq_true h11
     refine cm hc hP (by omega) (by omega) fun z' N' hN'=>?_
     rw[aJ]
     exact key2 _ _ hN' fun _=>h11
    refine aT (fun h11=>?_) (fun _=>key _ _ hP (by simp))
    have h11:=of_decide_eq_true h11
    refine cm hc hP (by omega) (by omega) fun z' N' hN'=>?_
    rw[aJ]
    exact key _ _ hN' fun _=>h11
  refine aT (fun h11=>?_) (fun _=>key2 _ _ hP (by simp))
  have h11:=of_decide_eq_true h11
  refine cm hc hP (by omega) (by omega) fun z' N' hN'=>?_
  rw[aJ]
  exact key2 _ _ hN' fun _=>h11
 refine aT (fun h11=>?_) (fun _=>key _ _ hP (by simp))
 have h11:=of_decide_eq_true h11
 refine cm hc hP (by omega) (by omega) fun z' N' hN'=>?_
 rw[aJ]
 exact key _ _ hN' fun _=>h11
end
section
variable {M0:aC} {b:Nat} {L0:List Fd} {M:aC} {a4:AV}
theorem aHz(hc:mV a4 M0 b)(hn:L0.length≤1000)(h:PS M0 b L0 M){a c:Int}(ha:0≤a∧a<c∧c≤L0.length):
 aB tb.P 168 [sH b L0,i64 a,i64 c,a4] M fun y N=>(∃ u:Bool,y= .val (.bool u))∧PS M0 b L0 N:=by
 refine aNY ?_
 unfold F168
 simp only[i64,aJ]
 rw[ia (a:=a) (b:=1) (by omega)]
 refine⟨fun z s n P=>(a<z∧z≤c∧0≤s∧s≤5∧n=(5-s).toNat)∧PS M0 b L0 P,⟨_,⟨by omega,by omega,by omega,by omega,rfl⟩,h⟩,?_⟩
 rintro _ z s n P ⟨⟨h1,h2,h3,h4,rfl⟩,hP⟩
 refine aT (fun h5=>?_) (fun _=>⟨⟨_,rfl⟩,hP⟩)
 have h5:=of_decide_eq_true h5
 refine bE fun K hK=>?_
 have key:∀ (z1:Int) (N:aC),PS M0 b L0 N→a<z1∧z1≤c→K z1 N:=by
  intro z1 N hN hz
  rw[hK,ia (a:=s) (b:=1) (by omega)]
  exact⟨_,by omega,⟨by omega,by omega,by omega,by omega,rfl⟩,hN⟩
 clear hK
 refine⟨fun z1 n P=>(a<z1∧z1≤c∧n=(c-z1).toNat)∧PS M0 b L0 P,⟨_,⟨by omega,by omega,rfl⟩,hP⟩,?_⟩
 rintro _ z1 n P ⟨⟨h6,h7,rfl⟩,hP⟩
 refine bE fun K2 hK2=>?_
 have key2:∀ (t:Bool) (N:aC),PS M0 b L0 N→(t=true→z1<c)→K2 t N:=by
  intro t N hN ht
  rw[hK2]
  refine aT (fun e=>?_) (fun _=>?_)
  ·have:=ht e
   rw[ia (a:=z1) (b:=1) (by omega)]
   exact⟨_,by omega,⟨by omega,by omega,rfl⟩,hN⟩
  refine aT (fun _=>⟨⟨_,rfl⟩,hN⟩) (fun h8=>?_)
  have h8:¬ (z1=c):=by simpa using h8
  refine aT (fun _=>⟨⟨_,rfl⟩,hN⟩) (fun h9=>?_)
  rw[oA (a:=z1) (b:=1) (by omega),oA (a:=c) (b:=z1) (by omega),oA (a:=z1) (b:=a) (by omega),ia (a:=z1) (b:=1) (by omega)]
  refine sw hN (by omega) (by omega) fun N2 hN2=>?_
  refine bE fun K3 hK3=>?_
  have key3:∀ (N:aC),PS M0 b L0 N→K3 N:=by
   intro N hN
   rw[hK3]
   refine aT (fun h10=>?_) (fun _=>key _ _ hN (by omega))
   have h10:=of_decide_eq_true h10
   refine bE fun K4 hK4=>?_
   have key4:∀ (N:aC),PS M0 b L0 N→K4 N:=by
    intro N hN
    rw[hK4]
    exact key _ _ hN (by omega)
   clear hK4
   refine⟨fun y n P=>(z1<y∧y≤c∧n=(c-y).toNat)∧PS M0 b L0 P,⟨_,⟨by omega,by omega,rfl⟩,hN⟩,?_⟩
   rintro _ y n P ⟨⟨h11,h12,rfl⟩,hP⟩
   refine aT (fun h13=>?_) (fun _=>key4 _ hP)
   have h13:=of_decide_eq_true h13
   rw[oA (a:=y) (b:=1) (by omega),ia (a:=y) (b:=1) (by omega)]
   refine cm hc hP (by omega) (by omega) fun z' N' hN'=>?_
   rw[aJ]
   refine aT (fun _=>key4 _ hN') (fun _=>?_)
   exact sw hN' (by omega) (by omega) fun N3 hN3=>⟨_,by omega,⟨by omega,by omega,rfl⟩,hN3⟩
  clear hK3
  refine aT (fun h10=>?_) (fun _=>key3 _ hN2)
  have h10:=of_decide_eq_true h10
  refine bE fun K4 hK4=>?_
  have key4:∀ (N:aC),PS M0 b L0 N→K4 N:=by
   intro N hN
   rw[hK4]
   exact key3 _ hN
  clear hK4
  refine⟨fun y n P=>(0≤y∧y<z1∧n=y.toNat)∧PS M0 b L0 P,⟨_,⟨by omega,by omega,rfl⟩,hN2⟩,?_⟩
  rintro _ y n P ⟨⟨h11,h12,rfl⟩,hP⟩
  refine aT (fun h13=>?_) (fun _=>key4 _ hP)
  have h13:=of_decide_eq_true h13
  rw[oA (a:=y) (b:=1) (by omega)]
  refine cm hc hP (by omega) (by omega) fun z' N' hN'=>?_
  rw[aJ]
  refine aT (fun _=>key4 _ hN') (fun _=>?_)
  exact sw hN' (by omega) (by omega) fun N3 hN3=>⟨_,by omega,⟨by omega,by omega,rfl⟩,hN3⟩
 clear hK2
 refine aT (fun h11=>?_) (fun _=>key2 _ _ hP (by simp))
 have h11:=of_decide_eq_true h11
 rw[oA (a:=z1) (b:=1) (by omega)]
 refine cm hc hP (by omega) (by omega) fun z' N' hN'=>?_
 rw[aJ]
 exact key2 _ _ hN' fun _=>h11
end
noncomputable def aRC(n:Nat):Bool:=match lnV n with
 | some c=>match yB tb .shl 12 (.const (.int .u64 1)) (.tmp 5) (.val (.int .u64 1)) (.val (.int .i64 c)) with
   | some (.val (.int .u64 p))=>decide (n=0)||(decide (1≤p)&&decide (p≤2*(n:Int)))
   | _=>false
 | none=>false
set_option maxRecDepth 1000000 in
theorem aLx:(List.range 161).all aRC=true:=by kernel_rfl
theorem aJI{n:Nat}(h:1≤n∧n≤160):∃ z:Int,(1≤z∧z≤2*n)∧∀ M,aB tb.P 182 [.val (.int .i64 (n:Int))] M fun y N=>y= .val (.int .u64 z)∧N=M:=by
 have h1:=List.all_eq_true.1 aLx n (List.mem_range.2 (by omega))
 obtain⟨c,hc,hl⟩:=aA0 (n:=n) (by omega)
 unfold aRC at h1
 rw[hc] at h1
 dsimp only at h1
 split at h1
 ·rename_i p he
  simp only[Bool.or_eq_true,Bool.and_eq_true,decide_eq_true_eq] at h1
  refine⟨p,by omega,fun M=>?_⟩
  refine aN0 ?_
  unfold F182
  simp only[aJ]
  have hwr:IntKind.wrap .u64 (n:Int)=(n:Int):=by
   show (n:Int)%18446744073709551616=_
   exact Int.emod_eq_of_lt (by omega) (by omega)
  rw[hwr]
  refine (hl M).mono ?_
  rintro y N ⟨rfl,rfl⟩
  simp only[i64,aJ]
  refine aG (cB he) ?_
  simp only[aJ]
  exact⟨by trivial,by trivial⟩
 ·cases h1
section
variable {M0:aC} {b:Nat} {L0:List Fd} {M:aC} {a4:AV}
def Rnd(M0:aC)(b q:Nat)(M:aC):Prop:=q≠b∧M0.next≤q∧∃ z:Int,M.get q=some (.cells [.val (.int .u64 z)] true)
theorem PS.putR{q:Nat}(h:PS M0 b L0 M)(hq:Rnd M0 b q M)(r:hY):PS M0 b L0 (M.put q r):=by
 obtain⟨L,h1,h2⟩:=h.get
 obtain⟨q1,q2,z,q3⟩:=hq
 refine⟨⟨L,h1,by rw[aC.get_put,if_neg (fun e=>q1 e.symm)];exact h2⟩,⟨h.keep.wf.put (h.keep.wf _ _ q3) _,h.keep.nxt,fun c hc hn=>?_⟩,h.lt⟩
 rw[aC.get_put,if_neg (by omega)]
 exact h.keep.old c hc hn
theorem qT:tb.ty.get 200=some ⟨.int .u64,1,8,[.int .u64 0],none⟩:=by kernel_rfl
theorem aQu{q:Nat}(h:PS M0 b L0 M)(hq:Rnd M0 b q M):aB tb.P 183 [.ptr q 0] M fun y N=>(∃ z:Int,y= .val (.int .u64 z))∧PS M0 b L0 N∧Rnd M0 b q N:=by
 refine aLB ?_
 unfold F183
 obtain⟨q1,q2,z,q3⟩:=hq
 have step:∀ (N:aC) (z w:Int),PS M0 b L0 N→N.get q=some (.cells [.val (.int .u64 z)] true)→PS M0 b L0 (N.put q (.cells [.val (.int .u64 w)] true))∧(N.put q (.cells [.val (.int .u64 w)] true)).get q=some (.cells [.val (.int .u64 w)] true):=fun N z w hN hg=>⟨hN.putR ⟨q1,q2,z,hg⟩ _,by rw[aC.get_put,if_pos rfl]⟩
 refine aG dB ?_
 refine aG dB ?_
 refine aG (aS (eB qT rfl q3 rfl)) ?_
 rw[aJ]
 refine aG (aS (eB qT rfl q3 rfl)) ?_
 rw[aJ]
 refine aG dB ?_
 refine aG (oF (dK qT rfl rfl q3 (by simp))) ?_
 obtain⟨s1,g1⟩:=step M z (yQ .u64 z (aCF .u64 z 13)) h q3
 refine aG dB ?_
 refine aG dB ?_
 refine aG (aS (eB qT rfl g1 rfl)) ?_
 rw[aJ]
 refine aG (aS (eB qT rfl g1 rfl)) ?_
 rw[aJ]
 refine aG dB ?_
 refine aG (oF (dK qT rfl rfl g1 (by simp))) ?_
 generalize yQ .u64 z (aCF .u64 z 13)=z1 at*
 obtain⟨s2,g2⟩:=step _ z1 (yQ .u64 z1 (gF .u64 z1 7)) s1 g1
 refine aG dB ?_
 refine aG dB ?_
 refine aG (aS (eB qT rfl g2 rfl)) ?_
 rw[aJ]
 refine aG (aS (eB qT rfl g2 rfl)) ?_
 rw[aJ]
 refine aG dB ?_
 refine aG (oF (dK qT rfl rfl g2 (by simp))) ?_
 generalize yQ .u64 z1 (gF .u64 z1 7)=z2 at*
 obtain⟨s3,g3⟩:=step _ z2 (yQ .u64 z2 (aCF .u64 z2 17)) s2 g2
 refine aG dB ?_
 refine aG (aS (eB qT rfl g3 rfl)) ?_
 rw[aJ]
 exact⟨⟨_,rfl⟩,s3,q1,q2,_,g3⟩
theorem aQk(z w:Int)(h:0≤w∧w≤100000):0≤lI .u64 z w∧lI .u64 z w≤w:=by
 unfold lI
 have hb:(BitVec.ofInt IntKind.u64.bits w).toNat=w.toNat:=by
  rw[BitVec.toNat_ofInt]
  show (w%((2^64:Nat):Int)).toNat=_
  rw[Int.emod_eq_of_lt h.1 (by omega)]
 have h1:(BitVec.ofInt IntKind.u64.bits z &&& BitVec.ofInt IntKind.u64.bits w).toNat≤w.toNat:=by
  rw[BitVec.toNat_and,hb]
  exact Nat.and_le_right
 generalize (BitVec.ofInt IntKind.u64.bits z &&& BitVec.ofInt IntKind.u64.bits w).toNat=v at h1
 have hw:IntKind.wrap .u64 (v:Int)=(v:Int):=by
  show (v:Int)%18446744073709551616=_
  exact Int.emod_eq_of_lt (by omega) (by omega)
 rw[hw]
 omega
theorem aNe(hn:L0.length≤160)(h:PS M0 b L0 M){a c:Int}(ha:0≤a∧a+8≤c∧c≤L0.length):
 aB tb.P 165 [sH b L0,i64 a,i64 c,a4] M fun _ N=>PS M0 b L0 N:=by
 refine aLO ?_
 unfold F165
 simp only[i64,aJ]
 rw[oA (a:=c) (b:=a) (by omega),decide_eq_true (by omega:c-a≥8),jF]
 refine bE fun M3 hM3=>?_
 have e3:M3=M.new (.cells [.val (.int .u64 0)] true):=hM3
 have h3:PS M0 b L0 M3:=h.post (by rw[e3];exact aD.new h.keep.wf _)
 have hq:M.next≠b∧M0.next≤M.next:=⟨by have:=h.lt;have:=h.keep.nxt;omega,h.keep.nxt⟩
 have q3:M3.get M.next=some (.cells [.val (.int .u64 0)] true):=by rw[e3];exact get_new _ _
 clear hM3 e3
 refine aG (oF (dK qT rfl rfl q3 (by simp))) ?_
 have h4:=h3.putR (q:=M.next) ⟨hq.1,hq.2,0,q3⟩ (.cells ([.val (.int .u64 0)].set 0 (.val (.int .u64 (IntKind.wrap .u64 (c-a))))) true)
 have r4:Rnd M0 b M.next (M3.put M.next (.cells ([.val (.int .u64 0)].set 0 (.val (.int .u64 (IntKind.wrap .u64 (c-a))))) true)):=⟨hq.1,hq.2,_,by rw[aC.get_put,if_pos rfl];rfl⟩
 obtain⟨k,hk⟩:∃ k:Nat,c-a=k:=⟨(c-a).toNat,by omega⟩
 obtain⟨m,hm,hpow⟩:=aJI (n:=k) (by omega)
 rw[hk]
 rw[hk] at h4 r4
 refine (hpow _).mono ?_
 rintro y N ⟨rfl,rfl⟩
 rw[aJ]
 have eq:kV .i64 (k:Int) 4=(k:Int)/4:=aJl (by omega) (by omega)
 have em:bT .i64 ((k:Int)/4) 2=(k:Int)/4*2:=aL (by omega) (by omega)
 have es:aW .u64 m 1=m-1:=by
  show (m-1)%18446744073709551616=_
  exact Int.emod_eq_of_lt (by omega) (by omega)
 rw[eq,em,es,ia (a:=a) (b:=(k:Int)/4*2) (by omega),oA (a:=a+(k:Int)/4*2) (b:=1) (by omega),ia (a:=a+(k:Int)/4*2) (b:=1) (by omega)]
 refine⟨fun z n P=>(a+(k:Int)/4*2-1≤z∧z≤a+(k:Int)/4*2+2∧n=(a+(k:Int)/4*2+2-z).toNat)∧PS M0 b L0 P∧Rnd M0 b M.next P,⟨_,⟨by omega,by omega,rfl⟩,h4,r4⟩,?_⟩
 rintro _ z n P ⟨⟨h5,h6,rfl⟩,hP,hr⟩
 refine aT (fun h7=>?_) (fun _=>hP)
 have h7:=of_decide_eq_true h7
 refine (aQu hP hr).mono ?_
 rintro y N ⟨⟨w,rfl⟩,hN,hrN⟩
 rw[aJ]
 refine bE fun K hK=>?_
 have key:∀ u:Int,0≤u∧u<k→K u:=by
  intro u hu
  rw[hK]
  dsimp only
  rw[ia (a:=a) (b:=u) (by omega),ia (a:=z) (b:=1) (by omega)]
  refine swk hN (by omega) (by omega) fun N2 hN2 hk2=>?_
  obtain⟨r1,r2,w',r3⟩:=hrN
  exact⟨_,by omega,⟨by omega,by omega,rfl⟩,hN2,r1,r2,w',hk2.get hN.keep.wf r3 (by simpa using r1)⟩
 obtain⟨b1,b2⟩:=aQk w (m-1) (by omega)
 have ew:IntKind.wrap .i64 (lI .u64 w (m-1))=lI .u64 w (m-1):=aL (by omega) (by omega)
 rw[ew]
 refine aT (fun h8=>?_) (fun h8=>?_)
 ·have h8:=of_decide_eq_true h8
  rw[oA (by omega)]
  exact key _ (by omega)
 ·have h8:=of_decide_eq_false h8
  exact key _ (by omega)
theorem aR1(hc:mV a4 M0 b)(hn:L0.length≤160):∀ (m:Nat) {M:aC} (h:PS M0 b L0 M) {a c l:Int},0≤a∧a≤c∧c≤L0.length→(c-a).toNat≤m→aB tb.P 125 [sH b L0,i64 a,i64 c,i64 l,a4] M fun _ N=>PS M0 b L0 N:=by
 intro m
 induction m with
 | zero=>
   intro M h a c l ha hm
   refine aCX ?_
   unfold F125
   simp only[i64,aJ]
   refine⟨fun z y w u v n P=>z=a∧y=c∧PS M0 b L0 P,⟨0,rfl,rfl,h⟩,?_⟩
   rintro _ z y w u v n P ⟨rfl,rfl,hP⟩
   rw[oA (by omega),decide_eq_true (by omega),jF]
   exact (aOs hc (by omega) hP (by omega)).mono fun _ _ h=>h
 | succ m ih=>
   intro M h a c l ha hm
   refine aCX ?_
   unfold F125
   simp only[i64,aJ]
   refine⟨fun z y w u v n P=>(a≤z∧z≤y∧y≤c∧n=(y-z).toNat)∧PS M0 b L0 P,⟨_,⟨by omega,by omega,by omega,rfl⟩,h⟩,?_⟩
   rintro _ z y w u v n P ⟨⟨h1,h2,h3,rfl⟩,hP⟩
   rw[oA (a:=y) (b:=z) (by omega)]
   refine aT (fun _=>(aOs hc (by omega) hP (by omega)).mono fun _ _ h=>h) (fun h4=>?_)
   have h4:=of_decide_eq_false h4
   refine aT (fun _=>(aRh hc (by omega) hP (by omega)).mono fun _ _ h=>h) (fun _=>?_)
   refine bE fun K hK=>?_
   have key:∀ (w:Int) (N:aC),PS M0 b L0 N→K w N:=by
    intro w N hN
    rw[hK]
    dsimp only
    clear hK
    refine (aMb hc (by omega) hN (by omega)).mono ?_
    rintro r N1 ⟨⟨p,k,rfl,hp⟩,hN1⟩
    refine⟨_,_,rfl,?_⟩
    refine bE fun K1 hK1=>?_
    have key1:∀ (p k:Int) (N:aC),PS M0 b L0 N→z≤p∧p<y→K1 p k N:=by
     intro p k N hN hp
     rw[hK1]
     dsimp only
     clear hK1
     refine bE fun K2 hK2=>?_
     have key2:∀ (N:aC),PS M0 b L0 N→K2 N:=by
      intro N hN
      rw[hK2]
      dsimp only
      clear hK2
      refine bE fun K3 hK3=>?_
      have key3:∀ (t:Bool) (N:aC),PS M0 b L0 N→K3 t N:=by
       intro t N hN
       rw[hK3]
       dsimp only
       clear hK3
       refine aT (fun _=>?_) (fun _=>?_)
       ·refine (aRR hc (by omega) hN (by omega) hp).mono ?_
        rintro r N1 ⟨⟨q,rfl,hq⟩,hN1⟩
        simp only[i64,aJ]
        exact⟨_,by omega,⟨by omega,by omega,by omega,rfl⟩,hN1⟩
       ·refine (aQ5 hc (by omega) hN (by omega) hp).mono ?_
        rintro r N1 ⟨⟨q,t,rfl,hq⟩,hN1⟩
        refine⟨_,_,rfl,?_⟩
        rw[oA (a:=q) (b:=z) (by omega),oA (a:=y) (b:=q) (by omega),ia (a:=q) (b:=1) (by omega)]
        refine aT (fun _=>?_) (fun _=>?_)
        ·refine (ih hN1 (by omega) (by omega)).mono ?_
         intro r N2 hN2
         exact⟨_,by omega,⟨by omega,by omega,by omega,rfl⟩,hN2⟩
        ·refine (ih hN1 (by omega) (by omega)).mono ?_
         intro r N2 hN2
         exact⟨_,by omega,⟨by omega,by omega,by omega,rfl⟩,hN2⟩
      clear hK3
      refine aT (fun h5=>?_) (fun _=>key3 _ _ hN)
      have h5:=of_decide_eq_true h5
      rw[oA (a:=z) (b:=1) (by omega)]
      refine cm hc hN (by omega) (by omega) fun z' N' hN'=>?_
      rw[aJ]
      exact key3 _ _ hN'
     clear hK2
     refine bE fun K4 hK4=>?_
     have key4:∀ t:Bool,K4 t:=by
      intro t
      rw[hK4]
      dsimp only
      refine aT (fun _=>?_) (fun _=>key2 _ hN)
      refine (aHz hc (by omega) hN (by omega)).mono ?_
      rintro r N1 ⟨⟨t,rfl⟩,hN1⟩
      rw[cO]
      exact aT (fun _=>hN1) (fun _=>key2 _ hN1)
     clear hK4
     exact aT (fun _=>aT (fun _=>key4 _) (fun _=>key4 _)) (fun _=>key4 _)
    clear hK1
    refine aT (fun _=>?_) (fun _=>key1 _ _ _ hN1 (by omega))
    refine (aR7 (by omega) hN1 (by omega)).mono ?_
    intro r N2 hN2
    rw[oA (a:=y) (b:=1) (by omega),oA (a:=p) (b:=z) (by omega),oA (by omega)]
    exact key1 _ _ _ hN2 (by omega)
   clear hK
   refine aT (fun _=>?_) (fun _=>key _ _ hP)
   refine (aNe hn hP (by omega)).mono ?_
   intro r N hN
   exact key _ _ hN
theorem aIh(hw:M.WF){x:AV}{l:List Fd}(hx:GrF M x l)(hn:l.length≤160)(hc:∀ b,aN x b→mV a4 M b):
 aB tb.P 95 [x,a4] M fun _ N=>∃ l':List Fd,l'.Perm l∧GrF N x l'∧N.WF∧M.next≤N.next∧∀ c,c<M.next→¬ aN x c→N.get c=M.get c:=by
 have hlen:=hx.at.len (M':=M)
 rcases hx with⟨rfl,rfl⟩|⟨b,hg⟩
 ·refine (aHO M).mono ?_
  rintro y N rfl
  exact⟨[],.refl _,.inl ⟨rfl,rfl⟩,hw,Nat.le_refl _,fun _ _ _=>rfl⟩
 ·have hxb:x=sH b l:=hg.1
  have hib:aN x b:=by rw[hxb];exact⟨by have:=hg.2.1;omega,rfl⟩
  refine aKM ?_
  unfold F95
  refine aG (iO hlen) ?_
  simp only[aJ]
  obtain⟨z,_,hz⟩:=aA0 hn
  have hwr:IntKind.wrap .u64 (l.length:Int)=(l.length:Int):=by
   show (l.length:Int)%18446744073709551616=_
   exact Int.emod_eq_of_lt (by omega) (by omega)
  rw[hwr]
  refine (hz M).mono ?_
  rintro y N ⟨rfl,rfl⟩
  simp only[i64,aJ]
  have h0:PS N b l N:=⟨⟨l,.refl _,hg.2.2.2⟩,aD.refl hw,hw _ _ hg.2.2.2⟩
  rw[hxb]
  refine (aR1 (hc b hib) hn _ h0 (a:=0) (c:=l.length) (l:=z) (by omega) (Nat.le_refl _)).mono ?_
  intro y N' hN'
  obtain⟨L,h1,h2⟩:=hN'.get
  have hl:=h1.length_eq
  refine⟨L,h1,.inr ⟨b,by unfold sH;rw[hl],by rw[hl];exact hg.2.1,cA eI _,h2⟩,hN'.keep.wf,hN'.keep.nxt,fun c hcn hnb=>hN'.keep.old c hcn fun e=>hnb ?_⟩
  have e:c=b:=by simpa using e
  rw[e,← hxb];exact hib
end
theorem aPm:(jM (dY Tryz.f133)).isSome=true:=by kernel_rfl
noncomputable def p92:ML:=(jM (dY Tryz.f133)).get aPm
theorem aSK:jM (dY Tryz.f133)=some p92:=by kernel_rfl
def aSV:Code→Code
 | .seq a _=>a
 | _=> .skip
def aSQ:Code→Array Oper
 | .seq _ (.cond _ (.region _ ops _) _)=>ops
 | _=> #[]
noncomputable def x92:Code:=aSV p92.body
noncomputable def aAo:Array Oper:=aSQ p92.body
theorem aRf:p92.body= .seq x92 (.cond (.tmp 16) (.region 4 aAo false) .skip):=by kernel_rfl
noncomputable def aGi:List Oper:=aAo.toList.take 2
noncomputable def aPW:List Oper:=aAo.toList.drop 2
theorem aIu:aAo.toList=aGi++aPW:=by kernel_rfl
def aGa:List Tmp:=[4,5,7,8,9,10,11,12,13,14,15,16,17,18]
theorem aSj:∃ d3,aPW=[d3]∧aGy d3=some (96,.tmp 17,.tmp 18):=⟨(aPW[0]?).get (by kernel_rfl),by kernel_rfl,by kernel_rfl⟩
theorem aI1:p92.it=7∧p92.ntm=8∧p92.more=9∧p92.pair=10∧p92.xt=96:=by
 refine⟨?_,?_,?_,?_,?_⟩ <;> kernel_rfl
def D92(a0 a1:AV)(b:Nat)(J:List (Nat×AV×AV)→List (Nat×AV×AV)→aC→Prop)(rem cur:List (Nat×AV×AV))(i tag:Nat)(x6 x7:AV)(M4:aC):Prop:=
 aK (M4.new (.cells [(.val (.int .i64 0)),(.val (.int .i64 0))] true)) fun M8=>aK (M8.new (.cells [(.val (.int .i64 0)),(.val (.int .i64 0)),(.val (.int .i64 0)),(.val (.int .i64 0)),(.val (.slice none 0 0))] true)) fun M9=>aA (cL tb 101 (.ptr M4.next 0) x6 M9) fun y10=>aA (cL tb 110 (.ptr M8.next 0) x7 y10.2) fun y11=>aA (aH tb 101 (.ptr M4.next 0) y11.2) fun y12=>∃ (z13:Int) (z14:Int),y12.1=
 (.agg [(.val (.int .i64 z13)),(.val (.int .i64 z14))])∧(aA (aH tb 110 (.ptr M8.next 0) y11.2) fun y15=>∃ (z16:Int) (z17:Int) (z18:Int) (z19:Int) (x20:AV),y15.1=
 (.agg [(.val (.int .i64 z16)),(.val (.int .i64 z17)),(.val (.int .i64 z18)),(.val (.int .i64 z19)),x20])∧
 (eD tb a1 [(.agg [(.val (.int .i64 z13)),(.val (.int .i64 z14))]),(.agg [(.val (.int .i64 z16)),(.val (.int .i64 z17)),(.val (.int .i64 z18)),(.val (.int .i64 z19)),x20])] y11.2 fun y21 M22=>zB y21 fun b23=>aE (b23) (aA (aH tb 101 (.ptr M4.next 0) M22) fun y24=>∃ (z25:Int) (z26:Int),y24.1=
 (.agg [(.val (.int .i64 z25)),(.val (.int .i64 z26))])∧
 (a0= .map b∧gR tb 60 101 (.agg [(.val (.int .i64 z25)),(.val (.int .i64 z26))])=true∧∃ j k' v' q,eN tb 101 (.agg [(.val (.int .i64 z25)),(.val (.int .i64 z26))]) (cur.map (fun q:Nat×AV×AV=>q.2)) 0=some (some (j,k',v'))∧cur[j]? =some q∧q.1=tag∧J (rem.eraseIdx i) (cur.eraseIdx j) M22)) (J (rem.eraseIdx i) cur M22)))
theorem aP7:(fun (js:Nat→Option AV) (a0 a1:AV) (b:Nat) (J:List (Nat×AV×AV)→List (Nat×AV×AV)→aC→Prop) (rem cur:List (Nat×AV×AV)) (i tag:Nat) (x6 x7:AV) (M4:aC)=>
 zO tb p92.eops p92.rest [] ⟨19,(iN js aGa ((Tr.ofList 0 [a0,a1]).set 6 (some a0))).set p92.pair (some (.tup [x6,x7])),M4⟩ fun s2=>wZ tb (.reg [.non,.agg [.int .i64,.int .i64],.agg [.int .i64,.int .i64,.int .i64,.int .i64,.any],.bool]) x92 s2 (andThen (fun s3=>zB (opnd s3.t (.tmp 16)) fun d=>
  aE d (zO tb aAo aGi [.non,.agg [.int .i64,.int .i64]] s3 fun s4=>opnd s4.t (.tmp 17)= .map b∧gR tb 60 101 (opnd s4.t (.tmp 18))=true∧∃ j k' v' q,eN tb 101 (opnd s4.t (.tmp 18)) (cur.map (fun q:Nat×AV×AV=>q.2)) 0=some (some (j,k',v'))∧cur[j]? =some q∧q.1=tag∧J (rem.eraseIdx i) (cur.eraseIdx j) s4.m)
   (J (rem.eraseIdx i) cur s3.m)) (fun _ _=>False)))=fun js a0 a1 b J rem cur i tag x6 x7 M4=>D92 a0 a1 b J rem cur i tag x6 x7 M4:=by kernel_rfl
theorem aSz:∃ te,tb.ty.get p92.xt=some te∧te.k= .mp 101 110:=⟨_,by rw[aI1.2.2.2.2];exact aDl,rfl⟩
theorem aRx:∃ td,tb.ty.get 96=some td∧td.k= .mp 101 110:=⟨_,aDl,rfl⟩
theorem aO4(M:aC)(b:Nat)(es:List (AV×AV))(hg:M.get b=some (.map es))(a1:AV){J:List (Nat×AV×AV)→List (Nat×AV×AV)→aC→Prop}{Q:AV→aC→Prop}(h0:J (pZ 0 es) (pZ 0 es) (aEi (M.kill b)))
 (hend:∀ cur m,J [] cur m→Q (.tup []) (m.put b (.map (cur.map (fun q:Nat×AV×AV=>q.2))))) (hstep:∀ rem cur m,J rem cur m→∀ i e,rem[i]? =some e→D92 (.map b) a1 b J rem cur i e.1 e.2.1 e.2.2 m):aB tb.P 133 [.map b,a1] M Q:=by
 obtain⟨te,ht1,ht2⟩:=aSz
 obtain⟨td,hd1,hd2⟩:=aRx
 obtain⟨d3,hd3,hdel⟩:=aSj
 obtain⟨t1,t2,t3,t4,t5⟩:=aI1
 refine aJ9 rG (aRU) (c:=dY Tryz.f133) rfl ?_
 have hdp:(Go.AM.dstsOf p92.pre).all (fun d=>decide (d<19))=true:=by kernel_rfl
 have hpre:∀ Q:Ex→St→Prop,Q .normal ⟨19,(Tr.ofList 0 [.map b,a1]).set 6 (some (.map b)),M⟩→yN tb.P p92.ops p92.pre (iI Tryz.f133 [.map b,a1] M) Q:=fun Q hq=>by
  have hz:zO tb p92.ops p92.pre [.non] (iI Tryz.f133 [.map b,a1] M) (Q .normal)=Q .normal ⟨19,(Tr.ofList 0 [.map b,a1]).set 6 (some (.map b)),M⟩:=by kernel_rfl
  exact rH rG (nt:=19) (fun d hd=>of_decide_eq_true (List.all_eq_true.1 hdp d hd)) (Nat.le_refl _) (cast hz.symm hq)
 refine aMX rG aSK (s:=⟨19,(Tr.ofList 0 [.map b,a1]).set 6 (some (.map b)),M⟩) (by rw[t1];show (7:Nat)<19;omega) (by rw[t2];show (8:Nat)<19;omega) (by rw[t3];show (9:Nat)<19;omega) (by rw[t4];show (10:Nat)<19;omega) ht1 ht2 pR aRf (by rw[← hd3];exact aIu) hdel hd1 hd2 hpre (b:=b) (es:=es) (by kernel_rfl) hg (K:=es.length+1) ?_
 have hlen:∀ (l:List (AV×AV)) (i:Nat),(pZ i l).length=l.length:=fun l=>by
  induction l with
  | nil=>intro i;rfl
  | cons e r ih=>intro i;simp[pZ,ih]
 have hr:Go.AM.dstsOf p92.rest=[11,12,4,5]:=by kernel_rfl
 have hx:Go.AM.asgOf (.reg [.non,.agg [.int .i64,.int .i64],.agg [.int .i64,.int .i64,.int .i64,.int .i64,.any],.bool]) x92=[13,14,15,16]:=by kernel_rfl
 have hd:Go.AM.dstsOf aGi=[17,18]:=by kernel_rfl
 refine aE8 rG qU (nt:=19) (N:=19) (t0:=(Tr.ofList 0 [.map b,a1]).set 6 (some (.map b))) (junk:=aGa) (ke:=[]) (kd:=[.non,.agg [.int .i64,.int .i64]]) (J:=J)
  (anx:= .reg [.non,.agg [.int .i64,.int .i64],.agg [.int .i64,.int .i64,.int .i64,.int .i64,.any],.bool]) (by kernel_rfl) (Nat.le_refl _) ?_ ?_ (by rw[t1];decide) (by rw[t2];decide) (by rw[t3];decide) (by rw[t4];decide) (by rw[t1,t2];decide) (by rw[t1,t3];decide) (by rw[t1,t4];decide) ?_ ?_ ?_ ?_ ?_
  (es.length+1) (pZ 0 es) (pZ 0 es) _ (by rw[hlen];omega) rfl ?_ ?_ h0
 ·rw[hr];intro d hd;simp at hd;rcases hd with rfl|rfl|rfl|rfl <;> decide
 ·rw[hd];intro d hd;simp at hd;rcases hd with rfl|rfl <;> decide
 ·rw[hr,t1];intro d hd;simp at hd;rcases hd with rfl|rfl|rfl|rfl <;> decide
 ·rw[hx,t1];intro d hd;simp at hd;rcases hd with rfl|rfl|rfl|rfl <;> decide
 ·rw[hd,t1];intro d hd;simp at hd;rcases hd with rfl|rfl <;> decide
 ·intro js cur m hJ
  have hres:rO tb Tryz.f133 ⟨19,iN js aGa ((Tr.ofList 0 [.map b,a1]).set 6 (some (.map b))),m.put b (.map (cur.map (fun q:Nat×AV×AV=>q.2)))⟩=some (.tup []):=by kernel_rfl
  unfold aBs
  simp only
  rw[hres,eM]
  exact hend cur m hJ
 ·intro js rem cur m hJ i e hi
  have:=hstep rem cur m hJ i e hi
  have hE:=congrFun (congrFun (congrFun (congrFun (congrFun (congrFun (congrFun (congrFun (congrFun (congrFun (congrFun (congrFun aP7 js) (.map b)) a1) b) J) rem) cur) i) e.1) e.2.1) e.2.2) m
  exact cast hE.symm this
 ·intro i hi
  show (((((Tr.ofList 0 [AV.map b,a1]).set 6 (some (.map b))).set p92.it _).get i).getD eY)=_
  rw[Tr.get_set_ne _ _ _ _ (fun e=>hi (by rw[e,t1];decide))]
 ·show ((((Tr.ofList 0 [AV.map b,a1]).set 6 (some (.map b))).set p92.it _).get p92.it)=_
  rw[Tr.get_set_eq]
structure Pg where
 k:Int
 p:Int
 s:Int
 e:Int
 d:AV
def pgC(q:Pg):List AV:=[i64 q.k,i64 q.p,i64 q.s,i64 q.e,q.d]
def pgA(q:Pg):AV:= .agg (pgC q)
abbrev iK:=(Int×Int)×Pg
def mK(m:List iK):List (AV×AV):=m.map fun q=>(bB q.1.1 q.1.2,pgA q.2)
theorem rT(a b c d:Int):eqA tb 60 101 (bB a b) (bB c d)=some (decide ((a,b)=(c,d))):=by
 have e:eqA tb 60 101 (bB a b) (bB c d)=cond (a==c) (cond (b==d) (some true) (some false)) (some false):=by kernel_rfl
 rw[e]
 by_cases h1:a=c
 ·have h1':(a==c)=true:=by simpa using h1
  by_cases h2:b=d
  ·have h2':(b==d)=true:=by simpa using h2
   rw[h1',h2'];simp[h1,h2]
  ·have h2':(b==d)=false:=by simpa using h2
   rw[h1',h2'];simp[h2]
 ·have h1':(a==c)=false:=by simpa using h1
  rw[h1'];simp[h1]
theorem qK(a b:Int):gR tb 60 101 (bB a b)=true:=by kernel_rfl
theorem aBe(a b:Int):∀ (l:List iK) (o j:Nat) (q:iK),l[j]? =some q→q.1=(a,b)→(∀ (i:Nat) (q':iK),i<j→l[i]? =some q'→q'.1≠(a,b))→eN tb 101 (bB a b) (mK l) o=some (some (o+j,bB a b,pgA q.2))
 | [],_,_,_,h,_,_=>by simp at h
 | x::l,o,0,q,h,hq,_=>by
   simp only[List.getElem?_cons_zero,Option.some.injEq] at h
   subst h
   show (match eqA tb 60 101 (bB a b) (bB x.1.1 x.1.2) with|some true=>some (some (o,bB x.1.1 x.1.2,pgA x.2))|some false=>eN tb 101 (bB a b) (mK l) (o+1)|none=>none)=_
   rw[rT]
   have:(a,b)=(x.1.1,x.1.2):=hq.symm
   rw[decide_eq_true this]
   rw[hq]
   rfl
 | x::l,o,j+1,q,h,hq,hn=>by
   simp only[List.getElem?_cons_succ] at h
   show (match eqA tb 60 101 (bB a b) (bB x.1.1 x.1.2) with|some true=>some (some (o,bB x.1.1 x.1.2,pgA x.2))|some false=>eN tb 101 (bB a b) (mK l) (o+1)|none=>none)=_
   rw[rT]
   have:¬ (a,b)=(x.1.1,x.1.2):=fun e=>hn 0 x (by omega) rfl e.symm
   rw[decide_eq_false this]
   simp only
   rw[aBe a b l (o+1) j q h hq fun i q' hi h'=>hn (i+1) q' (by omega) (by simpa using h')]
   rw[show o+1+j=o+(j+1) by omega]
def nI:Nat→List iK→List (Nat×iK)
 | _,[]=>[]
 | i,q::r=>(i,q)::nI (i+1) r
def conv(e:Nat×iK):Nat×AV×AV:=(e.1,bB e.2.1.1 e.2.1.2,pgA e.2.2)
theorem wS:∀ (m:List iK) (i:Nat),pZ i (mK m)=(nI i m).map conv
 | [],_=>rfl
 | q::r,i=>by
   show (i,_)::pZ (i+1) (mK r)=_
   rw[wS r (i+1)]
   rfl
theorem aBd:∀ (m:List iK) (i:Nat),(nI i m).map (·.2)=m
 | [],_=>rfl
 | q::r,i=>by simp[nI,aBd r (i+1)]
theorem aG9:∀ (m:List iK) (i:Nat) (e:Nat×iK),e∈nI i m→i≤e.1
 | [],_,e,h=>by simp[nI] at h
 | q::r,i,e,h=>by
   simp only[nI,List.mem_cons] at h
   rcases h with rfl|h
   ·exact Nat.le_refl _
   ·have:=aG9 r (i+1) e h;omega
theorem aA2:∀ (m:List iK) (i:Nat),((nI i m).map (·.1)).Nodup
 | [],_=>List.nodup_nil
 | q::r,i=>by
   simp only[nI,List.map_cons,List.nodup_cons]
   refine⟨fun h=>?_,aA2 r (i+1)⟩
   obtain⟨e,he,h2⟩:=List.mem_map.1 h
   have:=aG9 r (i+1) e he
   omega
theorem wA{α:Type}:∀ {L:List (Nat×α)} {i:Nat} {e:Nat×α},(L.map (·.1)).Nodup→L[i]? =some e→L.eraseIdx i=L.filter (fun x=> !(x.1==e.1))
 | [],i,e,_,h=>by simp at h
 | x::L,0,e,hn,h=>by
   simp only[List.getElem?_cons_zero,Option.some.injEq] at h
   subst h
   simp only[List.map_cons,List.nodup_cons] at hn
   rw[List.eraseIdx_cons_zero,List.filter_cons,if_neg (by simp),eq_comm,List.filter_eq_self]
   intro y hy
   have:y.1≠x.1:=fun e=>hn.1 (e▸List.mem_map.2 ⟨y,hy,rfl⟩)
   simpa using this
 | x::L,i+1,e,hn,h=>by
   simp only[List.getElem?_cons_succ] at h
   simp only[List.map_cons,List.nodup_cons] at hn
   have hm:e∈L:=List.mem_of_getElem? h
   have:x.1≠e.1:=fun he=>hn.1 (he▸List.mem_map.2 ⟨e,hm,rfl⟩)
   rw[List.eraseIdx_cons_succ,List.filter_cons,if_pos (by simpa using this),wA hn.2 h]
theorem aJz{α:Type}{L:List (Nat×α)}(hn:(L.map (·.1)).Nodup){x e:Nat×α}(hx:x∈L)(he:e∈L)(h:x.1=e.1):x=e:=by
 induction L with
 | nil=>simp at hx
 | cons y L ih=>
   simp only[List.map_cons,List.nodup_cons] at hn
   simp only[List.mem_cons] at hx he
   rcases hx with rfl|hx <;> rcases he with rfl|he
   ·rfl
   ·exact absurd (List.mem_map.2 ⟨e,he,h.symm⟩) hn.1
   ·exact absurd (List.mem_map.2 ⟨x,hx,h⟩) hn.1
   ·exact ih hn.2 hx he
def stay(bk:Int)(rem:List (Nat×iK))(x:Nat×iK):Bool:=rem.any (fun r=>r.1==x.1)|| !(x.2.1.1==bk)
theorem aAb{T rem:List (Nat×iK)}(hT:(T.map (·.1)).Nodup)(hs:rem.Sublist T){i:Nat}{e:Nat×iK}(hi:rem[i]? =some e)(bk:Int)(x:Nat×iK)(hx:x∈T):stay bk (rem.eraseIdx i) x=if x.1=e.1 then !(e.2.1.1==bk) else stay bk rem x:=by
 have hrn:(rem.map (·.1)).Nodup:=hT.sublist (hs.map _)
 have heT:e∈T:=hs.subset (List.mem_of_getElem? hi)
 unfold stay
 rw[wA hrn hi]
 by_cases h:x.1=e.1
 ·rw[if_pos h]
  have hxe:=aJz hT hx heT h
  have:(rem.filter (fun y=> !(y.1==e.1))).any (fun r=>r.1==x.1)=false:=by
   rw[List.any_eq_false]
   intro y hy
   rw[List.mem_filter] at hy
   rw[h]
   simpa using hy.2
  rw[this,Bool.false_or,hxe]
 ·rw[if_neg h]
  congr 1
  rw[Bool.eq_iff_iff,List.any_eq_true,List.any_eq_true]
  constructor
  ·rintro⟨y,hy,hyx⟩
   exact⟨y,(List.mem_filter.1 hy).1,hyx⟩
  ·rintro⟨y,hy,hyx⟩
   refine⟨y,List.mem_filter.2 ⟨hy,?_⟩,hyx⟩
   have hyx:y.1=x.1:=by simpa using hyx
   simpa[hyx] using h
theorem aNH{T rem:List (Nat×iK)}(hT:(T.map (·.1)).Nodup)(hs:rem.Sublist T){i:Nat}{e:Nat×iK}(hi:rem[i]? =some e){bk:Int}(hd:(e.2.1.1==bk)=false):T.filter (stay bk (rem.eraseIdx i))=T.filter (stay bk rem):=by
 apply List.filter_congr
 intro x hx
 rw[aAb hT hs hi bk x hx]
 split
 ·rename_i h
  have hxe:=aJz hT hx (hs.subset (List.mem_of_getElem? hi)) h
  rw[hd,hxe]
  unfold stay
  rw[hd]
  simp
 ·rfl
theorem aJx{T rem:List (Nat×iK)}(hT:(T.map (·.1)).Nodup)(hs:rem.Sublist T){i j:Nat}{e:Nat×iK}(hi:rem[i]? =some e){bk:Int}(hd:(e.2.1.1==bk)=true)(hj:(T.filter (stay bk rem))[j]? =some e):T.filter (stay bk (rem.eraseIdx i))=(T.filter (stay bk rem)).eraseIdx j:=by
 rw[wA (hT.sublist (List.filter_sublist.map _)) hj,List.filter_filter]
 apply List.filter_congr
 intro x hx
 rw[aAb hT hs hi bk x hx]
 by_cases h:x.1=e.1
 ·rw[if_pos h,hd]
  simp[h]
 ·rw[if_neg h]
  have:(x.1==e.1)=false:=by simpa using h
  rw[this]
  simp
theorem aES:tb.ty.get 110=some ⟨.st [(0,4,true),(4,1,false)],5,56,[.int .i64 0,.int .i64 0,.int .i64 0,.int .i64 0,.slice none 0 0],some [106,25]⟩:=by kernel_rfl
theorem aQz:tb.fn.get 134=some Tryz.f134:=by kernel_rfl
theorem aP0(q:Pg)(h:q.d.one=true):∀ v∈pgC q,v.one=true:=by
 intro v hv
 simp only[pgC,List.mem_cons,List.not_mem_nil,or_false] at hv
 rcases hv with rfl|rfl|rfl|rfl|rfl
 ·rfl
 ·rfl
 ·rfl
 ·rfl
 ·exact h
theorem aJm{M:aC}{b:Nat}{cs:List AV}(q:Pg)(h1:q.d.one=true)(hg:M.get b=some (.cells cs true))(hl:cs.length=5):cL tb 110 (.ptr b 0) (pgA q) M=some (eY,M.put b (.cells (pgC q) true)):=
 oF (pP (vs:=pgC q) aES rfl hg hl (aP0 q h1))
theorem aJS(M:aC)(hw:M.WF)(b p bk:Int)(q:Pg)(q0:Nat){rw':Bool}(hq:M.get q0=some (.cells [i64 bk] rw')):aB tb.P 134 [bB b p,pgA q,.ptr q0 0] M fun y N=>y= .val (.bool (b==bk))∧aD M N []:=by
 refine aMv ?_
 unfold F134
 refine⟨_,_,rfl,_,_,_,_,_,rfl,?_⟩
 refine bE fun M8 hM8=>?_
 refine bE fun M9 hM9=>?_
 have k8:aD M M8 []:=by rw[hM8];exact aD.new hw _
 have k9:aD M8 M9 []:=by rw[hM9];exact aD.new k8.wf _
 have g8:M8.get M.next=some (.cells [i64 b,i64 p] true):=by rw[hM8];exact get_new _ _
 have g9:=k9.get k8.wf g8 (by simp)
 refine aG (aS (eB dX rfl g9 rfl)) ?_
 simp only[i64,aJ]
 have hq9:=(k8.trans0 k9).get hw hq (by simp)
 refine aG (aS (eB dX rfl hq9 rfl)) ?_
 simp only[i64,aJ]
 exact⟨by first|rfl|trivial,k8.trans0 k9⟩
theorem xI(g:iK→Bool):∀ (m:List iK) (i:Nat),(((nI i m).filter (fun x=>g x.2)).map conv).map (fun q:Nat×AV×AV=>q.2)=mK (m.filter g)
 | [],_=>rfl
 | q::r,i=>by
   show (((((i,q)::nI (i+1) r).filter (fun x=>g x.2)).map conv).map (fun q:Nat×AV×AV=>q.2))=_
   rw[List.filter_cons,List.filter_cons]
   cases hg:g q with
   | true=>
     simp only[hg,if_true,List.map_cons]
     rw[xI g r (i+1)]
     rfl
   | false=>
     simp only[hg,Bool.false_eq_true,if_false]
     exact xI g r (i+1)
theorem aQG(M:aC)(hw:M.WF)(b:Nat)(m:List iK)(hg:M.get b=some (.map (mK m)))(hnd:(m.map (·.1)).Nodup)(hone:∀ q∈m,q.2.d.one=true)(q0:Nat)(bk:Int){rw':Bool}(hq:M.get q0=some (.cells [i64 bk] rw')):
 aB tb.P 133 [.map b,.fn 134 [] [.ptr q0 0]] M fun y N=>y= .tup []∧N.get b=some (.map (mK (m.filter fun q=> !(q.1.1==bk))))∧aD M N [b]:=by
 have hT:=aA2 m 0
 have hbM:=hw _ _ hg
 have hqM:=hw _ _ hq
 have hqb:q0≠b:=fun e=>by rw[e,hg] at hq;cases hq
 refine aO4 M b (mK m) hg _ (J:=fun rem cur m'=>∃ rem':List (Nat×iK),rem=rem'.map conv∧rem'.Sublist (nI 0 m)∧cur=((nI 0 m).filter (stay bk rem')).map conv∧m'.WF∧M.next≤m'.next∧m'.get b=none∧∀ c,c<M.next→c≠b→m'.get c=M.get c) ?_ ?_ ?_
 ·refine⟨nI 0 m,wS m 0,List.Sublist.refl _,?_,fun c r hc=>?_,Nat.le_succ _,?_,fun c hc hcb=>?_⟩
  ·rw[wS m 0]
   congr 1
   rw[eq_comm,List.filter_eq_self]
   intro x hx
   unfold stay
   rw[Bool.or_eq_true]
   exact .inl (List.any_eq_true.2 ⟨x,hx,by simp⟩)
  ·have hc:(M.kill b).get c=some r:=hc
   rw[aC.get_kill] at hc
   split at hc
   ·cases hc
   ·have:=hw c r hc;show c<M.next+1;omega
  ·show (M.kill b).get b=none
   rw[aC.get_kill,if_pos rfl]
  ·show (M.kill b).get c=_
   rw[aC.get_kill,if_neg hcb]
 ·rintro cur m' ⟨rem',hr,hs,rfl,hwm,hnm,hbn,hold⟩
  have hr0:rem'=[]:=List.map_eq_nil_iff.1 hr.symm
  subst hr0
  refine⟨rfl,?_,⟨hwm.put (by omega) _,hnm,fun c hc hcb=>?_⟩⟩
  ·rw[aC.get_put,if_pos rfl]
   congr 2
   exact xI (fun q=> !(q.1.1==bk)) m 0
  ·have hcb:c≠b:=by simpa using hcb
   rw[aC.get_put,if_neg hcb]
   exact hold c hc hcb
 ·rintro rem cur m' ⟨rem',rfl,hs,rfl,hwm,hnm,hbn,hold⟩ i e hi
  rw[List.getElem?_map] at hi
  obtain⟨e',hi',rfl⟩:=Option.map_eq_some_iff.1 hi
  have heT:e'∈nI 0 m:=hs.subset (List.mem_of_getElem? hi')
  have hem:e'.2∈m:=by
   have h0:e'.2∈(nI 0 m).map (·.2):=List.mem_map.2 ⟨e',heT,rfl⟩
   rw[aBd] at h0
   exact h0
  unfold D92
  simp only
  refine bE fun M8 hM8=>?_
  refine bE fun M9 hM9=>?_
  have k8:aD m' M8 []:=by rw[hM8];exact aD.new hwm _
  have k9:aD M8 M9 []:=by rw[hM9];exact aD.new k8.wf _
  have g8:M8.get m'.next=some (.cells [i64 0,i64 0] true):=by rw[hM8];exact get_new _ _
  have g9:=k9.get k8.wf g8 (by simp)
  have n8:M8.next=m'.next+1:=by rw[hM8];rfl
  have h9:M9.get M8.next=some (.cells [i64 0,i64 0,i64 0,i64 0,.val (.slice none 0 0)] true):=by rw[hM9];exact get_new _ _
  have n9:M9.next=M8.next+1:=by rw[hM9];rfl
  have k79:=k8.trans0 k9
  clear hM8 hM9
  refine aG (fR _ _ g9 rfl) ?_
  have k10:aD m' (M9.put m'.next (.cells [i64 e'.2.1.1,i64 e'.2.1.2] true)) []:=xD k79 (Nat.le_refl _) (by omega) _
  have g10:(M9.put m'.next (.cells [i64 e'.2.1.1,i64 e'.2.1.2] true)).get m'.next=some (.cells [i64 e'.2.1.1,i64 e'.2.1.2] true):=by rw[aC.get_put,if_pos rfl]
  have h10:(M9.put m'.next (.cells [i64 e'.2.1.1,i64 e'.2.1.2] true)).get M8.next=some (.cells [i64 0,i64 0,i64 0,i64 0,.val (.slice none 0 0)] true):=by rw[aC.get_put,if_neg (by omega)];exact h9
  have n10:(M9.put m'.next (.cells [i64 e'.2.1.1,i64 e'.2.1.2] true)).next=M9.next:=rfl
  revert k10 g10 h10 n10
  generalize M9.put m'.next (.cells [i64 e'.2.1.1,i64 e'.2.1.2] true)=M10
  intro k10 g10 h10 n10
  refine aG (aJm e'.2.2 (hone _ hem) h10 rfl) ?_
  have k11:aD m' (M10.put M8.next (.cells (pgC e'.2.2) true)) []:=xD k10 (by omega) (by omega) _
  have g11:(M10.put M8.next (.cells (pgC e'.2.2) true)).get m'.next=some (.cells [i64 e'.2.1.1,i64 e'.2.1.2] true):=by rw[aC.get_put,if_neg (by omega)];exact g10
  have h11:(M10.put M8.next (.cells (pgC e'.2.2) true)).get M8.next=some (.cells (pgC e'.2.2) true):=by rw[aC.get_put,if_pos rfl]
  revert k11 g11 h11
  generalize M10.put M8.next (.cells (pgC e'.2.2) true)=M11
  intro k11 g11 h11
  refine aG (aS (eC (n:=2) pR rfl rfl g11 (by simp))) ?_
  refine⟨_,_,rfl,?_⟩
  refine aG (aS (eC (n:=5) aES rfl rfl h11 (by simp[pgC]))) ?_
  refine⟨_,_,_,_,_,rfl,?_⟩
  refine zN aQz ?_
  have hq11:M11.get q0=some (.cells [i64 bk] rw'):=k11.get hwm (by rw[hold q0 hqM hqb];exact hq) (by simp)
  refine (aJS M11 k11.wf e'.2.1.1 e'.2.1.2 bk e'.2.2 q0 hq11).mono ?_
  rintro y21 M22 ⟨rfl,k22⟩
  simp only[cO]
  have k2:=k11.trans0 k22
  have hJm:M22.WF∧M.next≤M22.next∧M22.get b=none∧∀ c,c<M.next→c≠b→M22.get c=M.get c:=⟨k2.wf,Nat.le_trans hnm k2.nxt,by rw[k2.old b (by omega) (by simp)];exact hbn,fun c hc hcb=>by rw[k2.old c (by omega) (by simp)];exact hold c hc hcb⟩
  refine aT (fun hd=>?_) (fun hd=>?_)
  ·have g22:=k22.get k11.wf g11 (by simp)
   refine aG (aS (eC (n:=2) pR rfl rfl g22 (by simp))) ?_
   refine⟨_,_,rfl,by trivial,qK _ _,?_⟩
   have hst:stay bk rem' e'=true:=by
    unfold stay
    rw[Bool.or_eq_true]
    exact .inl (List.any_eq_true.2 ⟨e',List.mem_of_getElem? hi',by simp⟩)
   obtain⟨j,hj⟩:=List.getElem?_of_mem (List.mem_filter.2 ⟨heT,hst⟩)
   have hl:(((nI 0 m).filter (stay bk rem')).map conv).map (fun q:Nat×AV×AV=>q.2)=mK (((nI 0 m).filter (stay bk rem')).map (·.2)):=by
    unfold mK
    rw[List.map_map,List.map_map]
    rfl
   have hkn:((((nI 0 m).filter (stay bk rem')).map (·.2)).map (·.1)).Nodup:=by
    refine hnd.sublist ?_
    conv=>rhs;rw[← aBd m 0]
    exact (List.filter_sublist.map _).map _
   have hfind:=aBe e'.2.1.1 e'.2.1.2 (((nI 0 m).filter (stay bk rem')).map (·.2)) 0 j e'.2 (by rw[List.getElem?_map,hj];rfl) rfl (fun i2 q2 hi2 hq2 he2=>by
    have h1:((((nI 0 m).filter (stay bk rem')).map (·.2)).map (·.1))[i2]? =some e'.2.1:=by rw[List.getElem?_map,hq2];show some q2.1=_;rw[he2]
    have h2:((((nI 0 m).filter (stay bk rem')).map (·.2)).map (·.1))[j]? =some e'.2.1:=by rw[List.getElem?_map,List.getElem?_map,hj];rfl
    obtain⟨l2,e2⟩:=List.getElem?_eq_some_iff.1 h1
    obtain⟨l3,e3⟩:=List.getElem?_eq_some_iff.1 h2
    have:=(List.getElem_inj hkn (h₀:=l2) (h₁:=l3)).1 (e2.trans e3.symm)
    omega)
   rw[Nat.zero_add] at hfind
   refine⟨j,_,_,conv e',by have h0:=hfind;rw[← hl] at h0;exact h0,by rw[List.getElem?_map,hj];rfl,rfl,rem'.eraseIdx i,(gE conv rem' i).symm,(List.eraseIdx_sublist _ _).trans hs,?_,hJm⟩
   rw[← gE,aJx hT hs hi' hd hj]
  ·refine⟨rem'.eraseIdx i,(gE conv rem' i).symm,(List.eraseIdx_sublist _ _).trans hs,?_,hJm⟩
   rw[aNH hT hs hi' hd]
theorem aR8(M:aC)(hw:M.WF)(x:AV)(l:List (BitVec 8))(n:Int)(size:Nat)(hx:Gr M x l)(hs:size≤8)(hl:l.length≤900000):
 aB tb.P 195 [x,i64 n,i64 size] M fun y N=>Gr N y (l++be n size)∧eZ M N x y:=by
 refine aM1 ?_
 unfold F195
 simp only[i64,aJ]
 exact aPu M hw x l n size hx hs hl
theorem aRt(M:aC)(hw:M.WF)(x:AV)(d:List (BitVec 8))(k p s e:Int)(hx:aI M x d)(hl:d.length≤1000000):
 aB tb.P 176 [x,aBv k p s e] M (aGt M d k p s e):=by
 refine aLM ?_
 unfold F176
 refine⟨k,p,s,e,rfl,?_⟩
 refine bE fun M5 hM5=>?_
 have hM5':M5=M.new (.cells [i64 k,i64 p,i64 s,i64 e] true):=hM5
 clear hM5
 have hw5:M5.WF:=by rw[hM5'];exact hw.new _
 have hk5:aD M M5 []:=by rw[hM5'];exact aD.new hw _
 have hg5:M5.get M.next=some (.cells [i64 k,i64 p,i64 s,i64 e] true):=by rw[hM5',aC.get_new,if_pos rfl]
 have hn5:M.next<M5.next:=hw5 _ _ hg5
 clear hM5'
 refine bE fun K hK=>?_
 have hx5:aI M5 x d:=aO.keep0 hx hw hk5
 refine aG (iO hx5.len) ?_
 simp only[aJ]
 refine (aH9 M5 (d.length:Int) 24 64).mono ?_
 rintro y N ⟨rfl,rfl⟩
 simp only[cO]
 have bad:∀ N',aD N N' []→wD d k p s e=false→K true N':=by
  intro N' hk hno
  rw[hK]
  exact⟨hk5.trans0 hk,.inr ⟨hno,rfl⟩⟩
 refine aT (fun h=>bad N (aD.refl hw5) ?_) (fun h=>?_)
 ·unfold wD
  have:¬ (24≤d.length∧d.length≤64):=by
   simp only[Bool.not_eq_true',Bool.and_eq_false_iff,decide_eq_false_iff_not] at h
   omega
  rw[decide_eq_false this];rfl
 have hlen:24≤d.length∧d.length≤64:=by
  simp only[Bool.not_eq_false',Bool.and_eq_true,decide_eq_true_eq] at h
  omega
 obtain⟨l0,l1,l2,l3,la⟩:=hU hg5
 refine aG (aS la) ?_
 refine⟨k,p,s,e,rfl,?_⟩
 refine (aOz N hw5 k p s e).mono ?_
 rintro y N2 ⟨rfl,hk2⟩
 simp only[cO]
 cases hm:nD k p s e with
 | false=>exact bad N2 hk2 (by unfold wD;rw[hm];simp)
 | true=>
   have hok:wD d k p s e=true:=by unfold wD;rw[hm];simp[hlen]
   rw[hK]
   simp only[Bool.not_true,fG]
   have hg2:N2.get M.next=some (.cells [i64 k,i64 p,i64 s,i64 e] true):=hk2.get hw5 hg5 (by simp)
   have hx2:aI N2 x d:=aO.keep0 hx5 hw5 hk2
   refine bE fun N3 hN3=>?_
   have hw3:N3.WF:=by rw[hN3];intro b r hb;have:=hk2.wf b r hb;show b<N2.next+1;omega
   have hg3:N3.get M.next=some (.cells [i64 k,i64 p,i64 s,i64 e] true):=by rw[hN3];exact hg2
   have hx3:aI N3 x d:=aO.rows hx2 (by rw[hN3])
   have hn3:N3.next=N2.next+1:=by rw[hN3]
   have hget3:∀ c,N3.get c=N2.get c:=fun c=>by rw[hN3];rfl
   obtain⟨q0,_⟩:=hU hg3
   refine aG (aS q0) ?_
   simp only[i64,aJ]
   refine (nN N3 hw3 x d hx3 (by omega) hl).mono ?_
   rintro u N4 ⟨hu,hk4,hf4⟩
   have hg4:N4.get M.next=some (.cells [i64 k,i64 p,i64 s,i64 e] true):=hk4.get hw3 hg3 (by simp)
   obtain⟨q4,_⟩:=hU hg4
   refine⟨aG (aS q4) rfl,?_⟩
   refine bE fun N5 hN5=>?_
   simp only[tA] at hN5
   have hN5':N5=N4.put N2.next (.cells [rZ 74#8,rZ (BitVec.ofInt 8 k)] true):=hN5
   clear hN5
   have hn2:M.next<N2.next:=hk2.wf _ _ hg2
   have hn4:N2.next<N4.next:=by have:=hk4.nxt;omega
   have hw5':N5.WF:=by rw[hN5'];exact hk4.wf.put hn4 _
   have hu5:Gr N5 u d:=hu.mono fun c r hc hr=>by
    have:=hf4 c hc
    rw[hN5',aC.get_put,if_neg (by omega)];exact hr
   have hs5:aI N5 (.sl N2.next 0 2 2 none) [74#8,BitVec.ofInt 8 k]:=aP4 (by rw[hN5',aC.get_put,if_pos rfl])
   obtain⟨u6,N6,a1,a2,a3,_⟩:=Gr.grow hw5' hu5 hs5 (by simp) (by simp;omega)
   refine aG a1 ?_
   have hL5:aEk M N5 (.cells [i64 k,i64 p,i64 s,i64 e] true) u d:=
    ⟨hu5,hw5',by rw[hN5',aC.get_put,if_neg (by omega)];exact hg4,fun c hc=>by have:=hf4 c hc;omega,⟨hw5',by
     have h1:=hk5.nxt;have h2:=hk2.nxt;have h3:=hk4.nxt
     have:N5.next=N4.next:=by rw[hN5'];rfl
     omega,fun c hc _=>by
     have h1:=hk5.nxt;have h2:=hk2.nxt
     rw[hN5',aC.get_put,if_neg (by omega),hk4.old c (by omega) (by simp),hget3,hk2.old c (by omega) (by simp),hk5.old c hc (by simp)]⟩⟩
   exact aJR (P:=tb.P) (f4:=195) (fs:=161) M k p s e d hlen.2 u6 N6 (hL5.step a3 a2) hok (fun M hw x l n size h1 h2 h3=>aR8 M hw x l n size h1 h2 h3) (fun M x l h1 h2=>aKe M x l h1 h2)
end Go.Proofs.YteaogiidncpofaaGreat
