import Derived.Test.YteaogiidncpofaaGreatA37
set_option linter.unusedSimpArgs false
set_option linter.unusedVariables false
set_option linter.unusedSectionVars false
noncomputable section
namespace Go.AM
def aC.WF(M:aC):Prop:=∀ b r,M.get b=some r→b<M.next
theorem aC.WF.new{M:aC}(h:M.WF)(r:hY):(M.new r).WF:=fun b r' hb=>by
 rw[aC.get_new] at hb
 by_cases he:b=M.next
 ·subst he;simp
 ·rw[if_neg he] at hb;have:=h b r' hb;simp;omega
theorem aC.WF.put{M:aC}(h:M.WF){b:Nat}(hb:b<M.next)(r:hY):(M.put b r).WF:=fun c r' hc=>by
 rw[aC.get_put] at hc
 by_cases he:c=b
 ·subst he;exact hb
 ·rw[if_neg he] at hc;exact h c r' hc
theorem aC.WF.kill{M:aC}(h:M.WF)(b:Nat):(M.kill b).WF:=fun c r' hc=>by
 rw[aC.get_kill] at hc
 by_cases he:c=b
 ·rw[if_pos he] at hc;cases hc
 ·rw[if_neg he] at hc;exact h c r' hc
structure aD (M N:aC) (S:List Nat):Prop where
 wf:N.WF
 nxt:M.next≤N.next
 old:∀ b,b<M.next→b∉S→N.get b=M.get b
theorem aD.refl{M:aC}(h:M.WF){S:List Nat}:aD M M S:=⟨h,Nat.le_refl _,fun _ _ _=>rfl⟩
theorem aD.trans{M N P:aC}{S S' R:List Nat}(h:aD M N S)(k:aD N P S')(hs:∀ b∈S,b<M.next→b∈R)(hs':∀ b∈S',b<M.next→b∈R):aD M P R:=
 ⟨k.wf,Nat.le_trans h.nxt k.nxt,fun b hb hr=>by
  rw[k.old b (Nat.lt_of_lt_of_le hb h.nxt) (fun hm=>hr (hs' b hm hb)),h.old b hb (fun hm=>hr (hs b hm hb))]⟩
theorem aD.trans0{M N P:aC}(h:aD M N [])(k:aD N P []):aD M P []:=h.trans k (by simp) (by simp)
theorem aD.get{M N:aC}{S:List Nat}(h:aD M N S)(hw:M.WF){b:Nat}{r:hY}(hg:M.get b=some r)(hs:b∉S):N.get b=some r:=by rw[h.old b (hw b r hg) hs];exact hg
theorem aD.new{M:aC}(h:M.WF)(r:hY):aD M (M.new r) []:=⟨h.new r,by simp,fun b hb _=>by rw[aC.get_new,if_neg (by omega)]⟩
theorem aD.put{M:aC}(h:M.WF){b:Nat}(hb:b<M.next)(r:hY):aD M (M.put b r) [b]:=⟨h.put hb r,by simp,fun c _ hc=>by rw[aC.get_put,if_neg (by simpa using hc)]⟩
theorem aD.mono{M N:aC}{S S':List Nat}(h:aD M N S)(hs:∀ b∈S,b<M.next→b∈S'):aD M N S':=⟨h.wf,h.nxt,fun b hb hn=>h.old b hb fun hm=>hn (hs b hm hb)⟩
def aO(k:Nat)(M:aC)(x:AV)(n:Nat)(vs:List AV):Prop:=
 vs.length=n*k∧((x= .val (.slice none 0 0)∧n=0)∨∃ b o c ex,x= .sl b o n c ex∧(n≤c∧(ex=none∨ex=some k))∧(n=0∨∃ cs rw,M.get b=some (.cells cs rw)∧o+n*k≤cs.length∧(cs.drop o).take (n*k)=vs))
def aN(x:AV)(b:Nat):Prop:=match x with
 | .sl c _ n _ _=>n≠0∧c=b
 | _=>False
theorem aO.mono{k:Nat}{M N:aC}{x:AV}{n:Nat}{vs:List AV}(h:aO k M x n vs)(hN:∀ b r,aN x b→M.get b=some r→N.get b=some r):aO k N x n vs:=by
 refine⟨h.1,h.2.imp id ?_⟩
 rintro⟨b,o,c,ex,rfl,h1,h2⟩
 refine⟨b,o,c,ex,rfl,h1,?_⟩
 by_cases hn:n=0
 ·exact .inl hn
 ·exact h2.imp id fun⟨cs,rw',g1,g2⟩=>⟨cs,rw',hN b _ ⟨hn,rfl⟩ g1,g2⟩
theorem aO.keep{k:Nat}{M N:aC}{x:AV}{n:Nat}{vs:List AV}{S:List Nat}(h:aO k M x n vs)(hw:M.WF)(hk:aD M N S)(hs:∀ b,aN x b→b∉S):aO k N x n vs:=
 h.mono fun b _ hb hg=>hk.get hw hg (hs b hb)
theorem aO.keep0{k:Nat}{M N:aC}{x:AV}{n:Nat}{vs:List AV}(h:aO k M x n vs)(hw:M.WF)(hk:aD M N []):aO k N x n vs:=h.keep hw hk (by simp)
theorem aO.rows{k:Nat}{M N:aC}{x:AV}{n:Nat}{vs:List AV}(h:aO k M x n vs)(hr:N.rows=M.rows):aO k N x n vs:=h.mono fun b r _ hg=>by
 unfold aC.get at hg ⊢;rw[hr];exact hg
theorem aO.blk_lt{k:Nat}{M:aC}{x:AV}{n:Nat}{vs:List AV}(h:aO k M x n vs)(hw:M.WF){b:Nat}(hb:aN x b):b<M.next:=by
 rcases h.2 with⟨rfl,_⟩|⟨c,o,cp,ex,rfl,_,h2⟩
 ·exact hb.elim
 ·obtain⟨hn,rfl⟩:=hb
  rcases h2 with h2|⟨cs,rw',g1,_⟩
  ·exact absurd h2 hn
  ·exact hw _ _ g1
theorem aO.nil{k:Nat}{M:aC}:aO k M (.val (.slice none 0 0)) 0 []:=⟨by simp,.inl ⟨rfl,rfl⟩⟩
theorem AM.beq_self(n:Nat):Nat.beq n n=true:=by simp
theorem beq_ne{a b:Nat}(h:a≠b):Nat.beq a b=false:=by
 cases hb:Nat.beq a b with
 | true=>exact absurd (Nat.eq_of_beq_eq_true hb) h
 | false=>rfl
theorem ble_of{a b:Nat}(h:a≤b):Nat.ble a b=true:=by simpa using h
theorem tU{a b:Nat}(h:¬ a≤b):Nat.ble a b=false:=by
 cases hb:Nat.ble a b with
 | true=>exact absurd (Nat.le_of_ble_eq_true hb) h
 | false=>rfl
theorem blt_of{a b:Nat}(h:a<b):Nat.blt a b=true:=by simpa using h
section
variable {T:bQ} {t e:TypeId} {ti te:TI} {k:Nat} {M:aC} {x:AV} {n:Nat} {vs:List AV}
theorem aO.len(h:aO k M x n vs)(ht:T.ty.get t=some ti)(hk:ti.k= .sli e){M':aC}:bD T false t x M'=some n:=by
 unfold bD
 rw[ht]
 simp only[hk]
 rcases h.2 with⟨rfl,rfl⟩|⟨b,o,c,ex,rfl,_⟩
 ·rfl
 ·rfl
theorem aO.evLen(h:aO k M x n vs):evLen x=some n:=by
 rcases h.2 with⟨rfl,rfl⟩|⟨b,o,c,ex,rfl,_⟩
 ·rfl
 ·rfl
theorem aO.evFirst(h:aO k M x n vs):evFirst k n x M=some vs:=by
 rcases h.2 with⟨rfl,rfl⟩|⟨b,o,c,ex,rfl,h1,h2⟩
 ·have:vs=[]:=List.eq_nil_of_length_eq_zero (by rw[h.1];simp)
  subst this;rfl
 ·unfold AM.evFirst
  simp only[ble_of (Nat.le_refl n),cond_true]
  by_cases hn:n=0
  ·subst hn
   have:vs=[]:=List.eq_nil_of_length_eq_zero (by rw[h.1];simp)
   subst this;rfl
  ·rw[beq_ne hn,cond_false]
   rcases h2 with h2|⟨cs,rw',g1,g2,g3⟩
   ·exact absurd h2 hn
   ·unfold aC.cellsAt
    rw[g1]
    simp only[ble_of g2,cond_true,g3]
theorem aO.at(h:aO k M x n vs)(ht:T.ty.get t=some ti)(hk:ti.k= .sli e)(he:T.ty.get e=some te)(hs:te.size=k){i:Nat}(hi:i<n){k':IntKind}:
 ∃ b o,bJ T t x (.val (.int k' (i:Int)))=some (.ptr b o)∧aN x b∧(∀ j,j<k→M.cellAt b (o+j)=vs[i*k+j]?)∧M.cellsAt b o k=some ((vs.drop (i*k)).take k):=by
 rcases h.2 with⟨rfl,rfl⟩|⟨b,o,c,ex,rfl,h1,h2⟩
 ·omega
 ·rcases h2 with h2|⟨cs,rw',g1,g2,g3⟩
  ·omega
  ·have hik:i*k+k≤n*k:=by
    have:(i+1)*k≤n*k:=Nat.mul_le_mul_right k hi
    rw[Nat.add_mul,Nat.one_mul] at this;exact this
   refine⟨b,o+i*k,?_,⟨by omega,rfl⟩,fun j hj=>?_,?_⟩
   ·unfold bJ
    rw[ht]
    simp only[hk,he,Int.toNat_natCast,hs]
    have h0:decide (0≤(i:Int))=true:=by simp
    simp only[h0,blt_of hi,cond_true]
   ·unfold aC.cellAt
    rw[g1]
    simp only
    rw[← g3,List.getElem?_take,if_pos (by omega),List.getElem?_drop,Nat.add_assoc]
   ·unfold aC.cellsAt
    rw[g1]
    simp only[ble_of (show o+i*k+k≤cs.length by omega),cond_true]
    congr 1
    rw[← g3,List.drop_take,List.take_take,List.drop_drop]
    rw[Nat.min_eq_left (by omega)]
theorem aO.slice(h:aO k M x n vs)(ht:T.ty.get t=some ti)(hk:ti.k= .sli e)(he:T.ty.get e=some te)(hs:te.size=k){lo hi:Option AV}{l r:Nat}{k1 k2:IntKind}
 (hlo:(lo=none∧l=0)∨lo=some (.val (.int k1 (l:Int)))) (hhi:(hi=none∧r=n)∨hi=some (.val (.int k2 (r:Int)))) (hlr:l≤r) (hrn:r≤n):
 ∃ y,dN T t x lo hi none=some y∧aO k M y (r-l) ((vs.drop (l*k)).take ((r-l)*k))∧∀ b,aN y b→aN x b:=by
 have hbl:∀ {c:Nat},n≤c→sliceB n c lo hi none=some (l,r,c):=fun {c} hnc=>by
  have b1:aDc (.val (.int k2 (r:Int))) c=some r:=oH (by omega)
  have b2:aDc (.val (.int k1 (l:Int))) r=some l:=oH hlr
  rcases hlo with⟨rfl,rfl⟩|rfl <;> rcases hhi with⟨rfl,rfl⟩|rfl <;> simp only[sliceB,b1,b2]
 have hlen:((vs.drop (l*k)).take ((r-l)*k)).length=(r-l)*k:=by
  rw[List.length_take,List.length_drop,h.1,Nat.sub_mul]
  have:r*k≤n*k:=Nat.mul_le_mul_right k hrn
  omega
 unfold dN pH
 rw[ht]
 simp only[hk]
 rcases h.2 with⟨rfl,rfl⟩|⟨b,o,c,ex,rfl,h1,h2⟩
 ·have hr0:r=0:=by omega
  have hl0:l=0:=by omega
  subst hr0 hl0
  refine⟨.val (.slice none 0 0),?_,⟨hlen,.inl ⟨rfl,rfl⟩⟩,fun b hb=>hb.elim⟩
  simp only[he,hbl (Nat.le_refl 0)]
 ·have key:∀ o' ex',(r-l=0∨o'=o+l*k)→(ex'=none∨ex'=some k)→aO k M (.sl b o' (r-l) (c-l) ex') (r-l) ((vs.drop (l*k)).take ((r-l)*k)):=fun o' ex' ho hex=>by
   refine⟨hlen,.inr ⟨b,o',c-l,ex',rfl,⟨by omega,hex⟩,?_⟩⟩
   by_cases h0:r-l=0
   ·exact .inl h0
   ·right
    have ho:=ho.resolve_left h0
    subst ho
    rcases h2 with h2|⟨cs,rw',g1,g2,g3⟩
    ·omega
    ·have h3:l*k+(r-l)*k≤n*k:=by
      rw[← Nat.add_mul,show l+(r-l)=r by omega]
      exact Nat.mul_le_mul_right k hrn
     refine⟨cs,rw',g1,by omega,?_⟩
     rw[← g3,List.drop_take,List.take_take,List.drop_drop,Nat.min_eq_left (by omega)]
  have hin:∀ o' ex' q,aN (.sl b o' (r-l) (c-l) ex') q→aN (.sl b o n c ex) q:=fun o' ex' q hq=>⟨by have:=hq.1;omega,hq.2⟩
  rcases h1.2 with rfl|rfl
  ·simp only[he,hbl h1.1,hs]
   refine⟨_,rfl,key _ _ ?_ (.inl rfl),hin _ _⟩
   by_cases hc:c=l
   ·left;omega
   ·right;rw[beq_ne hc,cond_false]
  ·simp only[he,hbl h1.1,hs,AM.beq_self,cond_true,ble_of (show r≤c by omega)]
   exact⟨_,rfl,key _ _ (.inr rfl) (.inr rfl),hin _ _⟩
def oL(k:Nat)(M:aC)(x:AV)(n:Nat)(vs:List AV)(b:Nat):Prop:=
 x= .sl b 0 n n (some k)∧0<n∧vs.length=n*k∧M.get b=some (.cells vs true)
theorem oL.at{b:Nat}(h:oL k M x n vs b):aO k M x n vs:=
 ⟨h.2.2.1,.inr ⟨b,0,n,some k,h.1,⟨Nat.le_refl _,.inr rfl⟩,.inr ⟨vs,true,h.2.2.2,by rw[h.2.2.1];omega,by rw[List.drop_zero,← h.2.2.1,List.take_length]⟩⟩⟩
theorem rJ{l:List AV}(h:∀ v∈l,v.one=true):aC2 l=true:=by
 induction l with
 | nil=>rfl
 | cons v l ih=>
   unfold aC2
   rw[h v (by simp),cond_true]
   exact ih fun u hu=>h u (by simp[hu])
theorem append_nil(ht:T.ty.get t=some ti)(hk:ti.k= .sli e)(he:T.ty.get e=some te)(hs:te.size=k){y:AV}{m:Nat}{us:List AV}(hy:aO k M y m us)(hm:0<m)
 (hroom:(3*m+4096)*te.bytes≤281474976710656∧m≤1152921504606846976):
 ∃ N,aR T t t (.val (.slice none 0 0)) y M=some (.sl M.next 0 m m (some k),N)∧N=M.new (.cells us true):=by
 refine⟨_,?_,rfl⟩
 unfold aR oQ
 rw[ht]
 simp only[hk,he,hy.evLen,hs,hy.evFirst,hy.1,AM.beq_self,cond_true,Nat.zero_add,tU (show ¬ m≤0 by omega),cond_false]
 unfold iX sL
 simp only[Nat.zero_add,ble_of hroom.1,ble_of hroom.2,cond_true]
 simp[AM.evFirst]
theorem iC(ht:T.ty.get t=some ti)(hk:ti.k= .sli e)(he:T.ty.get e=some te)(hs:te.size=k){b:Nat}(hx:oL k M x n vs b){y:AV}{m:Nat}{us:List AV}(hy:aO k M y m us)(hm:0<m)
 (hone:∀ v∈us,v.one=true) (hroom:(3*(n+m)+4096)*te.bytes≤281474976710656∧n+m≤1152921504606846976):
 ∃ N,aR T t t x y M=some (.sl M.next 0 (n+m) (n+m) (some k),N)∧N=(M.kill b).new (.cells (vs++us) true):=by
 refine⟨_,?_,rfl⟩
 obtain⟨rfl,hn,hvl,hg⟩:=hx
 have hfirst:AM.evFirst k n (.sl b 0 n n (some k)) M=some vs:=aO.evFirst (oL.at ⟨rfl,hn,hvl,hg⟩)
 unfold aR oQ
 rw[ht]
 simp only[hk,he,hy.evLen,hs,hy.evFirst,hy.1,AM.beq_self,cond_true,tU (show ¬ n+m≤n by omega),cond_false]
 unfold iX sL
 simp only[ble_of hroom.1,ble_of hroom.2,cond_true,hfirst,hvl,AM.beq_self,hg,rJ hone,aKa]
theorem yJ(ht:T.ty.get t=some ti)(hk:ti.k= .sli e)(he:T.ty.get e=some te)(hs:te.size=k)(hx:aO k M x n vs){y:AV}{us:List AV}(hy:aO k M y 0 us):
 aR T t t x y M=some (x,M):=by
 unfold aR oQ
 rw[ht]
 simp only[hk,he,hy.evLen,hs,hy.evFirst,hy.1,AM.beq_self,cond_true,Nat.add_zero]
 rcases hx.2 with⟨rfl,rfl⟩|⟨b,o,c,ex,rfl,h1,h2⟩
 ·rfl
 ·simp only[ble_of h1.1,AM.beq_self,cond_true]
theorem rN{α:Type}:∀ (us pre post:List α),∀ old:List α,old.length=us.length→setAt (pre++old++post) pre.length us=pre++us++post
 | [],pre,post,old,h=>by
   have:old=[]:=List.eq_nil_of_length_eq_zero (by simpa using h)
   subst this;simp[fA]
 | u::us,pre,post,[],h=>by simp at h
 | u::us,pre,post,o::old,h=>by
   simp only[eU]
   have e:(pre++o::old++post).set pre.length u=(pre++[u])++old++post:=by
    rw[List.append_assoc,List.set_append_right (h:=Nat.le_refl _),Nat.sub_self]
    simp
   have:=rN us (pre++[u]) post old (by simpa using h)
   rw[List.length_append,List.length_singleton] at this
   rw[e,this]
   simp
theorem oD{α:Type}(z:α):∀ n,repA n [z]=List.replicate n z:=aDO z
theorem aCu(ht:T.ty.get t=some ti)(hk:ti.k= .sli e)(he:T.ty.get e=some te){l c:Nat}(hlc:l≤c)(hb:te.bytes*c≤281474976710656)(hc:c<4611686018427387904){k1 k2:IntKind}:
 cU T t (.val (.int k1 (l:Int))) (.val (.int k2 (c:Int))) M=some (.sl M.next 0 l c none,M.new (.cells (repA c (ofVs te.zero)) true)):=by
 unfold cU
 rw[ht]
 have h1:decide (0≤(l:Int))=true:=by simp
 have h2:decide ((l:Int)≤(c:Int))=true:=by simpa using hlc
 have h3:decide ((te.bytes:Int)*(c:Int)≤281474976710656)=true:=by
  rw[decide_eq_true_eq]
  have:((te.bytes*c:Nat):Int)≤281474976710656:=by omega
  simpa using this
 have h4:decide ((c:Int)<4611686018427387904)=true:=by
  rw[decide_eq_true_eq];omega
 simp only[hk,he,h1,h2,h3,h4,cond_true,Int.toNat_natCast]
end
open Go.ChangeShapes Go.WideShapes Go.RowKit
theorem aJe(W:World):(aBF W).WF:=fun b r h=>by
 rw[vY] at h
 obtain⟨o,h1,_⟩:=Option.bind_eq_some_iff.1 h
 exact (Array.getElem?_eq_some_iff.1 h1).1
theorem aRS{n:Nat}{z:Int}(h0:0≤z)(h:z<2^n):∃ b:BitVec n,z=(b.toNat:Int):=by
 refine⟨BitVec.ofNat n z.toNat,?_⟩
 rw[BitVec.toNat_ofNat,Nat.mod_eq_of_lt]
 ·omega
 ·have:(z.toNat:Int)<((2^n:Nat):Int):=by rw[Int.toNat_of_nonneg h0];simpa using h
  exact Int.ofNat_lt.1 this
section
variable {H:Type} {enc:TypeId×Value→H} {P:Program} {W:World} {base:Nat} {t:TypeId} {v:Value} {d:DataW H} {ps:List MemPlace}
theorem aDU{u:TypeId}{k:IntKind}(ht:P.underlying u=some (.int k))(h:Cell.okWide P W .any base u v):∃ z,v= .int k z∧k.min≤z∧z≤k.max:=by
 unfold Cell.okWide at h
 rw[ht] at h
 cases v <;> simp only[Cell.ok,ht] at h <;> try exact h.elim
 obtain⟨rfl,h⟩:=h
 exact⟨_,rfl,h.1,h.2⟩
theorem aGE{k:IntKind}(ht:P.underlying t=some (.int k))(hval:Value.okWide P W .any base t v):∃ z,v= .int k z∧k.min≤z∧z≤k.max:=by
 unfold Value.okWide at hval
 rw[ht] at hval
 exact aDU ht hval
theorem aRj{k:IntKind}{n:Nat}(hk:k.min=0)(hk2:k.max<2^n)(ht:P.underlying t=some (.int k))(hval:Value.okWide P W .any base t v):∃ b:BitVec n,v= .int k (b.toNat:Int):=by
 obtain⟨z,rfl,h1,h2⟩:=aGE ht hval
 obtain⟨b,hb⟩:=aRS (n:=n) (z:=z) (by omega) (by omega)
 exact⟨b,by rw[hb]⟩
def aPz:Option TypeDesc→Bool
 | some (.struct _)=>true
 | _=>false
theorem aLu{ts:List TypeId}(hs:aPz (P.underlying t)=true)(hts:P.cellTypes P.depth t=some ts)(hc:P.cellsOf t=ts.length)(hval:Value.okWide P W .any base t v):
 ∃ cs:List Value,v= .agg ⟨cs⟩∧cs.length=ts.length∧∀ (i:Nat) (u:TypeId) (x:Value),ts[i]? =some u→cs[i]? =some x→Cell.okWide P W .any base u x:=by
 obtain⟨fs,hs⟩:∃ fs,P.underlying t=some (.struct fs):=by
  unfold aPz at hs
  split at hs
  ·rename_i fs hu;exact⟨fs,hu⟩
  ·cases hs
 unfold Value.okWide at hval
 rw[hs] at hval
 obtain⟨⟨cs⟩,rfl,h1,ts',h2,_,h3⟩:=hval
 rw[hts] at h2
 injection h2 with h2
 subst h2
 have hl:cs.length=ts.length:=by rw[← hc,← h1];rfl
 refine⟨cs,rfl,hl,fun i u x hu hx=>?_⟩
 obtain⟨u',g1,g2⟩:=h3 i x (by simpa using hx)
 have hi:i<ts.length:=by
  rcases Nat.lt_or_ge i ts.length with h|h
  ·exact h
  ·rw[List.getElem?_eq_none h] at hu;cases hu
 rw[Nat.mod_eq_of_lt hi,hu] at g1
 injection g1 with g1
 subst g1
 exact g2
def aLk:Option TypeDesc→Bool
 | some (.int .i64)=>true
 | _=>false
theorem aJh:∀ {d:Option TypeDesc},aLk d=true→d=some (.int .i64)
 | some (.int .i64),_=>rfl
theorem aJ2{ts:List TypeId}(hs:aPz (P.underlying t)=true)(hts:P.cellTypes P.depth t=some ts)(hc:P.cellsOf t=ts.length)(hi:ts.all (fun u=>aLk (P.underlying u))=true)
 (hval:Value.okWide P W .any base t v):∃ zs:List Int,v= .agg ⟨zs.map fun z=> .int .i64 z⟩∧zs.length=ts.length∧∀ z∈zs, -9223372036854775808≤z∧z≤9223372036854775807:=by
 obtain⟨cs,rfl,h1,h2⟩:=aLu hs hts hc hval
 have key:∀ (cs:List Value) (ts:List TypeId),cs.length=ts.length→ts.all (fun u=>aLk (P.underlying u))=true→(∀ (i:Nat) (u:TypeId) (x:Value),ts[i]? =some u→cs[i]? =some x→Cell.okWide P W .any base u x)→
  ∃ zs:List Int,cs=(zs.map fun z=> .int .i64 z)∧zs.length=ts.length∧∀ z∈zs, -9223372036854775808≤z∧z≤9223372036854775807:=by
  intro cs
  induction cs with
  | nil=>intro ts h _ _;cases ts with
    | nil=>exact⟨[],rfl,rfl,by simp⟩
    | cons _ _=>simp at h
  | cons c cs ih=>
    intro ts h hi h2
    cases ts with
    | nil=>simp at h
    | cons u ts=>
      rw[List.all_cons,Bool.and_eq_true] at hi
      obtain⟨z,rfl,g1,g2⟩:=aDU (aJh hi.1) (h2 0 u c rfl rfl)
      obtain⟨zs,rfl,g3,g4⟩:=ih ts (by simpa using h) hi.2 (fun i u x hu hx=>h2 (i+1) u x (by simpa using hu) (by simpa using hx))
      have e1:IntKind.i64.min= -9223372036854775808:=rfl
      have e2:IntKind.i64.max=9223372036854775807:=rfl
      refine⟨z::zs,rfl,by simp[g3],fun y hy=>?_⟩
      simp only[List.mem_cons] at hy
      rcases hy with rfl|hy
      ·omega
      ·exact g4 y hy
 obtain⟨zs,rfl,g1,g2⟩:=key cs ts h1 hi h2
 exact⟨zs,rfl,g1,g2⟩
end
theorem aNN{ι:bS}{k:IntKind}(zs:List Int):VRs ι (aAk k zs) (zs.map fun z=>Value.int k z):=by
 induction zs with
 | nil=>exact .nil
 | cons z zs ih=>exact .cons _ _ _ _ (.val _ rfl) ih
theorem aQv{ι:bS}{k:IntKind}(zs:List Int):VR ι (.agg (aAk k zs)) (.agg ⟨zs.map fun z=>Value.int k z⟩):= .agg _ _ (aNN zs)
section
variable {T:bQ} {t:TypeId} {ti:TI} {M:aC} {b o:Nat} {cs:List AV} {rw':Bool}
theorem eB{v:AV}(ht:T.ty.get t=some ti)(ha:ti.isAgg=false)(hg:M.get b=some (.cells cs rw'))(hc:cs[o]? =some v):aY T t (.ptr b o) M=some v:=by
 unfold aY
 rw[ht]
 simp only[ha,cond_false]
 unfold aC.cellAt
 rw[hg]
 exact hc
theorem eC{n:Nat}(ht:T.ty.get t=some ti)(ha:ti.isAgg=true)(hn:ti.size=n)(hg:M.get b=some (.cells cs rw'))(hle:o+n≤cs.length):aY T t (.ptr b o) M=some (.agg ((cs.drop o).take n)):=by
 unfold aY
 rw[ht]
 simp only[ha,cond_true,hn]
 unfold aC.cellsAt
 rw[hg]
 simp only[ble_of hle,cond_true,Option.map_some]
theorem aF0{x:AV}{n:Nat}(ht:T.ty.get t=some ti)(hn:ti.size=n)(hx:x.cells.length=n)(hg:M.get b=some (.cells cs true))(hle:o+n≤cs.length)(hone:∀ v∈x.cells,v.one=true):
 gT T t (.ptr b o) x M=some (M.put b (.cells (setAt cs o x.cells) true)):=by
 unfold gT
 rw[ht]
 simp only[hn,hx,AM.beq_self,cond_true]
 unfold aC.storeAt
 rw[hg]
 simp only[hx,ble_of hle,cond_true,rJ hone]
theorem dK{x:AV}(ht:T.ty.get t=some ti)(hn:ti.size=1)(hx:x.one=true)(hg:M.get b=some (.cells cs true))(hle:o<cs.length):gT T t (.ptr b o) x M=some (M.put b (.cells (cs.set o x) true)):=by
 have hc:x.cells=[x]:=by cases x <;> first|rfl|(simp[AV.one] at hx)
 have:=aF0 (x:=x) (n:=1) (o:=o) ht hn (by rw[hc];rfl) hg (by omega) (by rw[hc];simpa using hx)
 rw[this,hc]
 rw[eU,fA]
theorem pP{vs:List AV}(ht:T.ty.get t=some ti)(hn:ti.size=vs.length)(hg:M.get b=some (.cells cs true))(hl:cs.length=vs.length)(hone:∀ v∈vs,v.one=true):
 gT T t (.ptr b 0) (.agg vs) M=some (M.put b (.cells vs true)):=by
 have:=aF0 (x:= .agg vs) (n:=vs.length) (o:=0) ht hn rfl hg (by omega) hone
 rw[this]
 have h2:=rN vs [] [] cs hl
 simp only[List.nil_append,List.append_nil,List.length_nil] at h2
 show some (M.put b (.cells (setAt cs 0 vs) true))=_
 rw[h2]
end
theorem zN{T:bQ}{g:FuncId}{F:Func}{first caps args:List AV}{M:aC}{K:AV→aC→Prop}(h:T.fn.get g=some F)(hc:aB T.P g (first++args++caps) M K):eD T (.fn g first caps) args M K:=by
 unfold eD
 simp only[dA]
 rw[h,eM]
 exact hc
section
variable {α:Type} {f:α→List AV} {k:Nat}
theorem cA(hf:∀ a,(f a).length=k):∀ (l:List α),(l.flatMap f).length=l.length*k
 | []=>by simp
 | a::l=>by rw[List.flatMap_cons,List.length_append,hf,cA hf l,List.length_cons,Nat.add_mul,Nat.one_mul,Nat.add_comm]
theorem aB9(hf:∀ a,(f a).length=k):∀ (l:List α) (i:Nat),(l.flatMap f).drop (i*k)=(l.drop i).flatMap f
 | l,0=>by simp
 | [],i+1=>by simp
 | a::l,i+1=>by
   rw[List.flatMap_cons,Nat.add_mul,Nat.one_mul,Nat.add_comm (i*k) k,← List.drop_drop,List.drop_left' (hf a),aB9 hf l i,List.drop_succ_cons]
theorem pI(hf:∀ a,(f a).length=k){l:List α}{i:Nat}(h:i<l.length):l.flatMap f=(l.take i).flatMap f++f l[i]++(l.drop (i+1)).flatMap f:=by
 have h1:l=l.take i++l[i]::l.drop (i+1):=by rw[List.getElem_cons_drop,List.take_append_drop]
 conv=>lhs;rw[h1]
 rw[List.flatMap_append,List.flatMap_cons,List.append_assoc]
theorem rL(hf:∀ a,(f a).length=k){l:List α}{i:Nat}(h:i<l.length):((l.flatMap f).drop (i*k)).take k=f l[i]:=by
 rw[aB9 hf,← List.getElem_cons_drop h,List.flatMap_cons,List.take_left' (hf _)]
theorem qV(hf:∀ a,(f a).length=k){l:List α}{i j:Nat}(h:i<l.length)(hj:j<k):(l.flatMap f)[i*k+j]? =(f l[i])[j]? :=by
 have hl:((l.take i).flatMap f).length=i*k:=by rw[cA hf,List.length_take,Nat.min_eq_left (by omega)]
 rw[pI hf h,List.append_assoc,List.getElem?_append_right (by omega),hl,Nat.add_sub_cancel_left,List.getElem?_append_left (by rw[hf];exact hj)]
theorem aEN(hf:∀ a,(f a).length=k){l:List α}{i j:Nat}{v:AV}{a:α}(h:i<l.length)(hj:j<k)(ha:f a=(f l[i]).set j v):(l.flatMap f).set (i*k+j) v=(l.set i a).flatMap f:=by
 have hl:((l.take i).flatMap f).length=i*k:=by rw[cA hf,List.length_take,Nat.min_eq_left (by omega)]
 have h2:i<(l.set i a).length:=by simpa using h
 rw[pI hf h,pI hf h2,List.append_assoc,List.set_append_right _ _ (by omega),hl,Nat.add_sub_cancel_left,List.set_append_left _ _ (by rw[hf];exact hj),← ha]
 rw[List.getElem_set_self,List.take_set_of_le (Nat.le_refl i),List.drop_set_of_lt (by omega),List.append_assoc]
end
section
variable {T:bQ} {t e:TypeId} {ti te:TI} {M:aC} {x:AV} {n k:Nat} {vs:List AV}
theorem aO.ldAgg(h:aO k M x n vs)(ht:T.ty.get t=some ti)(hk:ti.k= .sli e)(he:T.ty.get e=some te)(hs:te.size=k)(ha:te.isAgg=true){i:Nat}(hi:i<n){k':IntKind}:
 ∃ b o,bJ T t x (.val (.int k' (i:Int)))=some (.ptr b o)∧aY T e (.ptr b o) M=some (.agg ((vs.drop (i*k)).take k)):=by
 obtain⟨b,o,h1,_,_,h4⟩:=h.at ht hk he hs hi (k':=k')
 refine⟨b,o,h1,?_⟩
 unfold aY
 rw[he]
 simp only[ha,cond_true,hs,h4,Option.map_some]
end
def aI6(z:Int):Prop:= -9223372036854775808≤z∧z≤9223372036854775807
section
variable {H:Type} {enc:TypeId×Value→H} {P:Program} {w:World} {base:Nat} {spare:Nat→Bool} {held:Bool}
end
end Go.AM
