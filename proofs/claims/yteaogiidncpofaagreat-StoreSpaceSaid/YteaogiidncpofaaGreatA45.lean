import Derived.Test.YteaogiidncpofaaGreatA37
import Derived.Test.YteaogiidncpofaaGreatB3
set_option linter.unusedSimpArgs false
set_option linter.unusedVariables false
set_option linter.unusedSectionVars false
noncomputable section
namespace Go.AM
open Go.ChangeMaps
theorem yN.app{T:bQ}{ops:Array Oper}{R:Exit→Act→World→Prop}{tl l:List Oper}{st s:St}(h:∀ Q:Ex→St→Prop,Q .normal s→yN T.P ops l st Q){ι:bS}{a:Act}{w:World}(hs:tF ι st a w)
 (hk:∀ ι' a' w',tF ι' s a' w'→bR ι st.m w ι' s.m w'→wpList T.P ops R tl a' w'):wpList T.P ops R (l++tl) a w:=by
 refine iV ?_ ?_ _ _ _ (h (fun ex s'=>ex= .normal∧s'=s) ⟨rfl,rfl⟩ ι a w hs)
 ·rintro a' w' ⟨ι',ex,st',he,hs',S,rfl,rfl⟩
  exact hk ι' a' w' hs' S
 ·rintro e a' w' hne ⟨ι',ex,st',he,hs',S,rfl,rfl⟩
  exact absurd he hne
def aEi(M:aC):aC:={ M with next:=M.next+1 }
def aRH(p:ML)(s:St)(eb:Option Nat×List (AV×AV)):St:={ n:=s.n,t:=s.t.set p.it (some (.ptr s.m.next 0)),m:=aEi (lP s.m eb.1) }
def aSx(p:ML)(eb:Option Nat×List (AV×AV))(s:St):St:={ n:=s.n,t:=(s.t.set p.ntm (some (.tup [.val (.bool false)]))).set p.more (some (.val (.bool false))),m:=lT s.m eb }
def aBO(p:ML)(k v:AV)(s:St):St:={ n:=s.n,t:=((s.t.set p.ntm (some (.tup [.val (.bool true),k,v]))).set p.more (some (.val (.bool true)))).set p.pair (some (.tup [k,v])),m:=s.m }
section
variable {T:bQ} (ok:T.Ok) (hmix:T.P.follows .mixedOrders=true) {nt:Nat}
include ok hmix
end
section
variable {T:bQ} (ok:T.Ok)
include ok
end
section
variable {T:bQ} (ok:T.Ok) (hmix:T.P.follows .mixedOrders=true) {nt:Nat}
include ok hmix
end
def v8(n:Nat):AV:= .val (.int .u8 n)
def b8(l:List Nat)(r:List AV):List AV:=l.foldr (fun n r=>v8 n::r) r
def r8:Nat→Nat→List AV→List AV
 | 0,_,r=>r
 | n+1,v,r=>v8 v::r8 n v r
theorem bR.adopt{ι:bS}{M:aC}{w w':World}(S:bR ι M w ι M w'){g size:Nat}{o:Obj}(hg:w.heap.size≤g)(ho:w'.heap[g]? =some o){r:hY}(hr:vA (fun b=>if b=M.next then some ⟨g,0,size⟩ else ι b) ⟨g,0,size⟩ r (some o))(hlt:∀ k,lJ ι M k→k<w.heap.size):
 bR ι M w (fun b=>if b=M.next then some ⟨g,0,size⟩ else ι b) (M.new r) w':=by
 have R:=S.rel
 have hext:Ext ι (fun b=>if b=M.next then some ⟨g,0,size⟩ else ι b):=fun b l' h=>by
  have:=R.dom b l' h
  have hne:¬ (b=M.next):=by omega
  simp[hne,h]
 refine⟨⟨fun b l h=>?_,fun b s h=>?_,fun b b' r1 r2 l1 l2 h1 h2 hl1 hl2 he=>?_,fun b l h=>?_⟩,hext,by simp,aCx,S.size,S.frame,?_,?_,S.os,S.tape,S.output⟩
 ·by_cases hb:b=M.next
  ·simp[hb]
  ·simp only[hb,if_false] at h
   have:=R.dom b l h
   simp;omega
 ·rw[aC.get_new] at h
  by_cases hb:b=M.next
  ·simp only[hb,if_true,Option.some.injEq] at h
   subst h
   exact⟨⟨g,0,size⟩,by simp[hb],by simp only[ho];exact hr⟩
  ·simp only[hb,if_false] at h
   obtain⟨l,hl,hrow⟩:=R.live b s h
   exact⟨l,by simp[hb,hl],hrow.mono hext⟩
 ·rw[aC.get_new] at h1 h2
  have low:∀ b r l,M.get b=some r→ι b=some l→l.blk<w.heap.size:=fun b r l h hl=>hlt _ ⟨b,r,l,h,hl,rfl⟩
  by_cases hb1:b=M.next <;> by_cases hb2:b'=M.next
  ·omega
  ·simp only[hb1,if_true,Option.some.injEq] at hl1
   simp only[hb2,if_false] at h2 hl2
   subst hl1
   have:=low b' r2 l2 h2 hl2
   simp only at he
   omega
  ·simp only[hb2,if_true,Option.some.injEq] at hl2
   simp only[hb1,if_false] at h1 hl1
   subst hl2
   have:=low b r1 l1 h1 hl1
   simp only at he
   omega
  ·simp only[hb1,if_false] at h1 hl1
   simp only[hb2,if_false] at h2 hl2
   exact R.inj b b' r1 r2 l1 l2 h1 h2 hl1 hl2 he
 ·by_cases hb:b=M.next
  ·rw[if_pos hb] at h;injection h with h;rw[← h]
  ·rw[if_neg hb] at h;exact R.bas b l h
 ·rintro k ⟨b,s,l,h1,h2,h3,h4⟩
  rw[aC.get_new] at h1
  by_cases hb:b=M.next
  ·simp only[hb,if_true,Option.some.injEq] at h3
   subst h3
   left;simp only at h4;omega
  ·simp only[hb,if_false] at h1 h3
   exact S.evo k ⟨b,s,l,h1,h2,h3,h4⟩
 ·rintro k ⟨b,s,l,h1,h3,h4⟩
  rw[aC.get_new] at h1
  by_cases hb:b=M.next
  ·simp only[hb,if_true,Option.some.injEq] at h3
   subst h3
   left;simp only at h4;omega
  ·simp only[hb,if_false] at h1 h3
   exact S.evl k ⟨b,s,l,h1,h3,h4⟩
theorem eO.keys{ι:bS}:∀ {es:List (AV×AV)} {ms:List MapEntry} {ks:List Int},eO ι es ms→es.map (·.1)=ks.map (fun k=>AV.val (.int .i64 k))→ms.map (·.key)=ks.map (Value.int .i64)
 | _,_,[],.nil,_=>rfl
 | _,_,_::_,.nil,h=>by simp at h
 | _,_,[],.cons _ _ _ _ _ _ _ _,h=>by simp at h
 | _,_,k::ks,.cons x y m es ms hk hv hs,h=>by
   simp only[List.map_cons,List.cons.injEq] at h ⊢
   obtain⟨rfl,h⟩:=h
   refine⟨?_,eO.keys hs h⟩
   generalize m.key=u at hk
   cases hk
   rfl
mutual
def sh(k:Nat):AV→AV
 | .val v=> .val v
 | .ptr b o=> .ptr (k+b) o
 | .sl b o n c e=> .sl (k+b) o n c e
 | .map b=> .map (k+b)
 | .fn f a b=> .fn f (shs k a) (shs k b)
 | .agg l=> .agg (shs k l)
 | .tup l=> .tup (shs k l)
def shs(k:Nat):List AV→List AV
 | []=>[]
 | x::r=>sh k x::shs k r
end
mutual
def bnd(n:Nat):AV→Bool
 | .val _=>true
 | .ptr b _=>Nat.blt b n
 | .sl b _ _ _ _=>Nat.blt b n
 | .map b=>Nat.blt b n
 | .fn _ a b=>bnds n a&&bnds n b
 | .agg l=>bnds n l
 | .tup l=>bnds n l
def bnds(n:Nat):List AV→Bool
 | []=>true
 | x::r=>bnd n x&&bnds n r
end
def shE(k:Nat)(es:List (AV×AV)):List (AV×AV):=es.map fun e=>(sh k e.1,sh k e.2)
def shR(k:Nat):hY→hY
 | .cells cs rw=> .cells (shs k cs) rw
 | .map es=> .map (shE k es)
 | .sit s p=> .sit s p
def aNa(k:Nat)(L:List (Nat×hY))(t:Tr hY):Tr hY:=L.foldr (fun p t=>t.set (k+p.1) (some (shR k p.2))) t
def aJo(M:aC)(n:Nat)(L:List (Nat×hY)):aC:=⟨M.next+n,aNa M.next L M.rows⟩
def mZ(us:List AV):Nat→List AV
 | 0=>[]
 | n+1=>mZ us n++us
theorem aJ9{T:bQ}(ok:T.Ok){f:FuncId}{F:Func}{c:Code}(hf:T.fn.get f=some F)(hb:F.body=some c){args:List AV}{M:aC}{Q:AV→aC→Prop}(h:mL T.P c (iI F args M) (aBs T F Q)):aB T.P f args M Q:=by
 refine aA7 ok hf hb (jT h ?_)
 intro ex st hq
 cases ex with
 | normal=>
   obtain⟨x,hx,hq⟩:=lU hq
   exact⟨.inl rfl,x,hx,hq⟩
 | ret=>
   obtain⟨x,hx,hq⟩:=lU hq
   exact⟨.inr rfl,x,hx,hq⟩
 | exit i=>exact hq.elim
 | goto i=>exact hq.elim
theorem aF7{T:bQ}(ok:T.Ok){t kt vt:TypeId}{ti tk:TI}(ht:T.ty.get t=some ti)(hti:ti.k= .mp kt vt)(htk:T.ty.get kt=some tk){ι:bS}{w:World}{lb:Nat}{ms:Array MapEntry}{clock:Nat}(hob:w.heap[lb]? =some (.map ms clock))
 {es:List (AV×AV)} (he:eO ι es ms.toList) {k:AV} {kv:Value} (hk:VR ι k kv) (hkey:gR T 60 kt k=true) {i:Nat} {k' v':AV} (hf:eN T kt k es 0=some (some (i,k',v'))) {ts:Array TypeId} {args:Array Value} {ty:TypeId} (h0:ts[0]? =some t) (ha0:args[0]? =some (.map (some lb))) (ha1:args[1]? =some kv):
 (Builtin.delete_ ts ty args).run T.P w= .ok (.tuple #[]) { w with heap:=w.heap.setIfInBounds lb (.map (ms.eraseIdxIfInBounds i) clock) }:=by
 have hck:=fun em=>oV ok (em:=em) 60 10000 (by decide) kt k kv hkey hk (w:=w)
 have hgo:=eP (P:=T.P) hob
 obtain⟨s,hs1,hs2⟩:=mS ok htk hk he hf (w:=w)
 cases hs2 with
 | some i2 _ _ _ e hj' hm' hk' hv'=>
   have hij:i=i2:=by omega
   subst hij
   simp only[Builtin.delete_,h0,ha0,ha1,Sem.run_bind,iQ ok ht hti,Result.andThen_ok,hgo,hck,hs1,fU hob,Sem.run_pure]
def aGy(o:Oper):Option (TypeId×Operand×Operand):=match o.op,o.dst,o.guard with
 | .call c,none,none=>match c.callee,c.args.toList,c.argTypes[0]? with
   | .builtin .delete,[mo,ko],some t=>some (t,mo,ko)
   | _,_,_=>none
 | _,_,_=>none
theorem aHF{T:bQ}{o:Oper}{t:TypeId}{mo ko:Operand}(h:aGy o=some (t,mo,ko)){a:Act}{w w':World}
 (hr:∀ ts args ty,ts[0]? =some t→args[0]? =some (a.eval mo)→args[1]? =some (a.eval ko)→(Builtin.delete_ ts ty args).run T.P w= .ok (.tuple #[]) w'):
 o.dst=none∧o.guard=none∧(execOp a.eval o).run T.P w= .ok (.value (.tuple #[])) w':=by
 obtain⟨dst,op,type,pos,after,guard⟩:=o
 unfold aGy at h
 simp only at h
 split at h
 ·rename_i c
  split at h
  ·rename_i mo' ko' t' hc hargs ht
   simp only[Option.some.injEq,Prod.mk.injEq] at h
   obtain⟨rfl,rfl,rfl⟩:=h
   refine⟨rfl,rfl,?_⟩
   have h0:(c.args.map a.eval)[0]? =some (a.eval mo'):=by rw[← Array.getElem?_toList,Array.toList_map,hargs];rfl
   have h1:(c.args.map a.eval)[1]? =some (a.eval ko'):=by rw[← Array.getElem?_toList,Array.toList_map,hargs];rfl
   have:=hr c.argTypes (c.args.map a.eval) type ht h0 h1
   unfold execOp
   simp only[resolve,hc,Sem.run_bind,Sem.run_pure,Result.andThen_ok,invoke,builtin,this]
  ·cases h
 ·cases h
def vZ(ι:bS)(β:Nat→Nat)(l:List (Nat×AV×AV))(ms:List MapEntry):Prop:=eO ι (l.map (·.2)) ms∧ms.map (·.born)=l.map (fun e=>β e.1)
theorem gE{α β:Type}(f:α→β):∀ (l:List α) (i:Nat),(l.eraseIdx i).map f=(l.map f).eraseIdx i
 | [],_=>rfl
 | x::l,0=>rfl
 | x::l,i+1=>by simp only[List.eraseIdx_cons_succ,List.map_cons,gE f l i]
theorem vZ.erase{ι:bS}{β:Nat→Nat}{l:List (Nat×AV×AV)}{ms:List MapEntry}(h:vZ ι β l ms)(i:Nat):vZ ι β (l.eraseIdx i) (ms.eraseIdx i):=
 ⟨by rw[gE];exact h.1.erase i,by rw[gE,gE,h.2]⟩
theorem vZ.mono{ι ι':bS}(he:Ext ι ι'){β:Nat→Nat}{l:List (Nat×AV×AV)}{ms:List MapEntry}(h:vZ ι β l ms):vZ ι' β l ms:=⟨h.1.mono he,h.2⟩
theorem vZ.get{ι:bS}{β:Nat→Nat}{l:List (Nat×AV×AV)}{ms:List MapEntry}(h:vZ ι β l ms){i:Nat}{e:MapEntry}(hi:ms[i]? =some e):∃ q,l[i]? =some q∧VR ι q.2.1 e.key∧VR ι q.2.2 e.val∧e.born=β q.1:=by
 obtain⟨k,v,h1,h2,h3⟩:=h.1.get hi
 rw[List.getElem?_map] at h1
 obtain⟨q,hq,h4⟩:=Option.map_eq_some_iff.1 h1
 have h5:(ms.map (·.born))[i]? =some e.born:=by rw[List.getElem?_map,hi];rfl
 rw[h.2,List.getElem?_map,hq] at h5
 refine⟨q,hq,?_,?_,?_⟩
 ·rw[h4];exact h2
 ·rw[h4];exact h3
 ·injection h5 with h5;exact h5.symm
theorem pS{α:Type}(f:α→Bool):∀ (l:List α) (j:Nat),(∀ x,l[j]? =some x→f x=false)→(l.eraseIdx j).filter f=l.filter f
 | [],_,_=>rfl
 | x::l,0,h=>by
   rw[List.eraseIdx_cons_zero,List.filter_cons,if_neg (by rw[h x rfl];simp)]
 | x::l,j+1,h=>by
   rw[List.eraseIdx_cons_succ,List.filter_cons,List.filter_cons,pS f l j (fun y hy=>h y (by simpa using hy))]
theorem yN.app2{T:bQ}{ops:Array Oper}{R:Exit→Act→World→Prop}{tl l:List Oper}{st:St}{K:St→Prop}(h:yN T.P ops l st fun ex s=>ex= .normal∧K s){ι:bS}{a:Act}{w:World}(hs:tF ι st a w)
 (hk:∀ s ι' a' w',K s→tF ι' s a' w'→bR ι st.m w ι' s.m w'→wpList T.P ops R tl a' w'):wpList T.P ops R (l++tl) a w:=by
 refine iV ?_ ?_ _ _ _ (h ι a w hs)
 ·rintro a' w' ⟨ι',ex,st',he,hs',S,rfl,hK⟩
  exact hk st' ι' a' w' hK hs' S
 ·rintro e a' w' hne ⟨ι',ex,st',he,hs',S,rfl,hK⟩
  exact absurd he hne
def MLD(T:bQ)(p:ML)(x:Code)(dops:Array Oper)(dpre:List Oper)(dc:Tmp)(mo ko:Operand)(kt:TypeId)(b nb:Nat)(Q:Ex→St→Prop):Nat→List (Nat×AV×AV)→List (Nat×AV×AV)→St→Prop
 | 0,_,_,_=>False
 | K+1,rem,cur,s=>(rem=[]→∃ t',yF t' (aSx p (some b,cur.map (fun q:Nat×AV×AV=>q.2)) s).t∧Q .normal { n:=s.n,t:=t',m:=s.m.put b (.map (cur.map (fun q:Nat×AV×AV=>q.2))) })∧∀ i e,rem[i]? =some e→yN T.P p.eops p.rest (aBO p e.2.1 e.2.2 s) fun ex0 s2=>ex0= .normal∧
    mL T.P x s2 fun ex s3=>ex= .normal∧s3.n=s.n∧s3.t.get p.it=some (.ptr nb 0)∧∃ d,opnd s3.t (.tmp dc)= .val (.bool d)∧(d=false→MLD T p x dops dpre dc mo ko kt b nb Q K (rem.eraseIdx i) cur s3)∧
     (d=true→yN T.P dops dpre s3 fun ex1 s4=>ex1= .normal∧s4.n=s.n∧s4.t.get p.it=some (.ptr nb 0)∧opnd s4.t mo= .map b∧gR T 60 kt (opnd s4.t ko)=true∧
      ∃ j k' v' q,eN T kt (opnd s4.t ko) (cur.map (·.2)) 0=some (some (j,k',v'))∧cur[j]? =some q∧q.1=e.1∧MLD T p x dops dpre dc mo ko kt b nb Q K (rem.eraseIdx i) (cur.eraseIdx j) s4)
def pZ:Nat→List (AV×AV)→List (Nat×AV×AV)
 | _,[]=>[]
 | i,e::r=>(i,e)::pZ (i+1) r
theorem aAd:∀ (l:List (AV×AV)) (i:Nat),(pZ i l).map (·.2)=l
 | [],_=>rfl
 | e::r,i=>by simp[pZ,aAd r (i+1)]
theorem aBT(ms:List MapEntry)(β:Nat→Nat):∀ (l:List (AV×AV)) (m:List MapEntry) (i:Nat),l.length=m.length→(∀ j e,m[j]? =some e→β (i+j)=e.born)→m.map (·.born)=(pZ i l).map (fun e=>β e.1)
 | [],[],_,_,_=>rfl
 | [],_::_,_,h,_=>by simp at h
 | _::_,[],_,h,_=>by simp at h
 | e::r,x::m,i,h,hb=>by
   simp only[pZ,List.map_cons,List.cons.injEq]
   refine⟨(hb 0 x rfl).symm,aBT ms β r m (i+1) (by simpa using h) fun j y hy=>?_⟩
   have:=hb (j+1) y (by simpa using hy)
   rw[show i+(j+1)=i+1+j by omega] at this
   exact this
theorem eO.length'{ι:bS}:∀ {es:List (AV×AV)} {ms:List MapEntry},eO ι es ms→es.length=ms.length
 | _,_,.nil=>rfl
 | _,_,.cons _ _ _ _ _ _ _ hs=>by simp[eO.length' hs]
theorem bR.shown{ι ι':bS}{M N:aC}{w w':World}{b:Nat}{es:List (AV×AV)}(R:fZ ι (M.put b (.map es)) w)(h0:M.get b=none)(S:bR ι M w ι' N w'):bR ι (M.put b (.map es)) w ι' (N.put b (.map es)) w':=by
 refine bR.over (M:=M) (N:=N) R (fun c r h=>?_) rfl S (fun c r h=>?_) (Nat.le_refl _)
 ·rw[aC.get_put]
  by_cases hc:c=b
  ·rw[hc,h0] at h;cases h
  ·rw[if_neg hc];exact h
 ·rw[aC.get_put] at h
  by_cases hc:c=b
  ·rw[if_pos hc] at h
   injection h with h
   subst h
   exact .inr ⟨by rw[hc];exact h0,by rw[aC.get_put,if_pos hc]⟩
  ·rw[if_neg hc] at h
   exact .inl h
theorem fZ.hidden{ι:bS}{M:aC}{w:World}{b:Nat}{r:hY}(R:fZ ι (M.put b r) w)(h0:M.get b=none):fZ ι M w:=
 R.forget (Nat.le_refl _) fun c q h=>by
  rw[aC.get_put]
  by_cases hc:c=b
  ·rw[hc,h0] at h;cases h
  ·rw[if_neg hc];exact h
theorem aMX{T:bQ}(ok:T.Ok){c:Code}{p:ML}(hp:jM c=some p){st s:St}(b1:p.it<s.n)(b2:p.ntm<s.n)(b3:p.more<s.n)(b4:p.pair<s.n)
 {te:TI} (hxt:T.ty.get p.xt=some te) {kt vt:TypeId} (hmp:te.k= .mp kt vt) {tk:TI} (htk:T.ty.get kt=some tk)
 {x:Code} {dc:Tmp} {i4:Nat} {dops:Array Oper} {dpre:List Oper} {d3:Oper} {dt:TypeId} {mo ko:Operand} (hbody:p.body= .seq x (.cond (.tmp dc) (.region i4 dops false) .skip)) (hdops:dops.toList=dpre++[d3]) (hd3:aGy d3=some (dt,mo,ko))
 {td:TI} (hdt:T.ty.get dt=some td) {vt':TypeId} (hdm:td.k= .mp kt vt')
 (hpre:∀ Q:Ex→St→Prop,Q .normal s→yN T.P p.ops p.pre st Q) {b:Nat} {es:List (AV×AV)} (hxo:opnd s.t p.xo= .map b) (hg:s.m.get b=some (.map es))
 {Q:Ex→St→Prop} {K:Nat} (hgo:MLD T p x dops dpre dc mo ko kt b s.m.next Q K (pZ 0 es) (pZ 0 es) (aRH p s (some b,es))):mL T.P c st Q:=by
 obtain⟨⟨id1,id2,id3,rfl⟩,hops,hro,hsops,hn1,hn2,heops,he1,d1,d2,d3'⟩:=aBf hp
 rw[hbody]
 intro ι a w hs
 refine wp_seq (wp_region_list ?_)
 rw[hops]
 refine yN.app hpre hs (fun ι1 a1 w1 hs1 S1=>?_)
 obtain⟨hr1,hr2,hr3⟩:=aBl hro
 obtain⟨p1,p2,p3⟩:=aBY hn1
 obtain⟨q1,q2,q3⟩:=aB1 hn2
 obtain⟨g1,g2,g3⟩:=aAG he1
 have R1:fZ ι1 s.m w1:=hs1.2.2.2
 have hx:=gO hs1.2.1 p.xo
 rw[hxo] at hx
 generalize hev:a1.eval p.xo=v at hx
 cases hx with
 | map _ l hl=>
 obtain⟨ms,clock,hob,he,hbo⟩:=R1.obj hg hl
 have hlt:l.blk<w1.heap.size:=(Array.getElem?_eq_some_iff.1 hob).1
 have h0b:(s.m.kill b).get b=none:=by rw[aC.get_kill,if_pos rfl]
 have Rh:fZ ι1 (s.m.kill b) w1:=R1.forget (Nat.le_refl _) fun c r h=>by
  rw[aC.get_kill] at h
  split at h
  ·cases h
  ·exact h
 have hlb:¬ lJ ι1 (s.m.kill b) l.blk:=fun⟨c,r,l2,k1,k2,k3⟩=>by
  rw[aC.get_kill] at k1
  split at k1
  ·cases k1
  ·rename_i hcb
   exact hcb (R1.inj c b r _ l2 l k1 hg k2 hl k3)
 have hrun:(execOp a1.eval p.ro).run T.P w1= .ok (.value (.pointer (some ⟨w1.heap.size,0,none⟩))) (w1.alloc (.mapIter (some l.blk) clock #[] clock)):=by
  unfold execOp
  simp only[hr1,hev,Instr.range,Sem.run_bind,iQ ok hxt hmp,eP hob,Result.andThen_ok,Sem.run_pure]
  simp
 unfold wpList
 rw[if_pos (by simp[Region.wanted,hr3])]
 refine .inl ?_
 unfold Oper.wp
 rw[hrun,Oper.upon_value,hr2]
 show Code.wp T.P (.block p.out _) (iM ι st.m w Q) (a1.put (some p.it) _) (w1.alloc (.mapIter (some l.blk) clock #[] clock))
 generalize ho:Obj.mapIter (some l.blk) clock #[] clock=o
 have hr:¬ lJ ι1 s.m w1.heap.size:=fun h=>absurd (h.lt R1) (Nat.lt_irrefl _)
 have hext:Ext ι1 (fun b=>if b=s.m.next then some ⟨w1.heap.size,0,0⟩ else ι1 b):=fun b l h=>by
  have:=R1.dom b l h
  have hne:¬ (b=s.m.next):=by omega
  simp[hne,h]
 have hb_lt:b<s.m.next:=R1.dom b l hl
 have Sb0:bR ι1 s.m w1 ι1 s.m (w1.alloc o):=(bR.refl R1).side (r:=w1.heap.size) (Nat.le_refl _) hr (by show _≤(w1.heap.push o).size;simp) (fun k hk _=>heap_alloc_old _ _ hk) rfl rfl rfl
 have hV0:∀ c r,((aEi (s.m.kill b)).put b (.map es)).get c=some r→s.m.get c=some r:=fun c r h=>by
  rw[aC.get_put] at h
  by_cases hc:c=b
  ·rw[if_pos hc] at h
   injection h with h
   rw[← h,hc];exact hg
  ·rw[if_neg hc] at h
   have h:(s.m.kill b).get c=some r:=h
   rw[aC.get_kill,if_neg hc] at h
   exact h
 have Sb:bR ι1 s.m w1 (fun b=>if b=s.m.next then some ⟨w1.heap.size,0,0⟩ else ι1 b) ((aEi (s.m.kill b)).put b (.map es)) (w1.alloc o):=by
  have low:∀ c r,s.m.get c=some r→∀ l,(if c=s.m.next then some (⟨w1.heap.size,0,0⟩:wB) else ι1 c)=some l→ι1 c=some l:=fun c r hb l hl=>by
   obtain⟨l',h1,_⟩:=R1.live c r hb
   have:=R1.dom c l' h1
   rw[if_neg (by omega)] at hl
   exact hl
  refine⟨⟨fun c l h=>?_,fun c r hb=>?_,fun c c' r r' l l' g1 g2 h1 h2 he=>?_,fun c l h=>?_⟩,hext,Nat.le_succ _,fun c l h=>?_,Sb0.size,Sb0.frame,fun k ⟨c,r,l,k1,k2,k3,k4⟩=>Sb0.evo k ⟨c,r,l,hV0 c r k1,k2,low c r (hV0 c r k1) l k3,k4⟩,fun k ⟨c,r,l,k1,k3,k4⟩=>Sb0.evl k ⟨c,r,l,hV0 c r k1,low c r (hV0 c r k1) l k3,k4⟩,rfl,rfl,rfl⟩
  ·show c<s.m.next+1
   by_cases hb:c=s.m.next
   ·omega
   ·simp only[hb,if_false] at h
    have:=R1.dom c l h
    omega
  ·obtain⟨l,h1,h2⟩:=Sb0.rel.live c r (hV0 c r hb)
   exact⟨l,hext c l h1,h2.mono hext⟩
  ·exact Sb0.rel.inj c c' r r' l l' (hV0 c r g1) (hV0 c' r' g2) (low c r (hV0 c r g1) l h1) (low c' r' (hV0 c' r' g2) l' h2) he
  ·by_cases hb:c=s.m.next
   ·simp only[hb,if_true,Option.some.injEq] at h;rw[← h]
   ·simp only[hb,if_false] at h;exact R1.bas c l h
  ·by_cases hb:c=s.m.next
   ·right;omega
   ·simp only[hb,if_false] at h;exact .inl h
 refine wp_block (wp_loop_rounds K ?_)
 have key:∀ (n:Nat) (β:Nat→Nat) (rem cur:List (Nat×AV×AV)) (left:List MapEntry) (ms':Array MapEntry) (clk:Nat) (s':St) (ι':bS) (a':Act) (w':World),a'.tmps.size=s'.n→FrR ι' s'.t a'→a'.defers=[]→s'.n=s.n→
  s'.t.get p.it=some (.ptr s.m.next 0)→ι' s.m.next=some ⟨w1.heap.size,0,0⟩→ι' b=some l→MLD T p x dops dpre dc mo ko kt b s.m.next Q n rem cur s'→s'.m.get b=none→bR ι1 s.m w1 ι' (s'.m.put b (.map (cur.map (·.2)))) w'→
  (∀ k,lJ ι' s'.m k→w1.heap.size≤k∨lJ ι1 (s.m.kill b) k)→w'.heap[l.blk]? =some (.map ms' clk)→ItR w' w1.heap.size (some l.blk) left→vZ ι' β cur ms'.toList→vZ ι' β rem left→
  Code.rounds T.P (.seq (.region id2 p.sops false) (.seq (.cond (.tmp p.more) .skip (.exit p.out)) (.block p.nx (.seq (.region id3 p.eops false) (.seq x (.cond (.tmp dc) (.region i4 dops false) .skip)))))) (Exit.inBlock p.out (iM ι st.m w Q)) n a' w':=by
  intro n
  induction n with
  | zero=>intro β rem cur left ms' clk s' ι' a' w' _ _ _ _ _ _ _ hQ;exact hQ.elim
  | succ n ih=>
    intro β rem cur left ms' clk s' ι' a' w' hsz hfr hdf hn' hitA hιn hιb hQ hsb hvis hevl hmap hI hcur hrem
    have hrel:fZ ι' s'.m w':=hvis.rel.hidden hsb
    have hs':tF ι' s' a' w':=⟨hsz,hfr,hdf,hrel⟩
    have hitv:a'.tmps.getD p.it undef= .pointer (some ⟨w1.heap.size,0,none⟩):=by
     have:=hs'.2.1 p.it
     rw[hitA] at this
     generalize a'.tmps.getD p.it undef=u at this
     cases this with
     | ptr _ _ l hl=>
       rw[hιn] at hl
       injection hl with hl
       subst hl
       rfl
    show Code.wp T.P _ _ a' w'
    refine wp_seq (wp_region_list ?_)
    rw[hsops]
    have hsz:a'.tmps.size=s.n:=hs'.1.trans hn'
    have hev1:a'.eval (.tmp p.it)= .pointer (some ⟨w1.heap.size,0,none⟩):=hitv
    have hitobj:∃ m si se la,w'.heap[w1.heap.size]? =some (.mapIter m si se la):=by
     obtain⟨_,_,_,_,_,k6,_⟩:=hI;exact⟨_,_,_,_,k6⟩
    have hnoV:∀ (ι2:bS) (V:aC) (w2:World),fZ ι2 V w2→(∃ m si se la,w2.heap[w1.heap.size]? =some (.mapIter m si se la))→¬ lJ ι2 V w1.heap.size:=fun ι2 V w2 R2 ⟨m,si,se,la,hh⟩ ⟨c,row,l2,k1,k2,k3⟩=>by
     obtain⟨l',k4,k5⟩:=R2.live c row k1
     rw[k2] at k4;injection k4 with k4;subst k4
     rw[k3,hh] at k5
     cases row <;> exact k5.elim
    have hlvb:¬ lJ ι' s'.m l.blk:=fun h=>by
     rcases hevl _ h with h1|h1
     ·omega
     ·exact hlb h1
    unfold wpList
    rw[if_pos (by simp[Region.wanted,p3])]
    refine .inl ?_
    unfold Oper.wp
    rcases hI.next (P:=T.P) p.n1.type with⟨hl0,hrn⟩|⟨i,e,w3,hle,hrn,hren,hI3,hsz3,hh3,ho3,ht3,hu3⟩
    ·subst hl0
     have hrem0:rem=[]:=by
      have:=hrem.1.length'
      exact List.eq_nil_of_length_eq_zero (by simpa using this)
     have hrun1:(execOp a'.eval p.n1).run T.P w'= .ok (.value (.tuple #[.bool false])) w':=by
      unfold execOp
      simp only[p1,hev1,Sem.run_bind,hrn,Result.andThen_ok,Sem.run_pure]
     rw[hrun1,Oper.upon_value,p2]
     show wpList T.P p.sops _ [p.n2] (a'.put (some p.ntm) (.tuple #[.bool false])) w'
     have hs2:=hs'.put (d:=p.ntm) (x:= .tup [.val (.bool false)]) (.tup [.val (.bool false)] #[.bool false] (.cons _ _ _ _ (.val _ rfl) .nil)) (by rw[hn'];exact b2)
     unfold wpList
     rw[if_pos (by simp[Region.wanted,q3])]
     refine .inl ?_
     unfold Oper.wp
     have hev2:(a'.put (some p.ntm) (.tuple #[.bool false])).eval (.tmp p.ntm)= .tuple #[.bool false]:=lQ (by rw[hsz];exact b2)
     have hrun2:(execOp (a'.put (some p.ntm) (.tuple #[.bool false])).eval p.n2).run T.P w'= .ok (.value (.bool false)) w':=by
      unfold execOp
      simp only[q1,hev2]
      rfl
     rw[hrun2,Oper.upon_value,q2]
     have hs3:=hs2.put (d:=p.more) (x:= .val (.bool false)) (.val _ rfl) (by show p.more<s'.n;rw[hn'];exact b3)
     show Code.wp T.P _ _ ((a'.put (some p.ntm) (.tuple #[.bool false])).put (some p.more) (.bool false)) w'
     have hev3:((a'.put (some p.ntm) (.tuple #[.bool false])).put (some p.more) (.bool false)).eval (.tmp p.more)= .bool false:=lQ (by rw[lA,hsz];exact b3)
     refine wp_seq (wp_cond hev3 (wp_exit ?_))
     show Exit.inBlock p.out (iM ι st.m w Q) (.exit p.out) _ _
     simp only[Exit.inBlock,if_true]
     obtain⟨t',hst,hq⟩:=hQ.1 hrem0
     exact⟨ι',.normal,⟨s'.n,t',s'.m.put b (.map (cur.map (fun q:Nat×AV×AV=>q.2)))⟩,rfl,⟨hs3.1,fun i=>by show VR ι' ((t'.get i).getD eY) _;rw[hst i];exact hs3.2.1 i,hs3.2.2.1,hvis.rel⟩,S1.trans hvis,hq⟩
    ·obtain⟨q,hqi,hk,hv,hqb⟩:=hrem.get hle
     have hrun1:(execOp a'.eval p.n1).run T.P w'= .ok (.value (.tuple #[.bool true,e.key,e.val])) w3:=by
      unfold execOp
      simp only[p1,hev1,Sem.run_bind,hrn,Result.andThen_ok,Sem.run_pure]
     rw[hrun1,Oper.upon_value,p2]
     show wpList T.P p.sops _ [p.n2] (a'.put (some p.ntm) (.tuple #[.bool true,e.key,e.val])) w3
     have hvis3:bR ι1 s.m w1 ι' (s'.m.put b (.map (cur.map (·.2)))) w3:=hvis.side (r:=w1.heap.size) (Nat.le_refl _) (hnoV _ _ _ hvis.rel hitobj) (by rw[hsz3];exact Nat.le_refl _) (fun k _ hk=>hh3 k hk) ho3 ht3 hu3
     have hsA:tF ι' s' a' w3:=⟨hs'.1,hs'.2.1,hs'.2.2.1,hvis3.rel.hidden hsb⟩
     have hs2:=hsA.put (d:=p.ntm) (x:= .tup [.val (.bool true),q.2.1,q.2.2]) (.tup [.val (.bool true),q.2.1,q.2.2] #[.bool true,e.key,e.val] (.cons _ _ _ _ (.val _ rfl) (.cons _ _ _ _ hk (.cons _ _ _ _ hv .nil)))) (by rw[hn'];exact b2)
     unfold wpList
     rw[if_pos (by simp[Region.wanted,q3])]
     refine .inl ?_
     unfold Oper.wp
     have hev2:(a'.put (some p.ntm) (.tuple #[.bool true,e.key,e.val])).eval (.tmp p.ntm)= .tuple #[.bool true,e.key,e.val]:=lQ (by rw[hsz];exact b2)
     have hrun2:(execOp (a'.put (some p.ntm) (.tuple #[.bool true,e.key,e.val])).eval p.n2).run T.P w3= .ok (.value (.bool true)) w3:=by
      unfold execOp
      simp only[q1,hev2]
      rfl
     rw[hrun2,Oper.upon_value,q2]
     have hs3:=hs2.put (d:=p.more) (x:= .val (.bool true)) (.val _ rfl) (by show p.more<s'.n;rw[hn'];exact b3)
     show Code.wp T.P _ _ ((a'.put (some p.ntm) (.tuple #[.bool true,e.key,e.val])).put (some p.more) (.bool true)) w3
     have hev3:((a'.put (some p.ntm) (.tuple #[.bool true,e.key,e.val])).put (some p.more) (.bool true)).eval (.tmp p.more)= .bool true:=lQ (by rw[lA,hsz];exact b3)
     refine wp_seq (wp_cond hev3 (wp_skip ?_))
     show Code.wp T.P (.block p.nx _) _ ((a'.put (some p.ntm) (.tuple #[.bool true,e.key,e.val])).put (some p.more) (.bool true)) w3
     have hit3:((a'.put (some p.ntm) (.tuple #[.bool true,e.key,e.val])).put (some p.more) (.bool true)).tmps.getD p.it undef= .pointer (some ⟨w1.heap.size,0,none⟩):=by
      rw[aBg d2,aBg d1];exact hitv
     generalize (a'.put (some p.ntm) (.tuple #[.bool true,e.key,e.val])).put (some p.more) (.bool true)=a3 at hs3 hit3 ⊢
     refine wp_block (wp_seq (wp_region_list ?_))
     rw[heops]
     unfold wpList
     rw[if_pos (by simp[Region.wanted,g3])]
     refine .inl ?_
     unfold Oper.wp
     have hev4:a3.eval (.tmp p.it)= .pointer (some ⟨w1.heap.size,0,none⟩):=hit3
     have hrun3:(execOp a3.eval p.e1).run T.P w3= .ok (.value (.tuple #[e.key,e.val])) w3:=by
      unfold execOp
      simp only[g1,hev4,Sem.run_bind,hren,Result.andThen_ok,Sem.run_pure]
     rw[hrun3,Oper.upon_value,g2]
     show wpList T.P p.eops _ p.rest (a3.put (some p.pair) (.tuple #[e.key,e.val])) w3
     have hs4:=hs3.put (d:=p.pair) (x:= .tup [q.2.1,q.2.2]) (.tup [q.2.1,q.2.2] #[e.key,e.val] (.cons _ _ _ _ hk (.cons _ _ _ _ hv .nil))) (by show p.pair<s'.n;rw[hn'];exact b4)
     generalize a3.put (some p.pair) (.tuple #[e.key,e.val])=a4 at hs4 ⊢
     have hW0:=hQ.2 i q hqi
     rw[← List.append_nil p.rest]
     refine yN.app2 hW0 (st:=aBO p q.2.1 q.2.2 s') hs4 (fun s2 ι2 a2 w2 hbd hs2' S2=>?_)
     show Code.wp T.P (.seq x _) _ a2 w2
     refine wp_seq (wp_mono (hbd ι2 a2 w2 hs2') ?_)
     rintro e' a5 w5 ⟨ι5,ex,s5,rfl,hs5,S5,rfl,hn5,hit5,d,hd,hdf5,hdt5⟩
     have S25:bR ι' s'.m w3 ι5 s5.m w5:=S2.trans S5
     have after:∀ (ι6:bS) (s6:St) (w6:World),bR ι' s'.m w3 ι6 s6.m w6→s6.m.get b=none∧bR ι1 s.m w1 ι6 (s6.m.put b (.map (cur.map (·.2)))) w6∧(∀ k,lJ ι6 s6.m k→w1.heap.size≤k∨lJ ι1 (s.m.kill b) k)∧w6.heap[l.blk]? =some (.map ms' clk)∧ItR w6 w1.heap.size (some l.blk) (left.eraseIdx i)∧ι6 b=some l∧ι6 s.m.next=some ⟨w1.heap.size,0,0⟩∧vZ ι6 β cur ms'.toList∧vZ ι6 β (rem.eraseIdx i) (left.eraseIdx i):=by
      intro ι6 s6 w6 S6
      have hib:=S6.ext _ _ hιb
      have hev6:∀ k,lJ ι6 s6.m k→w1.heap.size≤k∨lJ ι1 (s.m.kill b) k:=fun k hk=>by
       rcases S6.evl k hk with h|h
       ·exact .inl (by have:=hvis3.size;omega)
       ·exact hevl k h
      have hnb:s6.m.get b=none:=by
       cases hgb:s6.m.get b with
       | none=>rfl
       | some rr=>
         exfalso
         rcases hev6 l.blk ⟨b,rr,l,hgb,hib,rfl⟩ with h|h
         ·omega
         ·exact hlb h
      have hkeep:∀ q,q<w3.heap.size→¬ lJ ι' s'.m q→w6.heap[q]? =w3.heap[q]? :=fun q hq hnl=>S6.frame q hq fun⟨c,r,l,k1,_,k3,k4⟩=>hnl ⟨c,r,l,k1,k3,k4⟩
      have hl3:l.blk<w3.heap.size:=by have:=hvis3.size;omega
      have hmap3:w3.heap[l.blk]? =some (.map ms' clk):=by rw[hh3 _ (by omega)];exact hmap
      have hr3:w1.heap.size<w3.heap.size:=by
       obtain⟨_,_,_,_,_,k6,_⟩:=hI3
       exact (Array.getElem?_eq_some_iff.1 k6).1
      have hvr:¬ lJ ι' s'.m w1.heap.size:=hnoV _ _ _ hrel hitobj
      refine⟨hnb,hvis3.trans (bR.shown hvis3.rel hsb S6),hev6,by rw[hkeep _ hl3 hlvb];exact hmap3,hI3.kept (hkeep _ hr3 hvr) (fun c hc=>by injection hc with hc;rw[← hc];exact hkeep _ hl3 hlvb),hib,S6.ext _ _ hιn,hcur.mono S6.ext,(hrem.mono S6.ext).erase i⟩
     obtain⟨A1,A2,A3,A4,A5,A6,A7,A8,A9⟩:=after ι5 s5 w5 S25
     have hdv:a5.eval (.tmp dc)= .bool d:=by
      have:=gO hs5.2.1 (.tmp dc)
      rw[hd] at this
      generalize a5.eval (.tmp dc)=u at this
      cases this
      rfl
     show Code.wp T.P (.cond (.tmp dc) _ _) _ a5 w5
     refine wp_cond hdv ?_
     cases d with
     | false=>
       show Code.wp T.P .skip _ a5 w5
       refine wp_skip ?_
       exact ih β (rem.eraseIdx i) cur (left.eraseIdx i) ms' clk s5 ι5 a5 w5 hs5.1 hs5.2.1 hs5.2.2.1 (hn5.trans hn') hit5 A7 A6 (hdf5 rfl) A1 A2 A3 A4 A5 A8 A9
     | true=>
       show Code.wp T.P (.region i4 dops false) _ a5 w5
       have hW:=hdt5 rfl
       refine wp_region_list ?_
       rw[hdops]
       refine yN.app2 hW hs5 (fun s4 ι6 a6 w6 hK4 hs6 S6=>?_)
       obtain⟨hn4,hit4,hmo,hkey,j,k',v',q',hf,hcj,hqt,hM⟩:=hK4
       obtain⟨B1,B2,B3,B4,B5,B6,B7,B8,B9⟩:=after ι6 s4 w6 (S25.trans S6)
       have hmv:a6.eval mo= .map (some l.blk):=by
        have:=gO hs6.2.1 mo
        rw[hmo] at this
        generalize a6.eval mo=u at this
        cases this with
        | map _ l2 h2=>rw[B6] at h2;injection h2 with h2;rw[h2]
       have hkv:=gO hs6.2.1 ko
       obtain⟨r1,r2,r3⟩:=aHF (T:=T) hd3 (a:=a6) (w:=w6) (w':={ w6 with heap:=w6.heap.setIfInBounds l.blk (.map (ms'.eraseIdxIfInBounds j) clk) }) (fun ts args ty h0 h1 h2=>aF7 ok hdt hdm htk B4 B8.1 hkv hkey hf h0 (by rw[h1,hmv]) h2)
       unfold wpList
       rw[if_pos (by simp[Region.wanted,r2])]
       refine .inl ?_
       unfold Oper.wp
       rw[r3,Oper.upon_value,r1]
       show Exit.inBlock p.nx _ .normal a6 _
       have hgV:(s4.m.put b (.map (cur.map (·.2)))).get b=some (.map (cur.map (·.2))):=by rw[aC.get_put,if_pos rfl]
       have hbo6:iY ms'.toList clk:=by
        obtain⟨ms2,c2,k1,k2,k3⟩:=B2.rel.obj hgV B6
        rw[B4] at k1
        injection k1 with k1
        injection k1 with k4 k5
        subst k4 k5
        exact k3
       have S7:=bR.setMap B2.rel hgV B6 (es':=(cur.eraseIdx j).map (·.2)) (ms':=ms'.eraseIdxIfInBounds j) (c':=clk) B4 (by rw[Array.toList_eraseIdxIfInBounds];exact (B8.erase j).1) (by rw[Array.toList_eraseIdxIfInBounds];exact hbo6.sub (List.eraseIdx_sublist _ _))
       have S7':=B2.trans S7
       rw[aC.put_put] at S7'
       have hl6:l.blk<w6.heap.size:=(Array.getElem?_eq_some_iff.1 B4).1
       have hnew:({ w6 with heap:=w6.heap.setIfInBounds l.blk (.map (ms'.eraseIdxIfInBounds j) clk) }:World).heap[l.blk]? =some (.map (ms'.eraseIdxIfInBounds j) clk):=by
        show (w6.heap.setIfInBounds l.blk _)[l.blk]? =_
        rw[Array.getElem?_setIfInBounds_self_of_lt hl6]
       have hoth:∀ k,k≠l.blk→({ w6 with heap:=w6.heap.setIfInBounds l.blk (.map (ms'.eraseIdxIfInBounds j) clk) }:World).heap[k]? =w6.heap[k]? :=fun k hk=>by
        show (w6.heap.setIfInBounds l.blk _)[k]? =_
        rw[Array.getElem?_setIfInBounds_ne (fun e=>hk e.symm)]
       have hI7:ItR ({ w6 with heap:=w6.heap.setIfInBounds l.blk (.map (ms'.eraseIdxIfInBounds j) clk) }:World) w1.heap.size (some l.blk) (left.eraseIdx i):=by
        obtain⟨ms3,clk3,since,seen,last,k1,k2,k3,k4,k5,k6,k7⟩:=B5
        rw[B4] at k2
        injection k2 with k2
        injection k2 with k8 k9
        subst k8 k9
        refine⟨_,_,since,seen,last,(hoth _ (by omega)).trans k1,hnew,fun y hy=>?_,k4,k5,?_,?_⟩
        ·rw[Array.toList_eraseIdxIfInBounds] at hy
         exact k3 y (List.mem_of_mem_eraseIdx hy)
        ·rw[Array.toList_eraseIdxIfInBounds]
         exact k6.sublist ((List.eraseIdx_sublist _ _).map _)
        ·rw[k7]
         unfold leftOf
         rw[Array.toList_filter,Array.toList_filter,Array.toList_eraseIdxIfInBounds]
         refine (pS _ _ j fun y hy=>?_).symm
         have hyb:y.born=e.born:=by
          obtain⟨q2,h1,_,_,h4⟩:=hcur.get hy
          rw[hcj] at h1
          injection h1 with h1
          rw[h4,← h1,hqt,hqb]
         cases hc: !seen.contains y.born with
         | false=>rfl
         | true=>
           exfalso
           have hm:y∈left.eraseIdx i:=by
            rw[k7]
            unfold leftOf
            rw[Array.toList_filter,List.mem_filter]
            exact⟨List.mem_of_getElem? hy,hc⟩
           have hnl:(left.map (·.born)).Nodup:=by
            obtain⟨ms4,_,_,seen4,_,_,m2,_,_,_,m6,m7⟩:=hI
            rw[m7]
            refine m6.sublist (List.Sublist.map _ ?_)
            unfold leftOf
            rw[Array.toList_filter]
            exact List.filter_sublist
           rw[← pC hnl hle,List.mem_filter] at hm
           have:=hm.2
           rw[hyb] at this
           simp at this
       exact ih β (rem.eraseIdx i) (cur.eraseIdx j) (left.eraseIdx i) (ms'.eraseIdxIfInBounds j) clk s4 ι6 a6 _ hs6.1 hs6.2.1 hs6.2.2.1 (hn4.trans hn') hit4 B7 B6 hM B1 S7' B3 hnew hI7 (by rw[Array.toList_eraseIdxIfInBounds];exact B8.erase j) B9
 have hptr:VR (fun b=>if b=s.m.next then some ⟨w1.heap.size,0,0⟩ else ι1 b) (.ptr s.m.next 0) (.pointer (some ⟨w1.heap.size,0,none⟩)):= .ptr s.m.next 0 ⟨w1.heap.size,0,0⟩ (by simp)
 have hsI:tF (fun b=>if b=s.m.next then some ⟨w1.heap.size,0,0⟩ else ι1 b) ⟨s.n,s.t,aEi (s.m.kill b)⟩ a1 (w1.alloc o):=⟨hs1.1,fun i=>(hs1.2.1 i).mono hext,hs1.2.2.1,Sb.rel.hidden (by show (s.m.kill b).get b=none;exact h0b)⟩
 have hsJ:=hsI.put (d:=p.it) hptr b1
 have hmapA:(w1.alloc o).heap[l.blk]? =some (.map ms clock):=by rw[heap_alloc_old _ _ hlt];exact hob
 have hent:vZ (fun b=>if b=s.m.next then some ⟨w1.heap.size,0,0⟩ else ι1 b) (fun i=>((ms.toList[i]?).map (·.born)).getD 0) (pZ 0 es) ms.toList:=
  ⟨by rw[aAd];exact he.mono hext,aBT ms.toList (fun i=>((ms.toList[i]?).map (·.born)).getD 0) es ms.toList 0 he.length' fun j e hj=>by show ((ms.toList[0+j]?).map (·.born)).getD 0=e.born;rw[Nat.zero_add,hj];rfl⟩
 refine key K (fun i=>((ms.toList[i]?).map (·.born)).getD 0) (pZ 0 es) (pZ 0 es) ms.toList ms clock (aRH p s (some b,es)) _ _ _ hsJ.1 hsJ.2.1 hsJ.2.2.1 rfl ?_ (by show (if s.m.next=s.m.next then _ else _)=_;rw[if_pos rfl]) (by show (if b=s.m.next then _ else ι1 b)=_;rw[if_neg (by omega)];exact hl) hgo (by show (s.m.kill b).get b=none;exact h0b) (by rw[aAd];exact Sb) (fun k hk=>?_) hmapA ?_ hent hent
 ·show (s.t.set p.it _).get p.it=_
  rw[Tr.get_set_eq]
 ·right
  obtain⟨c,r,l2,k1,k2,k3⟩:=hk
  have k1:(s.m.kill b).get c=some r:=k1
  obtain⟨l3,h1,_⟩:=Rh.live c r k1
  have:=Rh.dom c l3 h1
  have hlt2:c<s.m.next:=this
  refine⟨c,r,l2,k1,?_,k3⟩
  have k2:(if c=s.m.next then some (⟨w1.heap.size,0,0⟩:wB) else ι1 c)=some l2:=k2
  rw[if_neg (by omega)] at k2
  exact k2
 ·rw[← ho]
  refine⟨ms,clock,clock, #[],clock,heap_alloc_new _ _,by rw[heap_alloc_old _ _ hlt];exact hob,hbo.1,Nat.le_refl _,Nat.le_refl _,hbo.2,by unfold leftOf;rw[Array.toList_filter];exact (List.filter_eq_self.2 (fun _ _=>by simp)).symm⟩
theorem aK1{P:Program}{ops:Array Oper}{l:List Oper}{n:Nat}{t t':Tr AV}{m:aC}{Q:Ex→St→Prop}(h:yN P ops l ⟨n,t,m⟩ Q)(hs:yF t t'):yN P ops l ⟨n,t',m⟩ Q:=fun ι a w hst=>
 h ι a w ⟨hst.1,fun i=>by rw[hs i];exact hst.2.1 i,hst.2.2⟩
theorem aGB{T:bQ}(ok:T.Ok){ops:Array Oper}{nt:Nat}{K:St→Prop}{l:List Oper}{ks:List SK}{st:St}(hd:∀ d∈dstsOf l,d<nt)(hn:nt≤st.n)(h:zO T ops l ks st K):
 yN T.P ops l st fun ex s=>ex= .normal∧(K s∧s.n=st.n∧oW st.t s.t (dstsOf l)):=
 rH ok (Q:=fun ex s=>ex=Ex.normal∧(K s∧s.n=st.n∧oW st.t s.t (dstsOf l))) hd hn (vW h fun s hn ha hs=>⟨rfl,hs,hn,ha⟩)
section
variable {T:bQ} (ok:T.Ok) (hmix:T.P.follows .mixedOrders=true)
include ok hmix
theorem aE8{nt:Nat}{p:ML}{x:Code}{anx:An}{dops:Array Oper}{dpre:List Oper}{dc:Tmp}{mo ko:Operand}{kt:TypeId}{b nb N:Nat}{t0:Tr AV}{junk:List Tmp}{ke kd:List SK}{Q:Ex→St→Prop}{J:List (Nat×AV×AV)→List (Nat×AV×AV)→aC→Prop}
 (hBx:mY T nt anx x=true) (hN:nt≤N) (hdr:∀ d∈dstsOf p.rest,d<nt) (hdd:∀ d∈dstsOf dpre,d<nt)
 (j1:p.it∈junk) (j2:p.ntm∈junk) (j3:p.more∈junk) (j4:p.pair∈junk) (d1:p.it≠p.ntm) (d2:p.it≠p.more) (d3:p.it≠p.pair)
 (hjr:∀ d∈dstsOf p.rest,d∈junk∧d≠p.it) (hjx:∀ d∈asgOf anx x,d∈junk∧d≠p.it) (hjd:∀ d∈dstsOf dpre,d∈junk∧d≠p.it)
 (hend:∀ (js:Nat→Option AV) cur m,J [] cur m→Q .normal ⟨N,iN js junk t0,m.put b (.map (cur.map (fun q:Nat×AV×AV=>q.2)))⟩)
 (hstep:∀ (js:Nat→Option AV) rem cur m,J rem cur m→∀ i e,rem[i]? =some e→zO T p.eops p.rest ke ⟨N,(iN js junk t0).set p.pair (some (.tup [e.2.1,e.2.2])),m⟩ fun s2=>wZ T anx x s2 (andThen (fun s3=>zB (opnd s3.t (.tmp dc)) fun d=>
  aE d (zO T dops dpre kd s3 fun s4=>opnd s4.t mo= .map b∧gR T 60 kt (opnd s4.t ko)=true∧∃ j k' v' q,eN T kt (opnd s4.t ko) (cur.map (fun q:Nat×AV×AV=>q.2)) 0=some (some (j,k',v'))∧cur[j]? =some q∧q.1=e.1∧J (rem.eraseIdx i) (cur.eraseIdx j) s4.m)
   (J (rem.eraseIdx i) cur s3.m)) (fun _ _=>False))):
 ∀ (K:Nat) (rem cur:List (Nat×AV×AV)) (s:St),rem.length<K→s.n=N→(∀ i,i∉junk→(s.t.get i).getD eY=(t0.get i).getD eY)→s.t.get p.it=some (.ptr nb 0)→J rem cur s.m→MLD T p x dops dpre dc mo ko kt b nb Q K rem cur s
 | 0,_,_,_,h,_,_,_,_=>by omega
 | K+1,rem,cur,s,hlen,hn,hbase,hit,hJ=>by
   have same:∀ (t:Tr AV),(∀ i,i∉junk→(t.get i).getD eY=(t0.get i).getD eY)→yF (iN (fun j=>t.get j) junk t0) t:=fun t ht i=>
    oN (P:=fun i=>i∈junk) (fun j hj=>(ht j hj).symm) i (fun hp=>hp.2 hp.1)
   have setne:∀ (t:Tr AV) (d:Tmp) (y:AV),d∈junk→(∀ i,i∉junk→(t.get i).getD eY=(t0.get i).getD eY)→∀ i,i∉junk→((t.set d (some y)).get i).getD eY=(t0.get i).getD eY:=fun t d y hd ht i hi=>by
    rw[Tr.get_set_ne _ _ _ _ (fun e=>hi (by rw[e];exact hd))];exact ht i hi
   refine⟨fun h0=>?_,fun i e hi=>?_⟩
   ·subst h0
    have hb2:=setne _ p.more (.val (.bool false)) j3 (setne s.t p.ntm (.tup [.val (.bool false)]) j2 hbase)
    refine⟨_,same _ hb2,?_⟩
    have:=hend (fun j=>((s.t.set p.ntm (some (.tup [.val (.bool false)]))).set p.more (some (.val (.bool false)))).get j) cur s.m hJ
    rw[← hn] at this
    exact this
   ·
    have hb3:=setne _ p.more (.val (.bool true)) j3 (setne s.t p.ntm (.tup [.val (.bool true),e.2.1,e.2.2]) j2 hbase)
    have hs0:=same _ hb3
    have hent:yF ((iN (fun j=>((s.t.set p.ntm (some (.tup [.val (.bool true),e.2.1,e.2.2]))).set p.more (some (.val (.bool true)))).get j) junk t0).set p.pair (some (.tup [e.2.1,e.2.2]))) (aBO p e.2.1 e.2.2 s).t:=fun i=>by
     show _=(((((s.t.set p.ntm _).set p.more _).set p.pair _).get i).getD eY)
     by_cases hp:i=p.pair
     ·rw[hp,Tr.get_set_eq,Tr.get_set_eq]
     ·rw[Tr.get_set_ne _ _ _ _ hp,Tr.get_set_ne _ _ _ _ hp];exact hs0 i
    have hz:=hstep (fun j=>((s.t.set p.ntm (some (.tup [.val (.bool true),e.2.1,e.2.2]))).set p.more (some (.val (.bool true)))).get j) rem cur s.m hJ i e hi
    have hitE:((iN (fun j=>((s.t.set p.ntm (some (.tup [.val (.bool true),e.2.1,e.2.2]))).set p.more (some (.val (.bool true)))).get j) junk t0).set p.pair (some (.tup [e.2.1,e.2.2]))).get p.it=some (.ptr nb 0):=by
     rw[Tr.get_set_ne _ _ _ _ d3]
     have:∀ (l:List Tmp) (t:Tr AV) (js:Nat→Option AV),p.it∈l→(iN js l t).get p.it=js p.it:=fun l=>by
      induction l with
      | nil=>intro t js h;simp at h
      | cons a l ih=>
        intro t js h
        show (iN js l (t.set a (js a))).get p.it=_
        by_cases hl:p.it∈l
        ·exact ih _ _ hl
        ·rw[jS hl]
         simp only[List.mem_cons] at h
         rcases h with h|h
         ·rw[← h,Tr.get_set_eq]
         ·exact absurd h hl
     rw[this _ _ _ j1]
     show ((s.t.set p.ntm _).set p.more _).get p.it=_
     rw[Tr.get_set_ne _ _ _ _ d2,Tr.get_set_ne _ _ _ _ d1];exact hit
    have hbaseE:∀ i,i∉junk→(((iN (fun j=>((s.t.set p.ntm (some (.tup [.val (.bool true),e.2.1,e.2.2]))).set p.more (some (.val (.bool true)))).get j) junk t0).set p.pair (some (.tup [e.2.1,e.2.2]))).get i).getD eY=(t0.get i).getD eY:=
     setne _ p.pair _ j4 fun i hi=>by rw[jS hi]
    have hri:i<rem.length:=(List.getElem?_eq_some_iff.1 hi).1
    have hlen2:(rem.eraseIdx i).length<K:=by rw[List.length_eraseIdx,if_pos hri];omega
    have h1:=aGB ok hdr (by show nt≤N;exact hN) hz
    have h2:=aK1 (t':=(aBO p e.2.1 e.2.2 s).t) h1 hent
    have hst:(⟨N,(aBO p e.2.1 e.2.2 s).t,s.m⟩:St)=aBO p e.2.1 e.2.2 s:=by rw[← hn];rfl
    rw[hst] at h2
    intro ι a w hsr
    refine fY (fun e' a' w' hP=>?_) _ _ _ (h2 ι a w hsr)
    obtain⟨ι2,ex,s2,rfl,hs2,S2,rfl,hz2,hn2,ha2⟩:=hP
    refine⟨ι2,.normal,s2,rfl,hs2,S2,rfl,?_⟩
    have hit2:s2.t.get p.it=some (.ptr nb 0):=by rw[ha2 p.it fun hm=>(hjr _ hm).2 rfl];exact hitE
    have hbase2:∀ i,i∉junk→(s2.t.get i).getD eY=(t0.get i).getD eY:=fun i hi=>by rw[ha2 i fun hm=>hi (hjr _ hm).1];exact hbaseE i hi
    have hn2':s2.n=N:=hn2
    refine jT (aOQ ok hmix hBx (by rw[hn2'];exact hN) (gZ hBx hz2 fun ex s3 hsn3 ha3 hs3=>?_)) (Q:=fun ex s3=>andThen (fun s3=>zB (opnd s3.t (.tmp dc)) fun d=>
     aE d (zO T dops dpre kd s3 fun s4=>opnd s4.t mo= .map b∧gR T 60 kt (opnd s4.t ko)=true∧∃ j k' v' q,eN T kt (opnd s4.t ko) (cur.map (fun q:Nat×AV×AV=>q.2)) 0=some (some (j,k',v'))∧cur[j]? =some q∧q.1=e.1∧J (rem.eraseIdx i) (cur.eraseIdx j) s4.m)
      (J (rem.eraseIdx i) cur s3.m)) (fun _ _=>False) ex s3∧s3.n=s2.n∧oW s2.t s3.t (asgOf anx x)) fun ex s3 h3=>?_
    ·exact⟨hs3,hsn3,ha3⟩
    ·obtain⟨h3,hsn3,ha3⟩:=h3
     cases ex with
     | normal=>
       have hn3:s3.n=N:=hsn3.trans hn2'
       have hit3:s3.t.get p.it=some (.ptr nb 0):=by rw[ha3 p.it fun hm=>(hjx _ hm).2 rfl];exact hit2
       have hbase3:∀ i,i∉junk→(s3.t.get i).getD eY=(t0.get i).getD eY:=fun i hi=>by rw[ha3 i fun hm=>hi (hjx _ hm).1];exact hbase2 i hi
       obtain⟨d,hd,h3⟩:=rM h3
       refine⟨rfl,hn3.trans hn.symm,hit3,d,hd,fun hdf=>?_,fun hdt=>?_⟩
       ·subst hdf
        rw[fG] at h3
        exact aE8 hBx hN hdr hdd j1 j2 j3 j4 d1 d2 d3 hjr hjx hjd hend hstep K _ _ s3 hlen2 hn3 hbase3 hit3 h3
       ·subst hdt
        rw[jF] at h3
        have h4:=aGB ok hdd (by rw[hn3];exact hN) h3
        intro ι3 a3 w3 hsr3
        refine fY (fun e' a' w' hP=>?_) _ _ _ (h4 ι3 a3 w3 hsr3)
        obtain⟨ι4,ex,s4,rfl,hs4,S4,rfl,⟨c1,c2,j,k',v',q,c3,c4,c5,c6⟩,hn4,ha4⟩:=hP
        have hn4':s4.n=N:=hn4.trans hn3
        have hit4:s4.t.get p.it=some (.ptr nb 0):=by rw[ha4 p.it fun hm=>(hjd _ hm).2 rfl];exact hit3
        refine⟨ι4,.normal,s4,rfl,hs4,S4,rfl,hn4'.trans hn.symm,hit4,c1,c2,j,k',v',q,c3,c4,c5,?_⟩
        exact aE8 hBx hN hdr hdd j1 j2 j3 j4 d1 d2 d3 hjr hjx hjd hend hstep K _ _ s4 hlen2 hn4' (fun i hi=>by rw[ha4 i fun hm=>hi (hjd _ hm).1];exact hbase3 i hi) hit4 c6
     | _=>exact h3.elim
end
end Go.AM
