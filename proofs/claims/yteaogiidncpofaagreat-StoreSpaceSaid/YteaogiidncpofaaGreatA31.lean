import Derived.Test.YteaogiidncpofaaGreatA24
import Derived.ProofKit
import Derived.Carry
set_option linter.unusedSimpArgs false
set_option linter.unusedVariables false
set_option linter.unusedSectionVars false
noncomputable section
namespace Go.AM
def wO(T:bQ)(o:Oper)(st:St)(K:AV→aC→Prop):Prop:=
 aBX (dP st.t o) (fun c=>aA (T.fn.get c.1) fun _=>aB T.P c.1 c.2 st.m K) (aA (bX T st.t o st.m) fun r=>K r.1 r.2)
@[congr] theorem aOR {P:Program} {g:FuncId} {args args':List AV} {M M':aC} {K:AV→aC→Prop} (h:∀ _:Unit,args=args') (h':∀ _:Unit,M=M'):aB P g args M K=aB P g args' M' K:=by rw[h (),h' ()]
def aBs(T:bQ)(F:Func)(Q:AV→aC→Prop):Ex→St→Prop
 | .normal,st=>aA (rO T F st) fun x=>Q x st.m
 | .ret,st=>aA (rO T F st) fun x=>Q x st.m
 | _,_=>False
def aD7:Obj→Option hY
 | .cells c _ _=>some (.cells (ofVs c.toList) false)
 | _=>none
def aAu{α:Type}(k:Nat):List (Option α)→Tr α
 | []=> .e
 | x::xs=>(aAu (k+1) xs).set k x
theorem aAZ{α:Type}:∀ (l:List (Option α)) (k i:Nat),(aAu k l).get i=if i<k then none else (l[i-k]?).join
 | [],k,i=>by simp[aAu,Tr.get_e]
 | x::l,k,i=>by
   simp only[aAu]
   rw[Tr.get_set,aAZ l (k+1) i]
   by_cases h1:i=k
   ·subst h1;simp
   ·rw[if_neg h1]
    by_cases h2:i<k
    ·rw[if_pos (by omega),if_pos h2]
    ·rw[if_neg (by omega),if_neg h2,show i-k=(i-(k+1))+1 by omega]
     simp
def aBF(w:World):aC:={ next:=w.heap.size,rows:=aAu 0 (w.heap.toList.map aD7) }
theorem vY(w:World)(b:Nat):(aBF w).get b=(w.heap[b]?).bind aD7:=by
 unfold aBF aC.get
 simp only
 rw[aAZ,if_neg (by omega),Nat.sub_zero,List.getElem?_map,Array.getElem?_toList]
 cases w.heap[b]? <;> rfl
def aB5:Obj→Nat
 | .cells c _ _=>c.size
 | _=>0
def xP(w:World):bS:=fun b=>(w.heap[b]?).map fun o=>⟨b,0,aB5 o⟩
theorem aHw(w:World):fZ (xP w) (aBF w) w:=by
 refine⟨fun b l h=>?_,fun b r h=>?_,fun b b' r r' l l' _ _ h1 h2 he=>?_,fun b l h=>by
  unfold xP at h
  obtain⟨o,_,rfl⟩:=Option.map_eq_some_iff.1 h
  rfl⟩
 ·unfold xP at h
  obtain⟨o,h1,rfl⟩:=Option.map_eq_some_iff.1 h
  exact (Array.getElem?_eq_some_iff.1 h1).1
 ·rw[vY] at h
  obtain⟨o,h1,h2⟩:=Option.bind_eq_some_iff.1 h
  refine⟨⟨b,0,aB5 o⟩,by unfold xP;rw[h1];rfl,?_⟩
  simp only
  rw[h1]
  cases o with
  | cells c e fr=>
    simp only[aD7,Option.some.injEq] at h2
    subst h2
    refine⟨rfl,by simp[lO],?_,fun h=>by cases h⟩
    simp only[List.drop_zero,lO,Array.length_toList]
    rw[List.take_of_length_le (by simp)]
    exact VRs.ofVs _ _
  | _=>simp[aD7] at h2
 ·unfold xP at h1 h2
  obtain⟨o,_,rfl⟩:=Option.map_eq_some_iff.1 h1
  obtain⟨o',_,rfl⟩:=Option.map_eq_some_iff.1 h2
  exact he
theorem aJT(w:World)(k:Nat):¬ aHv (xP w) (aBF w) k:=by
 rintro⟨b,r,l,h1,h2,h3,h4⟩
 rw[vY] at h1
 obtain⟨o,h5,h6⟩:=Option.bind_eq_some_iff.1 h1
 cases o <;> simp[aD7] at h6 <;> subst h6 <;> simp[hY.rw] at h2
section
variable {T:bQ} {ops:Array Oper} {st:St} {Q:Ex→St→Prop}
end
open Go.ChangeShapes Go.WideShapes Go.RowKit
section
variable {H:Type} {enc:TypeId×Value→H} {P:Program}
theorem sG(hl:laidOutB P=true){W W':World}{sp':Nat→Bool}:∀ {ts:List TypeId} {vs:List Value} {ds:List (DataW H)} {ps:List MemPlace},
 (∀ t∈ts,P.readableRec t=true∧t<P.types.size)→DataW.TrodAll enc P W 0 (fun _=>true) true ts vs ds ps→(∀ p∈ps,W.sameAt W' p)→(∀ p∈ps,sp' p.block=true)→DataW.TrodAll enc P W' 0 sp' true ts vs ds ps
 | [],[],[],ps,_,h,_,_=>h
 | t::ts,v::vs,d::ds,ps,hr,h,hs,hsp=>by
   obtain⟨p,q,h1,h2,rfl⟩:=h
   exact⟨p,q,WideElems.Trod_stays hl (hr t (by simp)).1 (hr t (by simp)).2 h1 (fun x hx=>hs x (by simp[hx])) (fun x hx=>hsp x (by simp[hx])),
    sG hl (fun t ht=>hr t (by simp[ht])) h2 (fun x hx=>hs x (by simp[hx])) (fun x hx=>hsp x (by simp[hx])),rfl⟩
 | [],[],_::_,_,_,h,_,_=>h.elim
 | [],_::_,_,_,_,h,_,_=>h.elim
 | _::_,[],_,_,_,h,_,_=>h.elim
 | _::_,_::_,[],_,_,h,_,_=>h.elim
theorem yH{W:World}{sp:Nat→Bool}{held:Bool}{base:Nat}:∀ {ts:List TypeId} {vs:List Value} {ds:List (DataW H)} {ps:List MemPlace},
 DataW.TrodAll enc P W base sp held ts vs ds ps→ds.length=ts.length
 | [],[],[],_,_=>rfl
 | t::ts,v::vs,d::ds,ps,h=>by
   obtain⟨p,q,h1,h2,rfl⟩:=h
   simp[yH h2]
 | [],[],_::_,_,h=>h.elim
 | [],_::_,_,_,h=>h.elim
 | _::_,[],_,_,h=>h.elim
 | _::_,_::_,[],_,h=>h.elim
theorem aKm(hl:laidOutB P=true){f:Func}{s:ChangeSpec}{fresh handsOn again:Bool}{W W':World}{args:Array Value}{ds gs:List (DataW H)}{before:List MemPlace}{tb:TypeId}
 (hvars:s.vars=[]) (hfn:∀ (ds:List (DataW H)),ds.length=f.params.size→s.fn H ds={ results:=[.lit (.bool true)],args:=ds })
 (hread:∀ t∈f.params.toList,P.readableRec t=true∧t<P.types.size) (hrt:f.resultTypes= #[tb]) (hb:P.underlying tb=some .bool)
 (hW:DataW.Whole enc P f.params.toList s.vars false W args.toList ds gs before) (hbelow:Below W.heap.size W W'):
 s.post enc P f false fresh handsOn again W args (.bool true) W':=by
 have hW0:=hW
 obtain⟨p,q,hA,hV,rfl,hz,hn⟩:=hW0
 rw[hvars] at hV
 have hgs:gs=[]∧q=[]:=by
  cases gs with
  | nil=>exact⟨rfl,hV⟩
  | cons _ _=>exact hV.elim
 obtain⟨rfl,rfl⟩:=hgs
 have hlen:=yH hA
 have hs:=hfn ds (by simpa using hlen)
 have hlt:∀ x∈p++[],x.block<W.heap.size:=fun x hx=>hW.lt x hx
 have hsame:∀ x∈p,W.sameAt W' x:=fun x hx=>hbelow.same (hlt x (by simp[hx]))
 have hargs:∀ sp:Nat→Bool,(∀ x∈p,sp x.block=true)→DataW.TrodAll enc P W' 0 sp true f.params.toList args.toList (s.fn H (ds++[])).args p:=fun sp hsp=>by
  rw[List.append_nil,hs]
  exact sG hl hread hA hsame hsp
 have hres:∀ (b:Nat) (sp:Nat→Bool) (hd:Bool),DataW.TrodAll enc P W' b sp hd f.resultTypes.toList ((Value.bool true).resultList f.resultTypes.size) (s.fn H (ds++[])).results []:=fun b sp hd=>by
  rw[List.append_nil,hs,hrt]
  exact trodAll_mk1 (shut_bool hb true)
 have hvs:∀ sp:Nat→Bool,DataW.TrodVars enc P W' sp s.vars (s.fn H (ds++[])).vars []:=fun sp=>by
  rw[List.append_nil,hs,hvars]
  exact rfl
 have hold:∀ x∈p,(fun b=>decide (b<W.heap.size)) x.block=true:=fun x hx=>by simpa using hlt x (by simp[hx])
 have hok:∀ (j:Nat) (t:TypeId) (r:Value),f.resultTypes[j]? =some t→((Value.bool true).resultList f.resultTypes.size)[j]? =some r→Value.okWide P W' .any 0 t r:=
  ok_one hrt rfl (okWide_bool_mk hb true)
 refine⟨ds,[],p++[],[],p,[],hW,hres _ _ _,hargs _ hold,hvs _,World.keptBut_mono (fun x hx=>⟨hx,Or.inr (by simpa using hx)⟩) (hbelow.frame (·∈ p++[])),fun _=>?_⟩
 refine⟨hok,_,_,([]++p)++[],⟨[]++p,[],trodAll_append (hargs _ (fun _ _=>rfl)) (hres _ _ _),hvs _,rfl,?_,?_⟩,?_⟩
 ·intro b off hp
  have hin:MemPlace.cell b off∈p++[]:=by simpa using hp
  rw[hbelow.frozen (hlt _ hin)]
  exact hz b off hin
 ·intro ha;cases ha
 ·intro x hx _
  simpa using hx
theorem aAg{f:FuncId}{args:List AV}{vs:Array Value}{W:World}{v:Value}(h:aB P f args (aBF W) fun x _=>x= .val v)(hv:VRs (xP W) args vs.toList):
 Calls P f vs W fun e W'=>e= .returned v∧Below W.heap.size W W':=by
 refine (h (xP W) W vs hv (aHw W)).mono ?_
 rintro e W' ⟨ι',u,x,M',rfl,h2,h3,rfl⟩
 cases h2
 exact⟨rfl,h3.os,h3.tape,h3.output,h3.size,fun k hk=>h3.frame k hk (aJT W k)⟩
end
theorem aKO{C:Checked}{os:Os}{f:FuncId}{fn:Func}{s:ChangeSpec}{fresh handsOn again:Bool}{H:Type}{enc:TypeId×Value→H}{tb:TypeId}
 (own:ownKnob C.prog.godebug=none) (started:os.Started) (noInit:C.prog.inits.idxOf? f=none) (hfn:C.prog.funcs[f]? =some fn) (hl:laidOutB C.prog=true)
 (witness:∃ (w:World) (tape:Tape) (i:Input),w.os=os∧(w.forCall tape i).Shaped C.prog∧i.vars=[]∧Input.okWide C.prog (w.forCall tape i) .any w.heap.size f i∧
  s.pre6 enc C.prog fn [] false (w.forCall tape i).memory i.args∧({}:Assume).holds C.prog (lone (Frame.enter C.prog f i.args .normal) [] (w.forCall tape i)))
 (hvars:s.vars=[]) (hsfn:∀ (ds:List (DataW H)),ds.length=fn.params.size→s.fn H ds={ results:=[.lit (.bool true)],args:=ds })
 (hread:∀ t∈fn.params.toList,C.prog.readableRec t=true∧t<C.prog.types.size) (hrt:fn.resultTypes= #[tb]) (hb:C.prog.underlying tb=some .bool)
 (contract:∀ (W:World) (base:Nat) (args:Array Value) (ds:List (DataW H)) (ps:List MemPlace),
  (∀ (j:Nat) t v,fn.params[j]? =some t→args[j]? =some v→Value.okWide C.prog W .any base t v)→
  DataW.TrodAll enc C.prog W 0 (fun _=>true) true fn.params.toList args.toList ds ps→
  Calls C.prog f args W fun e W'=>e= .returned (.bool true)∧Below W.heap.size W W'):
 ReturnsInHanded {} C os f .any (s.pre6 enc C.prog fn [] false) (s.post enc C.prog fn false fresh handsOn again):=by
 refine returnsInHanded_of_change own started noInit hfn witness ?_
 intro W base args ds gs before hval hW _ _
 have hW0:=hW
 obtain⟨p,q,hA,hV,rfl,hz,hn⟩:=hW0
 refine (contract W base args ds p hval hA).mono ?_
 rintro e W' ⟨rfl,hbelow⟩
 exact⟨_,rfl,aKm hl hvars hsfn hread hrt hb hW hbelow⟩
def aAk(k:IntKind)(zs:List Int):List AV:=zs.map fun z=> .val (.int k z)
@[simp] theorem aNZ (k:IntKind) (zs:List Int):(aAk k zs).length=zs.length:=by simp[aAk]
def dJ(M:aC)(k:IntKind)(x:AV)(zs:List Int):Prop:=
 (x= .val (.slice none 0 0)∧zs=[])∨
 ∃ b o c cs rw,x= .sl b o zs.length c none∧zs.length≤c∧c≤9223372036854775807∧M.get b=some (.cells cs rw)∧(zs.length=0∨o+zs.length≤cs.length)∧(cs.drop o).take zs.length=aAk k zs
theorem dJ.cell{M:aC}{k:IntKind}{b o n c:Nat}{ex:Option Nat}{zs:List Int}(h:dJ M k (.sl b o n c ex) zs){i:Nat}(hi:i<zs.length):M.cellAt b (o+i)=some (.val (.int k zs[i])):=by
 rcases h with⟨h,_⟩|⟨b',o',c',cs,rw,h1,h2,h3,h4,h5,h6⟩
 ·cases h
 ·injection h1 with h1 h7 h8 h9 h10
  subst h1 h7
  unfold aC.cellAt
  rw[h4]
  simp only
  have:(aAk k zs)[i]? =some (.val (.int k zs[i])):=by simp[aAk,hi]
  rw[← h6,List.getElem?_take,if_pos hi,List.getElem?_drop] at this
  exact this
section
variable {H:Type} {enc:TypeId×Value→H} {P:Program} {W:World}
end
theorem vX{T:bQ}{op:BinOp}{t:TypeId}{xo yo:Operand}{k:IntKind}{a b:Int}(h1:op≠ .shl)(h2:op≠ .shr):yB T op t xo yo (.val (.int k a)) (.val (.int k b))=(tE op k a b).map .val:=by
 have:lX k k=true:=by cases k <;> rfl
 unfold yB
 cases op <;> first|(exact absurd rfl h1)|(exact absurd rfl h2)|(simp only[this,cond_true])
theorem aD0(n:Int):IntKind.u32.wrap n=n%4294967296:=by simp[IntKind.wrap,IntKind.bits,IntKind.signed]
theorem vL(n:Int):IntKind.u8.wrap n=n%256:=by simp[IntKind.wrap,IntKind.bits,IntKind.signed]
theorem aDQ(n:Int):IntKind.u64.wrap n=n%18446744073709551616:=by simp[IntKind.wrap,IntKind.bits,IntKind.signed]
theorem qZ(x:BitVec 32):IntKind.u32.wrap (x.toNat:Int)=x.toNat:=by
 rw[aD0];have:=x.isLt;omega
theorem qO{n:Nat}(x:BitVec n):BitVec.ofInt n (x.toNat:Int)=x:=by
 rw[BitVec.ofInt_natCast,BitVec.ofNat_toNat]
 simp
theorem aG7(P:Program)(a:BitVec 32):nT P (Op.unary .xor (.int .u32 (a.toNat:Int)))=some (.int .u32 ((~~~a).toNat:Int)):=by
 show some (Value.int .u32 (IntKind.u32.wrap ((BitVec.ofInt 32 (4294967295:Int) ^^^ BitVec.ofInt 32 (a.toNat:Int)).toNat:Int)))=_
 rw[qO,qZ,← BitVec.allOnes_xor]
 rfl
theorem aL{n:Int}(h0: -9223372036854775808≤n)(h:n≤9223372036854775807):IntKind.i64.wrap n=n:=by
 have e:IntKind.i64.wrap n=if (true&&decide (n%18446744073709551616≥9223372036854775808))=true then n%18446744073709551616-18446744073709551616 else n%18446744073709551616:=rfl
 rw[e]
 simp only[Bool.true_and,decide_eq_true_eq]
 split <;> omega
section
variable {T:bQ} {M:aC} {k:IntKind} {x:AV} {zs:List Int} {t e:TypeId} {z:List Value} {bts ebts:Nat} {q q':Option (List Nat)} {ez:List Value}
theorem dJ.len(h:dJ M k x zs)(ht:T.ty.get t=some ⟨.sli e,1,bts,z,q⟩):bD T false t x M=some zs.length:=by
 unfold bD
 rw[ht]
 rcases h with⟨rfl,rfl⟩|⟨b,o,c,cs,rw,rfl,_⟩
 ·rfl
 ·rfl
theorem dJ.at(h:dJ M k x zs)(ht:T.ty.get t=some ⟨.sli e,1,bts,z,q⟩)(he:T.ty.get e=some ⟨.int k,1,ebts,ez,q'⟩){i:Nat}(hi:i<zs.length){k':IntKind}:
 ∃ b o,bJ T t x (.val (.int k' (i:Int)))=some (.ptr b (o+i))∧aY T e (.ptr b (o+i)) M=some (.val (.int k zs[i])):=by
 have h0:=h
 rcases h with⟨rfl,rfl⟩|⟨b,o,c,cs,rw',rfl,_⟩
 ·simp at hi
 ·refine⟨b,o,?_,?_⟩
  ·unfold bJ
   rw[ht]
   simp only
   rw[he]
   simp only[Int.toNat_natCast]
   have h1:decide (0≤(i:Int))=true:=by simp
   have h2:Nat.blt i zs.length=true:=by simpa using hi
   simp only[h1,h2,cond_true,Nat.mul_one]
  ·unfold aY
   rw[he]
   simp only[TI.isAgg,cond_false]
   exact h0.cell hi
end
theorem RdA.mono{P:Program}{c:Code}{Q:Ex→St→Prop}:∀ {k k':Nat} {st:St},k≤k'→RdA P c Q k st→RdA P c Q k' st
 | 0,_,_,_,h=>h.elim
 | k+1,0,_,hk,_=>absurd hk (by omega)
 | k+1,k'+1,st,hk,h=>by
   show mL P c st (andThen (RdA P c Q k') Q)
   refine jT h fun ex st' hq=>?_
   cases ex with
   | normal=>exact RdA.mono (by omega) hq
   | _=>exact hq
theorem aDO{α:Type}(z:α):∀ n,repA n [z]=List.replicate n z
 | 0=>rfl
 | n+1=>by rw[wV,aDO z n,List.replicate_succ];rfl
section
variable {T:bQ} {M:aC} {k ki:IntKind} {x:AV} {zs:List Int} {t e:TypeId} {z:List Value} {bts eb:Nat} {q q':Option (List Nat)}
theorem beq_false{a b:Nat}(h:a≠b):Nat.beq a b=false:=by
 cases hb:Nat.beq a b with
 | true=>exact absurd (Nat.eq_of_beq_eq_true hb) h
 | false=>rfl
theorem oH{k:IntKind}{l hi:Nat}(h:l≤hi):aDc (.val (.int k (l:Int))) hi=some l:=by
 unfold aDc
 have h1:decide (0≤(l:Int))=true:=by simp
 have h2:Nat.ble l hi=true:=by simpa using h
 simp only[h1,cond_true,Int.toNat_natCast,h2]
theorem aFS(ht:T.ty.get t=some ⟨.sli e,1,bts,z,q⟩)(he:T.ty.get e=some ⟨.int ki,1,eb,[.int ki 0],q'⟩){b o n c l h:Nat}(h1:l≤h)(h2:h≤c){k1 k2:IntKind}:
 dN T t (.sl b o n c none) (some (.val (.int k1 (l:Int)))) (some (.val (.int k2 (h:Int)))) none=some (.sl b (cond (Nat.beq c l) o (o+l)) (h-l) (c-l) none):=by
 unfold dN pH
 rw[ht]
 simp only
 rw[he]
 simp only[sliceB,oH h1,oH h2,Nat.mul_one]
end
namespace Tr
variable {α:Type}
theorem pN(l r:Tr α)(x:Option α):(Tr.n l x r).left=l:=rfl
theorem mA(l r:Tr α)(x:Option α):(Tr.n l x r).right=r:=rfl
theorem qW(l r:Tr α)(x:Option α):(Tr.n l x r).here=x:=rfl
theorem mD:∀ (f g:Nat) (t:Tr α) (i:Nat) (y:Option α),i<f→i<g→setF f t i y=setF g t i y
 | 0,_,_,_,_,h,_=>absurd h (by omega)
 | _+1,0,_,_,_,_,h=>absurd h (by omega)
 | f+1,g+1,t,i,y,h,h'=>by
   simp only[rR,cond_eq_ite,Nat.beq_eq]
   have e2:∀ k,Nat.mod k 2=k%2:=fun _=>rfl
   have e3:∀ k,Nat.div k 2=k/2:=fun _=>rfl
   rw[e2,e3]
   by_cases h0:i=0
   ·simp only[h0,if_true]
   ·simp only[h0,if_false]
    rw[mD f g t.left (i/2) y (by omega) (by omega),mD f g t.right (i/2-1) y (by omega) (by omega)]
theorem wN:∀ (f:Nat) (t:Tr α) (i j:Nat) (x y:Option α),i<f→j<f→i≠j→setF f (setF f t i x) j y=setF f (setF f t j y) i x
 | 0,_,_,_,_,_,h,_,_=>absurd h (by omega)
 | f+1,t,i,j,x,y,hi,hj,hne=>by
   have e2:∀ k,Nat.mod k 2=k%2:=fun _=>rfl
   have e3:∀ k,Nat.div k 2=k/2:=fun _=>rfl
   simp only[rR,cond_eq_ite,Nat.beq_eq,e2,e3]
   by_cases h0:i=0
   ·have hj0:¬ j=0:=fun h=>hne (by omega)
    simp only[h0,if_true,hj0,if_false,pN,mA,qW]
    split <;> rfl
   ·by_cases hj0:j=0
    ·simp only[h0,if_false,hj0,if_true,pN,mA,qW]
     split <;> rfl
    ·simp only[h0,hj0,if_false]
     by_cases h1:i%2=1 <;> by_cases h2:j%2=1
     ·simp only[h1,h2,if_true,pN,mA,qW]
      rw[wN f t.left (i/2) (j/2) x y (by omega) (by omega) (by omega)]
     ·simp only[h1,h2,if_true,if_false,pN,mA,qW]
     ·simp only[h1,h2,if_true,if_false,pN,mA,qW]
     ·simp only[h1,h2,if_false,pN,mA,qW]
      rw[wN f t.right (i/2-1) (j/2-1) x y (by omega) (by omega) (by omega)]
theorem xG:∀ (f:Nat) (t:Tr α) (i:Nat) (x y:Option α),i<f→setF f (setF f t i x) i y=setF f t i y
 | 0,_,_,_,_,h=>absurd h (by omega)
 | f+1,t,i,x,y,hi=>by
   have e2:∀ k,Nat.mod k 2=k%2:=fun _=>rfl
   have e3:∀ k,Nat.div k 2=k/2:=fun _=>rfl
   simp only[rR,cond_eq_ite,Nat.beq_eq,e2,e3]
   by_cases h0:i=0
   ·simp only[h0,if_true,pN,mA]
   ·simp only[h0,if_false]
    by_cases h1:i%2=1
    ·simp only[h1,if_true,pN,mA,qW]
     rw[xG f t.left (i/2) x y (by omega)]
    ·simp only[h1,if_false,pN,mA,qW]
     rw[xG f t.right (i/2-1) x y (by omega)]
theorem set_comm(t:Tr α){i j:Nat}(x y:Option α)(h:i≠j):(t.set i x).set j y=(t.set j y).set i x:=by
 unfold set
 rw[mD (i+1) (i+j+1) t i x (by omega) (by omega),mD (j+1) (i+j+1) _ j y (by omega) (by omega),wN _ t i j x y (by omega) (by omega) h,
  mD (j+1) (i+j+1) t j y (by omega) (by omega),mD (i+1) (i+j+1) _ i x (by omega) (by omega)]
theorem set_set(t:Tr α)(i:Nat)(x y:Option α):(t.set i x).set i y=t.set i y:=xG (i+1) t i x y (by omega)
end Tr
theorem aC.put_put(M:aC)(b:Nat)(r r':hY):(M.put b r).put b r'=M.put b r':=by
 unfold aC.put;simp only[Tr.set_set]
theorem aC.put_comm(M:aC){b c:Nat}(r s:hY)(h:b≠c):(M.put b r).put c s=(M.put c s).put b r:=by
 unfold aC.put;simp only[Tr.set_comm _ _ _ h]
theorem aC.new_put(M:aC)(r r':hY):(M.new r).put M.next r'=M.new r':=by
 unfold aC.put aC.new;simp only[Tr.set_set]
theorem aB8(t:Tr AV){d e:Option Tmp}(x y:AV)(h:∀ a,d=some a→e≠some a):setd (setd t d x) e y=setd (setd t e y) d x:=by
 cases d with
 | none=>rfl
 | some a=>
   cases e with
   | none=>rfl
   | some b=>exact Tr.set_comm t _ _ (fun he=>h a rfl (by rw[he]))
theorem vE(t:Tr AV){d:Option Tmp}(x:AV){i:Nat}(h:d≠some i):(setd t d x).get i=t.get i:=by
 cases d with
 | none=>rfl
 | some a=>exact Tr.get_set_ne t a _ i (fun he=>h (by rw[he]))
theorem bR.over{ι ι':bS}{M M1 N N1:aC}{w w':World}(R:fZ ι M1 w)(hM:∀ b r,M.get b=some r→M1.get b=some r)(hn:M.next=M1.next)(S:bR ι M w ι' N w')
 (hN:∀ b r,N1.get b=some r→N.get b=some r∨(M.get b=none∧M1.get b=some r)) (hnn:N.next≤N1.next):bR ι M1 w ι' N1 w':=by
 have hblk:∀ b r l,M.get b=none→M1.get b=some r→ι b=some l→l.blk<w.heap.size∧¬ lJ ι M l.blk:=fun b r l h0 h1 hl=>by
  obtain⟨l',h2,h3⟩:=R.live b r h1
  rw[hl] at h2;injection h2 with h2;subst h2
  refine⟨vS h3,fun⟨c,s,l2,g1,g2,g3⟩=>?_⟩
  have:=R.inj b c r s l l2 h1 (hM c s g1) hl g2 g3.symm
  subst this
  rw[h0] at g1;cases g1
 have hrw:∀ k,aHv ι M k→aHv ι M1 k:=fun k ⟨b,r,l,h1,h2⟩=>⟨b,r,l,hM b r h1,h2⟩
 have hlv:∀ k,lJ ι M k→lJ ι M1 k:=fun k ⟨b,r,l,h1,h2⟩=>⟨b,r,l,hM b r h1,h2⟩
 have hold:∀ b r,M.get b=none→M1.get b=some r→∃ l,ι b=some l∧ι' b=some l∧vA ι' l r w'.heap[l.blk]? ∧l.blk<w.heap.size:=fun b r h0 h1=>by
  obtain⟨l,h2,h3⟩:=R.live b r h1
  obtain⟨h4,h5⟩:=hblk b r l h0 h1 h2
  refine⟨l,h2,S.ext _ _ h2,?_,h4⟩
  rw[S.frame l.blk h4 (fun⟨c,s,l2,g1,_,g3,g4⟩=>h5 ⟨c,s,l2,g1,g3,g4⟩)]
  exact h3.mono S.ext
 refine⟨⟨fun b l h=>Nat.lt_of_lt_of_le (S.rel.dom b l h) hnn,fun b r h=>?_,fun b b' r r' l l' h h' hl hl' he=>?_,S.rel.bas⟩,S.ext,by have:=S.nxt;omega,fun b l h=>by rw[← hn];exact S.new b l h,S.size,
  fun k hk hnr=>S.frame k hk fun h=>hnr (hrw k h),fun k hk=>?_,fun k hk=>?_,S.os,S.tape,S.output⟩
 ·rcases hN b r h with h1|⟨h0,h1⟩
  ·exact S.rel.live b r h1
  ·obtain⟨l,_,h2,h3,_⟩:=hold b r h0 h1
   exact⟨l,h2,h3⟩
 ·have cross:∀ (b b':Nat) (r r':hY) (l l':wB),N.get b=some r→ι' b=some l→M.get b'=none→M1.get b'=some r'→ι' b'=some l'→l.blk=l'.blk→False:=fun b b' r r' l l' g1 g2 g3 g4 g5 g6=>by
   obtain⟨l2,h2,h3,_,h5⟩:=hold b' r' g3 g4
   rw[g5] at h3;injection h3 with h3;subst h3
   rcases S.evl l'.blk ⟨b,r,l,g1,g2,g6⟩ with h6|h6
   ·omega
   ·exact (hblk b' r' l' g3 g4 h2).2 h6
  rcases hN b r h with h1|⟨h0,h1⟩ <;> rcases hN b' r' h' with h2|⟨h0',h2⟩
  ·exact S.rel.inj b b' r r' l l' h1 h2 hl hl' he
  ·exact (cross b b' r r' l l' h1 hl h0' h2 hl' he).elim
  ·exact (cross b' b r' r l' l h2 hl' h0 h1 hl he.symm).elim
  ·obtain⟨l1,g1,g2,_⟩:=hold b r h0 h1
   obtain⟨l2,g3,g4,_⟩:=hold b' r' h0' h2
   rw[hl] at g2;injection g2 with g2;subst g2
   rw[hl'] at g4;injection g4 with g4;subst g4
   exact R.inj b b' r r' l l' h1 h2 g1 g3 he
 ·obtain⟨b,r,l,h1,h2,h3,h4⟩:=hk
  rcases hN b r h1 with h5|⟨h0,h5⟩
  ·rcases S.evo k ⟨b,r,l,h5,h2,h3,h4⟩ with h6|h6
   ·exact .inl h6
   ·exact .inr (hrw k h6)
  ·obtain⟨l1,g1,g2,_⟩:=hold b r h0 h5
   rw[h3] at g2;injection g2 with g2;subst g2
   exact .inr ⟨b,r,l,h5,h2,g1,h4⟩
 ·obtain⟨b,r,l,h1,h3,h4⟩:=hk
  rcases hN b r h1 with h5|⟨h0,h5⟩
  ·rcases S.evl k ⟨b,r,l,h5,h3,h4⟩ with h6|h6
   ·exact .inl h6
   ·exact .inr (hlv k h6)
  ·obtain⟨l1,g1,g2,_⟩:=hold b r h0 h5
   rw[h3] at g2;injection g2 with g2;subst g2
   exact .inr ⟨b,r,l,h5,g1,h4⟩
theorem bR.apart{ι ι':bS}{M M1 N:aC}{w w':World}(R:fZ ι M1 w)(hM:∀ b r,M.get b=some r→M1.get b=some r)(S:bR ι M w ι' N w'){b:Nat}{r:hY}(h0:M.get b=none)(h1:M1.get b=some r):
 N.get b=none:=by
 cases hN:N.get b with
 | none=>rfl
 | some s=>
   exfalso
   obtain⟨l,h2,h3⟩:=R.live b r h1
   have h4:=S.ext _ _ h2
   rcases S.evl l.blk ⟨b,s,l,hN,h4,rfl⟩ with h5|⟨c,s',l',g1,g2,g3⟩
   ·have:=vS h3;omega
   ·have:=R.inj b c r s' l l' h1 (hM c s' g1) h2 g2 g3.symm
    subst this
    rw[h0] at g1;cases g1
theorem aB.frame1{P:Program}{f:FuncId}{args:List AV}{M:aC}{Q:AV→aC→Prop}(h:aB P f args M Q){b:Nat}{r:hY}(h0:M.get b=none):
 aB P f args (M.put b r) fun x N=>∃ N0,Q x N0∧N0.get b=none∧M.next≤N0.next∧N=N0.put b r:=by
 intro ι w vs hv R
 have hM:∀ c s,M.get c=some s→(M.put b r).get c=some s:=fun c s hc=>by
  rw[aC.get_put,if_neg (fun he=>by subst he;rw[h0] at hc;cases hc)]
  exact hc
 have R0:fZ ι M w:=R.forget (Nat.le_refl _) hM
 have h1:(M.put b r).get b=some r:=by rw[aC.get_put,if_pos rfl]
 refine (h ι w vs hv R0).mono ?_
 rintro e w' ⟨ι',v,x,N0,rfl,h2,h3,h4⟩
 refine⟨ι',v,x,N0.put b r,rfl,h2,bR.over R hM rfl h3 (fun c s hc=>?_) (Nat.le_refl _),N0,h4,bR.apart R hM h3 h0 h1,h3.nxt,rfl⟩
 rw[aC.get_put] at hc
 split at hc
 ·rename_i he
  subst he
  injection hc with hc;subst hc
  exact .inr ⟨h0,h1⟩
 ·exact .inl hc
def fV(st:St)(d:Option Tmp)(x:AV)(M:aC):St:={ n:=st.n,t:=setd st.t d x,m:=M }
def stepX(T:bQ)(ops:Array Oper)(id:Nat)(o:Oper)(st:St)(K:St→Prop):Prop:=
 aA (wK ops st.t o) fun b=>aE b
  (aFN (eE T o)
   (wO T o st fun x M'=>K (fV st o.dst x M'))
   (aA (yR T st.t o id) fun y=>K (fV st o.dst y.1 (st.m.put id y.2)))
   (aA (bX T st.t o st.m) fun y=>K (fV st o.dst y.1 st.m)))
  (K (fV st o.dst eY st.m))
def aIy(T:bQ)(ops:Array Oper)(s:St)(j:Nat):Prop:=
 ∀ o,ops[j]? =some o→wK ops s.t o=some true→∃ x M',bX T s.t o s.m=some (x,M')∧∀ d,o.dst=some d→s.t.get d=some x
def aIs(T:bQ)(ops:Array Oper)(l:List Nat)(s:St):Prop:=∀ j∈l,aIy T ops s j
def obs(ob:List (List Nat))(i:Nat)(acc:List Nat):List Nat:=(ob.getD i []).filter fun j=>acc.contains j
def wX(T:bQ)(ops:Array Oper)(base:Nat)(rk:List Nat)(ob:List (List Nat)):List Nat→List Nat→St→(St→Prop)→Prop
 | [],_,st,K=>K st
 | i::is,acc,st,K=>aA ops[i]? fun o=>stepX T ops (base+rk.getD i 0) o st fun s=>aIs T ops (obs ob i acc) s∧wX T ops base rk ob is (i::acc) s K
def aDb(o:Oper):Bool:=
 match o.op with
 | .call c=>match c.callee with
   | .value _=>true
   | _=>false
 | _=>false
def aGq(o:Oper):Bool:=
 match o.op with
 | .call c=>match c.callee with
   | .builtin .append=>true
   | _=>false
 | _=>false
def cok(T:bQ)(ob:List (List Nat))(j i:Nat)(oj oi:Oper):Bool:=
 match eE T oj,eE T oi with
 | .pure,_=>true
 | _,.pure=>true
 | .read,.read=>true
 | .read,.flt=>true
 | .read,.eff=>(ob.getD i []).contains j
 | .flt,.flt=>true
 | .eff,.flt=>aDb oj||aGq oj
 | _,_=>false
def aR2(T:bQ)(ops:Array Oper)(ob:List (List Nat))(j i:Nat):Bool:=
 match ops[j]?,ops[i]? with
 | some oj,some oi=>cok T ob j i oj oi
 | _,_=>false
def aG2(T:bQ)(ops:Array Oper)(ms:List Nat)(ob:List (List Nat)):List Nat→Bool
 | []=>true
 | j::r=>(r.all fun i=> !Nat.beq j i&&(!bf ms i j&&(bf ms j i||aR2 T ops ob j i)))&&aG2 T ops ms ob r
def aGw(T:bQ)(o:Oper):Bool:=match eE T o with| .flt=>true|_=>false
def aGh(T:bQ)(o:Oper):Bool:=match eE T o with| .read=>true|_=>false
def aSq(T:bQ)(ops:Array Oper)(rk:List Nat)(c:Nat):Bool:=
 wT (fun i o=> !aGw T o||(Nat.blt (rk.getD i 0) c&&wT (fun j oj=> !aGw T oj||(Nat.beq i j|| !Nat.beq (rk.getD i 0) (rk.getD j 0))) ops.toList 0)) ops.toList 0
def obB(T:bQ)(ops:Array Oper)(ms:List Nat)(ob:List (List Nat)):Bool:=
 wT (fun i o=>(match ob.getD i [] with|[]=>true|_::_=>zU T o)&&
  ((ob.getD i []).all fun k=>match ops[k]? with
    | none=>false
    | some ok=>aGh T ok&&((mW ops ok).all fun t=>wT (fun j oj=> !aBz oj t||bf ms j k) ops.toList 0))) ops.toList 0
def aEp(T:bQ)(ops:Array Oper)(perm rk:List Nat)(ob:List (List Nat))(c:Nat):Bool:=
 (perm.all fun i=>Nat.blt i ops.toList.length)&&(wT (fun i _=>perm.contains i) ops.toList 0&&(aG2 T ops (dW ops.toList []) ob perm&&(aSq T ops rk c&&obB T ops (dW ops.toList []) ob)))
structure Rl (T:bQ) (ops:Array Oper) (ob:List (List Nat)) (j i:Nat):Prop where
 ne:j≠i
 nb:bf (dW ops.toList []) i j=false
 ok:bf (dW ops.toList []) j i=true∨∀ oj oi,ops[j]? =some oj→ops[i]? =some oi→cok T ob j i oj oi=true
structure aAD (T:bQ) (ops:Array Oper) (perm rk:List Nat) (ob:List (List Nat)) (c:Nat):Prop where
 all:∀ i,i<ops.size→i∈perm
 lt:∀ i∈perm,i<ops.size
 pair:perm.Pairwise (Rl T ops ob)
 fid:∀ i o,ops[i]? =some o→eE T o= .flt→rk.getD i 0<c
 fin:∀ i j oi oj,ops[i]? =some oi→ops[j]? =some oj→eE T oi= .flt→eE T oj= .flt→rk.getD i 0=rk.getD j 0→i=j
 obe:∀ i o,ops[i]? =some o→eE T o≠ .eff→ob.getD i []=[]
 obr:∀ i o k,ops[i]? =some o→k∈ob.getD i []→∃ ok,ops[k]? =some ok∧eE T ok= .read∧∀ t∈mW ops ok,∀ (j:Nat) (oj:Oper),ops[j]? =some oj→oj.dst=some t→bf (dW ops.toList []) j k=true
theorem aDW{T:bQ}{o:Oper}(h:eE T o= .flt):aGw T o=true:=by unfold aGw;rw[h]
theorem aDS{T:bQ}{ops:Array Oper}{ob:List (List Nat)}:∀ {l:List Nat},aG2 T ops (dW ops.toList []) ob l=true→l.Pairwise (Rl T ops ob)
 | [],_=> .nil
 | j::r,h=>by
   unfold aG2 at h
   rw[Bool.and_eq_true,List.all_eq_true] at h
   refine .cons (fun i hi=>?_) (aDS h.2)
   have:=h.1 i hi
   simp only[Bool.and_eq_true,Bool.not_eq_true',Bool.or_eq_true] at this
   obtain⟨h1,h2,h3⟩:=this
   refine⟨fun he=>by subst he;simp at h1,h2,h3.imp id fun h4 oj oi hj hi=>?_⟩
   unfold aR2 at h4
   rw[hj,hi] at h4
   exact h4
theorem aKF{T:bQ}{ops:Array Oper}{perm rk:List Nat}{ob:List (List Nat)}{c:Nat}(h:aEp T ops perm rk ob c=true):aAD T ops perm rk ob c:=by
 unfold aEp at h
 simp only[Bool.and_eq_true] at h
 obtain⟨h1,h2,h3,h4,h5⟩:=h
 have g4:∀ i o,ops[i]? =some o→eE T o= .flt→rk.getD i 0<c∧∀ j oj,ops[j]? =some oj→eE T oj= .flt→rk.getD i 0=rk.getD j 0→i=j:=fun i o ho hc=>by
  unfold aSq at h4
  have:=kW h4 i o (by simpa using ho)
  rw[aDW hc,Nat.zero_add] at this
  simp only[Bool.not_true,Bool.false_or,Bool.and_eq_true,Nat.blt_eq] at this
  refine⟨this.1,fun j oj hj hcj he=>?_⟩
  have:=kW this.2 j oj (by simpa using hj)
  rw[aDW hcj,Nat.zero_add] at this
  simp only[Bool.not_true,Bool.false_or,Bool.or_eq_true,Nat.beq_eq,Bool.not_eq_true'] at this
  rcases this with h|h
  ·exact h
  ·rw[he] at h;simp at h
 have g5:∀ i o,ops[i]? =some o→(match ob.getD i [] with|[]=>true|_::_=>zU T o)=true∧∀ k∈ob.getD i [],(match ops[k]? with
  | none=>false
  | some ok=>aGh T ok&&((mW ops ok).all fun t=>wT (fun j oj=> !aBz oj t||bf (dW ops.toList []) j k) ops.toList 0))=true:=fun i o ho=>by
  unfold obB at h5
  have:=kW h5 i o (by simpa using ho)
  rw[Nat.zero_add,Bool.and_eq_true,List.all_eq_true] at this
  exact this
 refine⟨fun i hi=>?_,fun i hi=>?_,aDS h3,fun i o ho hc=>(g4 i o ho hc).1,fun i j oi oj hi hj hci hcj he=>(g4 i oi hi hci).2 j oj hj hcj he,fun i o ho hc=>?_,fun i o k ho hk=>?_⟩
 ·have:=kW h2 i ops[i] (by simp[hi])
  rw[Nat.zero_add] at this
  simpa using this
 ·have:=List.all_eq_true.1 h1 i hi
  simpa using this
 ·have:=(g5 i o ho).1
  split at this
  ·assumption
  ·unfold zU at this
   split at this
   ·rename_i h;exact absurd h hc
   ·cases this
 ·have:=(g5 i o ho).2 k hk
  split at this
  ·cases this
  ·rename_i ok hok
   simp only[Bool.and_eq_true,List.all_eq_true] at this
   refine⟨ok,hok,?_,fun t ht j oj hj hjt=>?_⟩
   ·have h:=this.1
    unfold aGh at h
    split at h
    ·assumption
    ·cases h
   ·have:=kW (this.2 t ht) j oj (by simpa using hj)
    rw[aAp hjt,Nat.zero_add] at this
    simpa using this
def Ag(ops:Array Oper)(o:Oper)(t t':Tr AV):Prop:=∀ x∈mW ops o,t.get x=t'.get x
theorem Ag.refl{ops:Array Oper}{o:Oper}(t:Tr AV):Ag ops o t t:=fun _ _=>rfl
theorem Ag.symm{ops:Array Oper}{o:Oper}{t t':Tr AV}(h:Ag ops o t t'):Ag ops o t' t:=fun x hx=>(h x hx).symm
theorem Ag.trans{ops:Array Oper}{o:Oper}{t t' t'':Tr AV}(h:Ag ops o t t')(k:Ag ops o t' t''):Ag ops o t t'':=fun x hx=>(h x hx).trans (k x hx)
theorem Ag.opnd{ops:Array Oper}{o:Oper}{t t':Tr AV}(h:Ag ops o t t'):∀ x∈o.op.operands.toList,opnd t x=opnd t' x:=aE2 fun x hx=>h x (by unfold mW;simp[hx])
theorem Ag.wanted{ops:Array Oper}{o:Oper}{t t':Tr AV}(h:Ag ops o t t'):wK ops t o=wK ops t' o:=aDo h
theorem Ag.eval{ops:Array Oper}{o:Oper}{t t':Tr AV}(h:Ag ops o t t')(T:bQ)(M:aC):bX T t o M=bX T t' o M:=aCE T h.opnd M
theorem Ag.fl{ops:Array Oper}{o:Oper}{t t':Tr AV}(h:Ag ops o t t')(T:bQ)(id:Nat):yR T t o id=yR T t' o id:=aFA T h.opnd id
theorem Ag.callee{ops:Array Oper}{o:Oper}{t t':Tr AV}(h:Ag ops o t t'):dP t o=dP t' o:=aDq h.opnd
theorem Ag.setd{ops:Array Oper}{o:Oper}(t:Tr AV){d:Option Tmp}(v:AV)(h:∀ x∈mW ops o,d≠some x):Ag ops o (setd t d v) t:=fun x hx=>vE t v (h x hx)
theorem kR{T:bQ}{ops:Array Oper}{id:Nat}{o:Oper}{st:St}{K K':St→Prop}(hk:∀ s,K s→K' s)(h:stepX T ops id o st K):stepX T ops id o st K':=by
 unfold stepX at h ⊢
 obtain⟨b,hw,h⟩:=lU h
 rw[hw,eM]
 cases b with
 | false=>exact hk _ h
 | true=>
   rw[jF] at h ⊢
   cases hc:eE T o <;> rw[hc] at h <;> simp only[lS,iR,fB,gH] at h ⊢
   case eff=>
    unfold wO at h ⊢
    cases hcal:dP st.t o with
    | some c=>
      rw[hcal,dA] at h
      rw[dA]
      obtain⟨F,hF,h⟩:=lU h
      rw[hF,eM]
      exact h.mono fun x M' hx=>hk _ hx
    | none=>
      rw[hcal,fL] at h
      rw[fL]
      obtain⟨y,hy,h⟩:=lU h
      rw[hy,eM]
      exact hk _ h
   all_goals
    obtain⟨y,hy,h⟩:=lU h
    rw[hy,eM]
    exact hk _ h
theorem aHa{ob:List (List Nat)}{i:Nat}{acc acc':List Nat}(h:∀ x∈acc',x∈acc){k:Nat}(hk:k∈obs ob i acc'):k∈obs ob i acc:=by
 unfold obs at hk ⊢
 rw[List.mem_filter] at hk ⊢
 refine⟨hk.1,?_⟩
 have:=hk.2
 simp only[List.contains_iff_mem] at this ⊢
 exact h k this
theorem aGm{T:bQ}{ops:Array Oper}{base:Nat}{rk:List Nat}{ob:List (List Nat)}{K:St→Prop}:∀ {l acc acc':List Nat} {st:St},(∀ x∈acc',x∈acc)→
 wX T ops base rk ob l acc st K→wX T ops base rk ob l acc' st K
 | [],_,_,_,_,h=>h
 | i::is,acc,acc',st,hs,h=>by
   unfold wX at h ⊢
   obtain⟨o,ho,h⟩:=lU h
   rw[ho,eM]
   refine kR ?_ h
   rintro s ⟨h1,h2⟩
   refine⟨fun j hj=>h1 j (aHa hs hj),aGm (fun x hx=>?_) h2⟩
   simp only[List.mem_cons] at hx ⊢
   exact hx.imp id (hs x)
theorem aB6{T:bQ}{fr:Tr AV}{o:Oper}(hc:eE T o= .read){M M1 M':aC}{x:AV}(hM:∀ b r,M.get b=some r→M1.get b=some r)(h:bX T fr o M=some (x,M')):
 bX T fr o M1=some (x,M1):=by
 have hcell:∀ {b o:Nat} {y:AV},M.cellAt b o=some y→M1.cellAt b o=some y:=fun {b o y} h=>by
  unfold aC.cellAt at h ⊢
  split at h
  ·rename_i cs rw' hg
   rw[hM _ _ hg];exact h
  ·cases h
 have hcells:∀ {b o n:Nat} {y:List AV},M.cellsAt b o n=some y→M1.cellsAt b o n=some y:=fun {b o n y} h=>by
  unfold aC.cellsAt at h ⊢
  split at h
  ·rename_i cs rw' hg
   rw[hM _ _ hg];exact h
  ·cases h
 have hents:∀ {m:AV} {es},gX M m=some es→gX M1 m=some es:=fun {m es} h=>by
  unfold gX at h ⊢
  split at h
  ·exact h
  ·rename_i b
   split at h
   ·rename_i es' hg
    rw[hM _ _ hg];exact h
   ·cases h
  ·cases h
 have hlen:∀ {c:Bool} {t:TypeId} {y:AV} {n:Nat},bD T c t y M=some n→bD T c t y M1=some n:=fun {c t y n} h=>by
  unfold bD at h ⊢
  split at h
  ·cases h
  ·rename_i ti hti
   split at h <;> try exact h
   rename_i k v m hk _ _ _
   cases c with
   | true=>cases h
   | false=>
     rw[cond_false] at h ⊢
     obtain⟨es,he,hl⟩:=Option.map_eq_some_iff.1 h
     rw[hents he];simp[hl]
 obtain⟨dst,op,type,pos,after,guard⟩:=o
 unfold bX at h ⊢
 unfold eE at hc
 cases op <;> simp only at hc h ⊢ <;> try (cases hc;done)
 case makeFunc fn a b=>cases fn <;> simp only at hc <;> cases hc
 case makeMap t r=>cases r <;> simp only at hc <;> cases hc
 case convert s d y=>
  split at hc
  ·split at hc <;> cases hc
  ·cases hc
 case load t y=>
  obtain⟨u,hu,he⟩:=Option.map_eq_some_iff.1 h
  injection he with h1 h2;subst h1
  have:aY T t (opnd fr y) M1=some u:=by
   unfold aY at hu ⊢
   split at hu
   ·split at hu
    ·rename_i ti hti
     cases hagg:ti.isAgg with
     | true=>
       rw[hagg] at hu
       simp only[hagg,cond_true] at hu ⊢
       obtain⟨zs,hz,rfl⟩:=Option.map_eq_some_iff.1 hu
       rw[hcells hz];rfl
     | false=>
       rw[hagg] at hu
       simp only[hagg,cond_false] at hu ⊢
       exact hcell hu
    ·cases hu
   ·cases hu
  rw[this];rfl
 case lookup t m k b=>
  obtain⟨u,hu,he⟩:=Option.map_eq_some_iff.1 h
  injection he with h1 h2;subst h1
  have:fT T t (opnd fr m) (opnd fr k) b M1=some u:=by
   unfold fT at hu ⊢
   split at hu
   ·cases hu
   ·rename_i ti hti
    split at hu
    ·rename_i kt vt hk
     split at hu
     ·rename_i q1 tv es hq1 htv hes
      simp only[hq1,htv,hents hes]
      exact hu
     ·cases hu
    ·cases hu
  rw[this];rfl
 case call c=>
  have hm:∀ {cc:Bool} {xs:List AV},cJ T (cond cc .len .cap) c.argTypes type xs M=some (x,M')→cJ T (cond cc .len .cap) c.argTypes type xs M1=some (x,M1):=fun {cc xs} h=>by
   cases cc with
   | true=>
     cases xs with
     | nil=>simp[cJ] at h
     | cons y ys=>
       cases ys with
       | cons z zs=>simp[cJ] at h
       | nil=>
         simp only[cJ,cond_true] at h ⊢
         split at h
         ·obtain⟨u,hu,he⟩:=Option.map_eq_some_iff.1 h
          injection he with h1 h2;subst h1
          rw[hlen hu];rfl
         ·cases h
   | false=>
     cases xs with
     | nil=>simp[cJ] at h
     | cons y ys=>
       cases ys with
       | cons z zs=>simp[cJ] at h
       | nil=>
         simp only[cJ,cond_false] at h ⊢
         split at h
         ·obtain⟨u,hu,he⟩:=Option.map_eq_some_iff.1 h
          injection he with h1 h2;subst h1
          rw[hlen hu];rfl
         ·cases h
  split at hc
  ·rename_i hcal
   rw[hcal] at h ⊢
   exact hm (cc:=true) h
  ·rename_i hcal
   rw[hcal] at h ⊢
   exact hm (cc:=false) h
  all_goals cases hc
theorem zH{M:aC}{b:Nat}{r:hY}(h0:M.get b=none):∀ c s,M.get c=some s→(M.put b r).get c=some s:=fun c s hc=>by
 rw[aC.get_put,if_neg (fun he=>by subst he;rw[h0] at hc;cases hc)]
 exact hc
theorem aIC{M:aC}{b c:Nat}{r:hY}(h0:M.get b=none)(hg:M.get c=some r):b≠c:=fun he=>by subst he;rw[h0] at hg;cases hg
theorem xV{size k:Nat}{x:AV}{M M1:aC}{xs:List AV}(hM:∀ c s,M.get c=some s→M1.get c=some s)(h:evFirst size k x M=some xs):evFirst size k x M1=some xs:=by
 unfold evFirst at h ⊢
 split at h <;> try exact h
 rw[cond_eq_ite] at h ⊢
 split at h
 ·rename_i h1
  rw[if_pos h1]
  rw[cond_eq_ite] at h ⊢
  split at h
  ·rename_i h2;rw[if_pos h2];exact h
  ·rename_i h2
   rw[if_neg h2]
   unfold aC.cellsAt at h ⊢
   split at h
   ·rename_i cs rw' hg
    rw[hM _ _ hg];exact h
   ·cases h
 ·cases h
theorem tH{size bytes n len b0:Nat}{ex:Option Nat}{s y:AV}{new:List AV}{M N:aC}(h:iX size bytes n len b0 ex s new M=some (y,N)){b:Nat}{r:hY}(h0:M.get b=none)(hb:b<M.next):
 iX size bytes n len b0 ex s new (M.put b r)=some (y,N.put b r)∧N.get b=none∧M.next≤N.next:=by
 unfold iX at h ⊢
 rw[cond_eq_ite] at h ⊢
 split at h
 ·rename_i h1
  rw[if_pos h1]
  split at h
  ·cases h
  ·rename_i old hold
   rw[xV (zH h0) hold]
   simp only
   rw[cond_eq_ite] at h ⊢
   split at h
   ·rename_i h2
    rw[if_pos h2]
    cases ex with
    | none=>
      simp only[Option.some.injEq,Prod.mk.injEq] at h ⊢
      obtain⟨rfl,rfl⟩:=h
      refine⟨⟨rfl,?_⟩,?_,Nat.le_succ _⟩
      ·unfold aC.new aC.put
       simp only[Tr.set_comm _ _ _ (show b≠M.next by omega)]
      ·rw[aC.get_new,if_neg (by omega)];exact h0
    | some se=>
      simp only at h ⊢
      split at h
      ·rename_i cs hg
       have hbb:b≠b0:=fun he=>by subst he;rw[h0] at hg;cases hg
       rw[zH h0 _ _ hg]
       simp only
       rw[cond_eq_ite] at h ⊢
       split at h
       ·rename_i h3
        rw[if_pos h3]
        rw[cond_eq_ite] at h ⊢
        split at h
        rotate_left
        ·cases h
        rename_i hz
        rw[if_pos hz]
        rw[cond_eq_ite] at h ⊢
        split at h
        ·rename_i h4
         rw[if_pos h4]
         simp only[Option.some.injEq,Prod.mk.injEq] at h ⊢
         obtain⟨rfl,rfl⟩:=h
         refine⟨⟨rfl,?_⟩,?_,Nat.le_succ _⟩
         ·unfold aC.new aC.put aC.kill
          simp only
          rw[Tr.set_comm _ _ _ hbb,Tr.set_comm _ _ _ (show b≠M.next by omega)]
         ·rw[aC.get_new,if_neg (by simp;omega),aC.get_kill,if_neg hbb];exact h0
        ·cases h
       ·cases h
      ·cases h
   ·cases h
 ·cases h
theorem aFT{T:bQ}{t1 t2:TypeId}{s x y:AV}{M N:aC}(h:aR T t1 t2 s x M=some (y,N)){b:Nat}{r:hY}(h0:M.get b=none)(hb:b<M.next):
 aR T t1 t2 s x (M.put b r)=some (y,N.put b r)∧N.get b=none∧M.next≤N.next:=by
 unfold aR at h ⊢
 split at h
 ·split at h
  ·split at h
   ·cases h
   ·split at h
    ·cases h
    ·split at h
     ·cases h
     ·rename_i te hte n hn new hnew
      rw[xV (zH h0) hnew]
      simp only
      rw[cond_eq_ite] at h ⊢
      split at h
      ·rename_i h1
       rw[if_pos h1]
       split at h
       ·rw[cond_eq_ite] at h ⊢
        split at h
        ·rename_i h2
         rw[if_pos h2]
         simp only[Option.some.injEq,Prod.mk.injEq] at h ⊢
         obtain⟨rfl,rfl⟩:=h
         exact⟨⟨rfl,rfl⟩,h0,Nat.le_refl _⟩
        ·rename_i h2
         rw[if_neg h2]
         exact tH h h0 hb
       ·rw[cond_eq_ite] at h ⊢
        split at h
        ·rename_i h2
         rw[if_pos h2]
         rw[cond_eq_ite] at h ⊢
         split at h
         ·rename_i h3
          rw[if_pos h3]
          simp only[Option.some.injEq,Prod.mk.injEq] at h ⊢
          obtain⟨rfl,rfl⟩:=h
          exact⟨⟨rfl,rfl⟩,h0,Nat.le_refl _⟩
         ·rename_i h3
          rw[if_neg h3]
          obtain⟨M',hM',he⟩:=Option.map_eq_some_iff.1 h
          injection he with e1 e2;subst e1 e2
          unfold aC.storeAt at hM' ⊢
          split at hM'
          ·rename_i cs hg
           have hbb:=aIC h0 hg
           rw[zH h0 _ _ hg]
           simp only
           rw[cond_eq_ite] at hM' ⊢
           split at hM'
           ·rename_i h4
            rw[if_pos h4]
            rw[cond_eq_ite] at hM' ⊢
            split at hM'
            ·rename_i h5
             rw[if_pos h5]
             injection hM' with hM';subst hM'
             refine⟨?_,?_,Nat.le_refl _⟩
             ·simp only[Option.map_some]
              rw[aC.put_comm _ _ _ hbb]
             ·rw[aC.get_put,if_neg hbb];exact h0
            ·cases hM'
           ·cases hM'
          ·cases hM'
        ·rename_i h2
         rw[if_neg h2]
         exact tH h h0 hb
       ·cases h
      ·cases h
  ·cases h
 ·split at h
  ·split at h
   ·cases h
   ·split at h
    ·rw[cond_eq_ite] at h ⊢
     split at h
     ·rename_i h1
      rw[if_pos h1]
      rw[cond_eq_ite] at h ⊢
      split at h
      ·rename_i h2
       rw[if_pos h2]
       rw[cond_eq_ite] at h ⊢
       split at h
       ·cases h
       ·rename_i h3
        rw[if_neg h3]
        rw[cond_eq_ite] at h ⊢
        split at h
        ·cases h
        ·rename_i h4
         rw[if_neg h4]
         exact tH h h0 hb
      ·cases h
     ·cases h
    ·cases h
  ·cases h
 ·cases h
theorem aOi{T:bQ}{fr:Tr AV}{o:Oper}(ho:aGq o=true){M N:aC}{y:AV}(h:bX T fr o M=some (y,N)){b:Nat}{r:hY}(h0:M.get b=none)(hb:b<M.next):
 bX T fr o (M.put b r)=some (y,N.put b r)∧N.get b=none∧M.next≤N.next:=by
 unfold aGq at ho
 split at ho
 ·rename_i c hop
  split at ho
  ·rename_i hcal
   unfold bX at h ⊢
   rw[hop] at h ⊢
   simp only[hcal] at h ⊢
   unfold cJ at h ⊢
   split at h <;> try (cases h;done)
   all_goals try (have hq:= ‹Builtin.append=_›;cases hq;done)
   split at h
   ·rename_i s x _ _ ht1 ht2
    exact aFT h h0 hb
   ·cases h
  ·cases ho
 ·cases ho
end Go.AM
