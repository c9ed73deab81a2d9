import Derived.Calls
import Derived.Orders
import Derived.KernelRfl
import GoSem.Dispatch
import Derived.Laws.Cells
import Derived.Laws.Entries
import Derived.Laws.BytesString
set_option linter.unusedSimpArgs false
set_option linter.unusedVariables false
set_option linter.unusedSectionVars false
noncomputable section
namespace Go.AM
def _root_.Go.Value.uno:Value→Bool
 | .agg _| .tuple _=>false
 | _=>true
inductive Tr (α:Type) where
 | e:Tr α
 | n (l:Tr α) (x:Option α) (r:Tr α):Tr α
namespace Tr
variable {α:Type}
def get(t:Tr α):Nat→Option α:=
 @Tr.rec α (fun _=>Nat→Option α) (fun _=>none)
  (fun _ x _ gl gr i=> @Bool.rec (fun _=>Option α) (@Bool.rec (fun _=>Option α) (gr (Nat.sub (Nat.div i 2) 1)) (gl (Nat.div i 2)) (Nat.beq (Nat.mod i 2) 1)) x (Nat.beq i 0)) t
theorem get_e(i:Nat):(Tr.e:Tr α).get i=none:=rfl
def left:Tr α→Tr α
 | .e=> .e
 | .n l _ _=>l
def right:Tr α→Tr α
 | .e=> .e
 | .n _ _ r=>r
def here:Tr α→Option α
 | .e=>none
 | .n _ x _=>x
def setF(f:Nat):Tr α→Nat→Option α→Tr α:=
 @Nat.rec (fun _=>Tr α→Nat→Option α→Tr α) (fun t _ _=>t)
  (fun _ ih t i y=> @Tr.rec α (fun _=>Tr α)
   (@Bool.rec (fun _=>Tr α) (@Bool.rec (fun _=>Tr α) (.n .e none (ih .e (Nat.sub (Nat.div i 2) 1) y)) (.n (ih .e (Nat.div i 2) y) none .e) (Nat.beq (Nat.mod i 2) 1)) (.n .e y .e) (Nat.beq i 0))
   (fun l x r _ _=> @Bool.rec (fun _=>Tr α) (@Bool.rec (fun _=>Tr α) (.n l x (ih r (Nat.sub (Nat.div i 2) 1) y)) (.n (ih l (Nat.div i 2) y) x r) (Nat.beq (Nat.mod i 2) 1)) (.n l y r) (Nat.beq i 0)) t) f
theorem nO{β:Type}(a b:β)(c:Bool): @Bool.rec (fun _=>β) a b c=cond c b a:=by cases c <;> rfl
theorem rR(f:Nat)(t:Tr α)(i:Nat)(y:Option α):setF (f+1) t i y=
 cond (Nat.beq i 0) (.n t.left y t.right)
  (cond (Nat.beq (Nat.mod i 2) 1) (.n (setF f t.left (Nat.div i 2) y) t.here t.right) (.n t.left t.here (setF f t.right (Nat.div i 2-1) y))):=by
 cases t <;> (show @Bool.rec (fun _=>Tr α) _ _ _=_) <;> rw[nO,nO] <;> rfl
def set(t:Tr α)(i:Nat)(y:Option α):Tr α:=setF (Nat.succ i) t i y
theorem aG5(l r:Tr α)(x:Option α)(i:Nat):
 (Tr.n l x r).get i=if i=0 then x else if i%2=1 then l.get (i/2) else r.get (i/2-1):=by
 show @Bool.rec (fun _=>Option α) _ _ _=_
 rw[nO,nO,cond_eq_ite,cond_eq_ite]
 simp only[Nat.beq_eq]
 rfl
theorem aC4(t:Tr α)(i:Nat):t.get i=if i=0 then t.here else if i%2=1 then t.left.get (i/2) else t.right.get (i/2-1):=by
 cases t with
 | e=>simp[get_e,here,left,right]
 | n l x r=>rw[aG5];rfl
theorem zZ:∀ (f:Nat) (t:Tr α) (i:Nat) (y:Option α) (j:Nat),i<f→(setF f t i y).get j=if j=i then y else t.get j
 | 0,_,_,_,_,h=>absurd h (by omega)
 | f+1,t,i,y,j,h=>by
   simp only[rR,cond_eq_ite,Nat.beq_eq]
   have e2:∀ k,Nat.mod k 2=k%2:=fun _=>rfl
   have e3:∀ k,Nat.div k 2=k/2:=fun _=>rfl
   rw[e2,e3]
   by_cases h0:i=0
   ·subst h0
    simp only[if_true]
    rw[aG5,aC4 t j]
    by_cases hj:j=0
    ·simp[hj]
    ·simp[hj]
   ·simp only[h0,if_false]
    by_cases h1:i%2=1
    ·simp only[h1,if_true]
     rw[aG5,aC4 t j,zZ f t.left (i/2) y (j/2) (by omega)]
     by_cases hj:j=0
     ·subst hj
      have:¬ (0=i):=by omega
      simp[this]
     ·simp only[hj,if_false]
      by_cases hj1:j%2=1
      ·simp only[hj1,if_true]
       by_cases hji:j=i
       ·subst hji;simp
       ·have:¬ (j/2=i/2):=by omega
        simp[this,hji]
      ·have:¬ (j=i):=by intro h;subst h;exact hj1 h1
       simp[hj1,this]
    ·simp only[h1,if_false]
     rw[aG5,aC4 t j,zZ f t.right (i/2-1) y (j/2-1) (by omega)]
     by_cases hj:j=0
     ·subst hj
      have:¬ (0=i):=by omega
      simp[this]
     ·simp only[hj,if_false]
      by_cases hj1:j%2=1
      ·have:¬ (j=i):=by intro h;subst h;exact h1 hj1
       simp[hj1,this]
      ·simp only[hj1,if_false]
       by_cases hji:j=i
       ·subst hji;simp
       ·have:¬ (j/2-1=i/2-1):=by omega
        simp[this,hji]
theorem get_set(t:Tr α)(i:Nat)(y:Option α)(j:Nat):(t.set i y).get j=if j=i then y else t.get j:=
 zZ (i+1) t i y j (by omega)
theorem get_set_eq(t:Tr α)(i:Nat)(y:Option α):(t.set i y).get i=y:=by rw[get_set,if_pos rfl]
theorem get_set_ne(t:Tr α)(i:Nat)(y:Option α)(j:Nat)(h:j≠i):(t.set i y).get j=t.get j:=by rw[get_set,if_neg h]
def ofList(k:Nat):List α→Tr α
 | []=> .e
 | x::xs=>(ofList (k+1) xs).set k (some x)
end Tr
inductive AV where
 | val (v:Value)
 | ptr (b o:Nat)
 | sl (b o len cap:Nat) (ex:Option Nat)
 | map (b:Nat)
 | fn (f:FuncId) (first caps:List AV)
 | agg (cs:List AV)
 | tup (vs:List AV)
instance:Inhabited AV:=⟨.tup []⟩
def AV.one:AV→Bool
 | .agg _| .tup _=>false
 | _=>true
def AV.cells:AV→List AV
 | .agg cs=>cs
 | v=>[v]
def eY:AV:= .tup []
inductive hY where
 | cells (cs:List AV) (rw:Bool)
 | map (es:List (AV×AV))
 | sit (s:ByteArray) (pos:Nat)
def hY.rw:hY→Bool
 | .cells _ b=>b
 | _=>true
structure aC where
 next:Nat
 rows:Tr hY
def aC.get(M:aC)(b:Nat):Option hY:=M.rows.get b
def aC.put(M:aC)(b:Nat)(r:hY):aC:={ M with rows:=M.rows.set b (some r) }
def aC.kill(M:aC)(b:Nat):aC:={ M with rows:=M.rows.set b none }
def aC.new(M:aC)(r:hY):aC:={ next:=M.next+1,rows:=M.rows.set M.next (some r) }
theorem aC.get_put(M:aC)(b:Nat)(r:hY)(c:Nat):(M.put b r).get c=if c=b then some r else M.get c:=Tr.get_set _ _ _ _
theorem aC.get_kill(M:aC)(b c:Nat):(M.kill b).get c=if c=b then none else M.get c:=Tr.get_set _ _ _ _
theorem aC.get_new(M:aC)(r:hY)(c:Nat):(M.new r).get c=if c=M.next then some r else M.get c:=Tr.get_set _ _ _ _
@[simp] theorem aC.next_put (M:aC) (b:Nat) (r:hY):(M.put b r).next=M.next:=rfl
@[simp] theorem aC.next_kill (M:aC) (b:Nat):(M.kill b).next=M.next:=rfl
@[simp] theorem aC.next_new (M:aC) (r:hY):(M.new r).next=M.next+1:=rfl
structure wB where
 blk:Nat
 base:Nat
 size:Nat
abbrev bS:=Nat→Option wB
mutual
inductive VR (ι:bS):AV→Value→Prop
 | val (v:Value) (h:v.uno=true):VR ι (.val v) v
 | ptr (b o:Nat) (l:wB) (h:ι b=some l):VR ι (.ptr b o) (.pointer (some ⟨l.blk,l.base+o,none⟩))
 | slE (b o n c:Nat) (l:wB) (h:ι b=some l):VR ι (.sl b o n c none) (.slice (some ⟨l.blk,l.base+o,none⟩) n c)
 | slI (b o n c e c':Nat) (l:wB) (h:ι b=some l) (hc:c≤c') (hs:l.base+o+c'*e≤l.size):
  VR ι (.sl b o n c (some e)) (.slice (some ⟨l.blk,l.base+o,none⟩) n c')
 | slZ (b o e x:Nat) (l:wB) (h:ι b=some l):VR ι (.sl b o 0 0 (some e)) (.slice (some ⟨l.blk,x,none⟩) 0 0)
 | map (b:Nat) (l:wB) (h:ι b=some l):VR ι (.map b) (.map (some l.blk))
 | fn (f:FuncId) (fs cs:List AV) (vf vc:Array Value) (hf:VRs ι fs vf.toList) (hc:VRs ι cs vc.toList):
  VR ι (.fn f fs cs) (.func (.func f) vf vc)
 | agg (cs:List AV) (vs:Array Value) (h:VRs ι cs vs.toList):VR ι (.agg cs) (.agg vs)
 | tup (cs:List AV) (vs:Array Value) (h:VRs ι cs vs.toList):VR ι (.tup cs) (.tuple vs)
inductive VRs (ι:bS):List AV→List Value→Prop
 | nil:VRs ι [] []
 | cons (x:AV) (v:Value) (xs:List AV) (vs:List Value) (h:VR ι x v) (hs:VRs ι xs vs):VRs ι (x::xs) (v::vs)
end
def Ext(ι ι':bS):Prop:=∀ b l,ι b=some l→ι' b=some l
theorem Ext.refl(ι:bS):Ext ι ι:=fun _ _ h=>h
theorem Ext.trans{ι ι' ι'':bS}(h:Ext ι ι')(k:Ext ι' ι''):Ext ι ι'':=fun b l e=>k b l (h b l e)
mutual
theorem VR.mono{ι ι':bS}(he:Ext ι ι'):∀ {x:AV} {v:Value},VR ι x v→VR ι' x v
 | _,_,.val v h=> .val v h
 | _,_,.ptr b o l h=> .ptr b o l (he _ _ h)
 | _,_,.slE b o n c l h=> .slE b o n c l (he _ _ h)
 | _,_,.slI b o n c e c' l h hc hs=> .slI b o n c e c' l (he _ _ h) hc hs
 | _,_,.slZ b o e x l h=> .slZ b o e x l (he _ _ h)
 | _,_,.map b l h=> .map b l (he _ _ h)
 | _,_,.fn f fs cs vf vc hf hc=> .fn f fs cs vf vc (VRs.mono he hf) (VRs.mono he hc)
 | _,_,.agg cs vs h=> .agg cs vs (VRs.mono he h)
 | _,_,.tup cs vs h=> .tup cs vs (VRs.mono he h)
theorem VRs.mono{ι ι':bS}(he:Ext ι ι'):∀ {xs:List AV} {vs:List Value},VRs ι xs vs→VRs ι' xs vs
 | _,_,.nil=> .nil
 | _,_,.cons x v xs vs h hs=> .cons x v xs vs (VR.mono he h) (VRs.mono he hs)
end
theorem VR.undef(ι:bS):VR ι eY undef:= .tup [] #[] .nil
theorem VRs.length{ι:bS}:∀ {xs:List AV} {vs:List Value},VRs ι xs vs→xs.length=vs.length
 | _,_,.nil=>rfl
 | _,_,.cons _ _ _ _ _ hs=>by simp[VRs.length hs]
theorem VRs.get{ι:bS}:∀ {xs:List AV} {vs:List Value},VRs ι xs vs→∀ (i:Nat) (x:AV),xs[i]? =some x→∃ v,vs[i]? =some v∧VR ι x v
 | _,_,.nil,i,x,h=>by simp at h
 | _,_,.cons y v xs vs h1 hs,0,x,h=>by simp at h;subst h;exact⟨v,by simp,h1⟩
 | _,_,.cons y v xs vs h1 hs,i+1,x,h=>by simp at h;simpa using VRs.get hs i x h
theorem VRs.append{ι:bS}:∀ {xs:List AV} {vs:List Value} {ys:List AV} {us:List Value},VRs ι xs vs→VRs ι ys us→VRs ι (xs++ys) (vs++us)
 | _,_,_,_,.nil,h=>h
 | _,_,_,_,.cons x v xs vs h1 hs,h=> .cons _ _ _ _ h1 (VRs.append hs h)
theorem VRs.take{ι:bS}:∀ {xs:List AV} {vs:List Value},VRs ι xs vs→∀ n,VRs ι (xs.take n) (vs.take n)
 | _,_,.nil,n=>by simpa using VRs.nil
 | _,_,.cons x v xs vs h1 hs,0=>by simpa using VRs.nil
 | _,_,.cons x v xs vs h1 hs,n+1=>by simpa using VRs.cons _ _ _ _ h1 (VRs.take hs n)
theorem VRs.drop{ι:bS}:∀ {xs:List AV} {vs:List Value},VRs ι xs vs→∀ n,VRs ι (xs.drop n) (vs.drop n)
 | _,_,.nil,n=>by simpa using VRs.nil
 | _,_,.cons x v xs vs h1 hs,0=>by simpa using VRs.cons _ _ _ _ h1 hs
 | _,_,.cons x v xs vs h1 hs,n+1=>by simpa using VRs.drop hs n
theorem VRs.set{ι:bS}:∀ {xs:List AV} {vs:List Value},VRs ι xs vs→∀ (n:Nat) {y:AV} {u:Value},VR ι y u→VRs ι (xs.set n y) (vs.set n u)
 | _,_,.nil,n,y,u,h=>by simpa using VRs.nil
 | _,_,.cons x v xs vs h1 hs,0,y,u,h=>by simpa using VRs.cons _ _ _ _ h hs
 | _,_,.cons x v xs vs h1 hs,n+1,y,u,h=>by simpa using VRs.cons _ _ _ _ h1 (VRs.set hs n h)
theorem VRs.vals{ι:bS}:∀ (vs:List Value),(∀ v∈vs,v.uno=true)→VRs ι (vs.map .val) vs
 | [],_=> .nil
 | v::vs,h=> .cons _ _ _ _ (.val v (h v (by simp))) (VRs.vals vs fun u hu=>h u (by simp[hu]))
theorem VR.one{ι:bS}{x:AV}{v:Value}(h:VR ι x v):v.uno=x.one:=by
 cases h <;> first|rfl|assumption
theorem VR.cells{ι:bS}{x:AV}{v:Value}(h:VR ι x v):VRs ι x.cells v.cells.toList:=by
 cases h with
 | agg cs vs h=>exact h
 | val v h=>cases v <;> first|exact .cons _ _ _ _ (.val _ rfl) .nil|(simp[Value.uno] at h)
 | ptr b o l h=>exact .cons _ _ _ _ (.ptr b o l h) .nil
 | slE b o n c l h=>exact .cons _ _ _ _ (.slE b o n c l h) .nil
 | slI b o n c e c' l h hc hs=>exact .cons _ _ _ _ (.slI b o n c e c' l h hc hs) .nil
 | slZ b o e x l h=>exact .cons _ _ _ _ (.slZ b o e x l h) .nil
 | map b l h=>exact .cons _ _ _ _ (.map b l h) .nil
 | fn f fs cs vf vc hf hc=>exact .cons _ _ _ _ (.fn f fs cs vf vc hf hc) .nil
 | tup cs vs h=>exact .cons _ _ _ _ (.tup cs vs h) .nil
inductive eO (ι:bS):List (AV×AV)→List MapEntry→Prop
 | nil:eO ι [] []
 | cons (k x:AV) (m:MapEntry) (es:List (AV×AV)) (ms:List MapEntry) (hk:VR ι k m.key) (hv:VR ι x m.val) (hs:eO ι es ms):eO ι ((k,x)::es) (m::ms)
theorem eO.mono{ι ι':bS}(he:Ext ι ι'):∀ {es:List (AV×AV)} {ms:List MapEntry},eO ι es ms→eO ι' es ms
 | _,_,.nil=> .nil
 | _,_,.cons k x m es ms hk hv hs=> .cons k x m es ms (hk.mono he) (hv.mono he) (eO.mono he hs)
theorem eO.length{ι:bS}:∀ {es:List (AV×AV)} {ms:List MapEntry},eO ι es ms→es.length=ms.length
 | _,_,.nil=>rfl
 | _,_,.cons _ _ _ _ _ _ _ hs=>by simp[eO.length hs]
def iY(ms:List MapEntry)(c:Nat):Prop:=(∀ x∈ms,x.born<c)∧(ms.map (·.born)).Nodup
theorem iY.nil{c:Nat}:iY [] c:=⟨by simp,by simp⟩
theorem iY.push{ms:List MapEntry}{c:Nat}(h:iY ms c)(k v:Value):iY (ms++[{ key:=k,val:=v,born:=c }]) (c+1):=by
 refine⟨fun x hx=>?_,?_⟩
 ·rw[List.mem_append,List.mem_singleton] at hx
  rcases hx with hx|rfl
  ·exact Nat.lt_succ_of_lt (h.1 x hx)
  ·exact Nat.lt_succ_self _
 ·rw[List.map_append]
  refine List.nodup_append.2 ⟨h.2,by simp,?_⟩
  intro a ha b hb
  simp only[List.map_cons,List.map_nil,List.mem_singleton] at hb
  subst hb
  obtain⟨x,hx,rfl⟩:=List.mem_map.1 ha
  exact Nat.ne_of_lt (h.1 x hx)
theorem iY.same{ms ms':List MapEntry}{c:Nat}(h:iY ms c)(hs:ms'.map (·.born)=ms.map (·.born)):iY ms' c:=by
 refine⟨fun x hx=>?_,by rw[hs];exact h.2⟩
 have:x.born∈ms'.map (·.born):=List.mem_map.2 ⟨x,hx,rfl⟩
 rw[hs] at this
 obtain⟨y,hy,e⟩:=List.mem_map.1 this
 rw[← e];exact h.1 y hy
theorem iY.sub{ms ms':List MapEntry}{c:Nat}(h:iY ms c)(hs:ms'.Sublist ms):iY ms' c:=
 ⟨fun x hx=>h.1 x (hs.subset hx),h.2.sublist (hs.map _)⟩
def vA(ι:bS)(l:wB):hY→Option Obj→Prop
 | .cells cs rw,some (.cells c _ fr)=>c.size=l.size∧l.base+cs.length≤c.size∧VRs ι cs ((c.toList.drop l.base).take cs.length)∧
  (rw=true→∀ k,k<c.size→¬ (fr.1≤k∧k<fr.2))
 | .map es,some (.map ms c)=>eO ι es ms.toList∧iY ms.toList c
 | .sit s pos,some (.stringIter s' pos')=>s'=s∧pos'=pos∧l.base=0
 | _,_=>False
theorem vA.mono{ι ι':bS}(he:Ext ι ι'){l:wB}{r:hY}{o:Option Obj}(h:vA ι l r o):vA ι' l r o:=by
 cases r <;> cases o <;> try (exact h.elim)
 all_goals
  rename_i o
  cases o <;> try (exact h.elim)
 ·exact⟨h.1,h.2.1,h.2.2.1.mono he,h.2.2.2⟩
 ·exact⟨eO.mono he h.1,h.2⟩
 ·exact h
structure fZ (ι:bS) (M:aC) (w:World):Prop where
 dom:∀ b l,ι b=some l→b<M.next
 live:∀ b r,M.get b=some r→∃ l,ι b=some l∧vA ι l r w.heap[l.blk]?
 inj:∀ b b' r r' l l',M.get b=some r→M.get b'=some r'→ι b=some l→ι b'=some l'→l.blk=l'.blk→b=b'
 bas:∀ b l,ι b=some l→l.base=0
def aHv(ι:bS)(M:aC)(k:Nat):Prop:=∃ b r l,M.get b=some r∧r.rw=true∧ι b=some l∧l.blk=k
def lJ(ι:bS)(M:aC)(k:Nat):Prop:=∃ b r l,M.get b=some r∧ι b=some l∧l.blk=k
structure bR (ι:bS) (M:aC) (w:World) (ι':bS) (M':aC) (w':World):Prop where
 rel:fZ ι' M' w'
 ext:Ext ι ι'
 nxt:M.next≤M'.next
 new:∀ b l,ι' b=some l→ι b=some l∨M.next≤b
 size:w.heap.size≤w'.heap.size
 frame:∀ k,k<w.heap.size→¬ aHv ι M k→w'.heap[k]? =w.heap[k]?
 evo:∀ k,aHv ι' M' k→w.heap.size≤k∨aHv ι M k
 evl:∀ k,lJ ι' M' k→w.heap.size≤k∨lJ ι M k
 os:w'.os=w.os
 tape:w'.tape=w.tape
 output:w'.output=w.output
theorem bR.refl{ι:bS}{M:aC}{w:World}(R:fZ ι M w):bR ι M w ι M w:=
 ⟨R,Ext.refl ι,Nat.le_refl _,fun _ _ h=> .inl h,Nat.le_refl _,fun _ _ _=>rfl,fun _ h=> .inr h,fun _ h=> .inr h,rfl,rfl,rfl⟩
theorem bR.trans{ι ι1 ι2:bS}{M M1 M2:aC}{w w1 w2:World}(h:bR ι M w ι1 M1 w1)(k:bR ι1 M1 w1 ι2 M2 w2):bR ι M w ι2 M2 w2 where
 rel:=k.rel
 ext:=h.ext.trans k.ext
 nxt:=Nat.le_trans h.nxt k.nxt
 new:=fun b l hb=>by
  rcases k.new b l hb with h1|h1
  ·exact h.new b l h1
  ·exact .inr (Nat.le_trans h.nxt h1)
 size:=Nat.le_trans h.size k.size
 frame:=fun j hj hn=>by
  rw[k.frame j (Nat.lt_of_lt_of_le hj h.size) (fun hr=>by
   rcases h.evo j hr with h1|h1
   ·omega
   ·exact hn h1),h.frame j hj hn]
 evo:=fun j hj=>by
  rcases k.evo j hj with h1|h1
  ·exact .inl (Nat.le_trans h.size h1)
  ·exact h.evo j h1
 evl:=fun j hj=>by
  rcases k.evl j hj with h1|h1
  ·exact .inl (Nat.le_trans h.size h1)
  ·exact h.evl j h1
 os:=k.os.trans h.os
 tape:=k.tape.trans h.tape
 output:=k.output.trans h.output
theorem fZ.of_heap{ι:bS}{M:aC}{w w':World}(R:fZ ι M w)(h:w'.heap=w.heap):fZ ι M w':=
 ⟨R.dom,fun b r hr=>by obtain⟨l,hl,hrow⟩:=R.live b r hr;exact⟨l,hl,by rw[h];exact hrow⟩,R.inj,R.bas⟩
theorem bR.of_heap{ι:bS}{M:aC}{w w':World}(R:fZ ι M w)(h:w'.heap=w.heap)(ho:w'.os=w.os)(ht:w'.tape=w.tape)(hu:w'.output=w.output):
 bR ι M w ι M w':=
 ⟨R.of_heap h,Ext.refl ι,Nat.le_refl _,fun _ _ h=> .inl h,by rw[h];exact Nat.le_refl _,fun _ _ _=>by rw[h],fun _ h=> .inr h,fun _ h=> .inr h,ho,ht,hu⟩
theorem aCx{ι:bS}{n:Nat}{l:wB}:∀ b l',(if b=n then some l else ι b)=some l'→ι b=some l'∨n≤b:=fun b l' h=>by
 by_cases hb:b=n
 ·exact .inr (by omega)
 ·rw[if_neg hb] at h;exact .inl h
theorem bR.alloc{ι:bS}{M:aC}{w:World}(R:fZ ι M w)(r:hY)(o:Obj)(l:wB)(hb:l.blk=w.heap.size)
 (hr:vA (fun b=>if b=M.next then some l else ι b) l r (some o)) (h0:l.base=0:=by rfl):
 bR ι M w (fun b=>if b=M.next then some l else ι b) (M.new r) { w with heap:=w.heap.push o }:=by
 have hext:Ext ι (fun b=>if b=M.next then some l else ι b):=fun b l' h=>by
  have:=R.dom b l' h
  have hne:¬ (b=M.next):=by omega
  simp[hne,h]
 have hold:∀ b r,M.get b=some r→b≠M.next:=fun b r h he=>by
  obtain⟨l',h',_⟩:=R.live b r h
  have:=R.dom b l' h'
  omega
 have hlt:∀ b r l',M.get b=some r→ι b=some l'→l'.blk<w.heap.size:=fun b r l' h hl=>by
  obtain⟨l2,h2,hrow⟩:=R.live b r h
  rw[hl] at h2;injection h2 with h2;subst h2
  rcases Nat.lt_or_ge l'.blk w.heap.size with h3|h3
  ·exact h3
  ·rw[Array.getElem?_eq_none h3] at hrow
   cases r <;> exact hrow.elim
 refine⟨⟨?_,?_,?_,fun b l' h=>by
  by_cases hb':b=M.next
  ·rw[if_pos hb'] at h;injection h with h;rw[← h];exact h0
  ·rw[if_neg hb'] at h;exact R.bas b l' h⟩,hext,by simp,aCx,by simp,?_,?_,?_,rfl,rfl,rfl⟩
 ·intro b l' h
  by_cases hb':b=M.next
  ·simp[hb']
  ·simp only[hb',if_false] at h
   have:=R.dom b l' h
   simp;omega
 ·intro b r' h
  rw[aC.get_new] at h
  by_cases hb':b=M.next
  ·simp only[hb',if_true,Option.some.injEq] at h
   subst h
   refine⟨l,by simp[hb'],?_⟩
   simp only[hb,Array.getElem?_push_size]
   exact hr
  ·simp only[hb',if_false] at h
   obtain⟨l',hl,hrow⟩:=R.live b r' h
   refine⟨l',by simp[hb',hl],?_⟩
   have:=hlt b r' l' h hl
   simp only
   rw[Array.getElem?_push,if_neg (by omega)]
   exact hrow.mono hext
 ·intro b b' r1 r2 l1 l2 h1 h2 hl1 hl2 he
  rw[aC.get_new] at h1 h2
  by_cases hb1:b=M.next <;> by_cases hb2:b'=M.next
  ·omega
  ·simp only[hb1,if_true] at hl1
   simp only[hb2,if_false] at h2 hl2
   injection hl1 with hl1;subst hl1
   have:=hlt b' r2 l2 h2 hl2
   omega
  ·simp only[hb2,if_true] at hl2
   simp only[hb1,if_false] at h1 hl1
   injection hl2 with hl2;subst hl2
   have:=hlt b r1 l1 h1 hl1
   omega
  ·simp only[hb1,if_false] at h1 hl1
   simp only[hb2,if_false] at h2 hl2
   exact R.inj b b' r1 r2 l1 l2 h1 h2 hl1 hl2 he
 ·intro k hk _
  simp only
  rw[Array.getElem?_push,if_neg (by omega)]
 ·rintro k ⟨b,r',l',h1,h2,h3,h4⟩
  rw[aC.get_new] at h1
  by_cases hb':b=M.next
  ·simp only[hb',if_true,Option.some.injEq] at h3
   subst h3
   left;omega
  ·simp only[hb',if_false] at h1 h3
   exact .inr ⟨b,r',l',h1,h2,h3,h4⟩
 ·rintro k ⟨b,r',l',h1,h3,h4⟩
  rw[aC.get_new] at h1
  by_cases hb':b=M.next
  ·simp only[hb',if_true,Option.some.injEq] at h3
   subst h3
   left;omega
  ·simp only[hb',if_false] at h1 h3
   exact .inr ⟨b,r',l',h1,h3,h4⟩
theorem bR.write{ι:bS}{M:aC}{w w':World}(R:fZ ι M w){b:Nat}{r r':hY}{l:wB}(hg:M.get b=some r)(hrw:r.rw=true)(hl:ι b=some l)
 (hs:w'.heap.size=w.heap.size) (hother:∀ k,k≠l.blk→w'.heap[k]? =w.heap[k]?) (hrow:vA ι l r' w'.heap[l.blk]?)
 (ho:w'.os=w.os) (ht:w'.tape=w.tape) (hu:w'.output=w.output):bR ι M w ι (M.put b r') w':=by
 refine⟨⟨R.dom,?_,?_,R.bas⟩,Ext.refl ι,by simp,fun _ _ h=> .inl h,by omega,?_,?_,?_,ho,ht,hu⟩
 ·intro c s h
  rw[aC.get_put] at h
  by_cases hc:c=b
  ·simp only[hc,if_true,Option.some.injEq] at h
   subst h;subst hc
   exact⟨l,hl,hrow⟩
  ·simp only[hc,if_false] at h
   obtain⟨l',hl',hr'⟩:=R.live c s h
   refine⟨l',hl',?_⟩
   rw[hother]
   ·exact hr'
   ·intro he
    exact hc (R.inj c b s r l' l h hg hl' hl he)
 ·intro c c' s s' l1 l2 h1 h2 hl1 hl2 he
  rw[aC.get_put] at h1 h2
  have g1:∃ s,M.get c=some s:=by
   by_cases hc:c=b
   ·exact⟨r,by rw[hc];exact hg⟩
   ·simp only[hc,if_false] at h1;exact⟨_,h1⟩
  have g2:∃ s,M.get c'=some s:=by
   by_cases hc:c'=b
   ·exact⟨r,by rw[hc];exact hg⟩
   ·simp only[hc,if_false] at h2;exact⟨_,h2⟩
  obtain⟨s1,g1⟩:=g1
  obtain⟨s2,g2⟩:=g2
  exact R.inj c c' s1 s2 l1 l2 g1 g2 hl1 hl2 he
 ·intro k _ hn
  apply hother
  intro he
  exact hn ⟨b,r,l,hg,hrw,hl,he.symm⟩
 ·rintro k ⟨c,s,l',h1,h2,h3,h4⟩
  rw[aC.get_put] at h1
  by_cases hc:c=b
  ·subst hc
   exact .inr ⟨c,r,l',hg,hrw,h3,h4⟩
  ·simp only[hc,if_false] at h1
   exact .inr ⟨c,s,l',h1,h2,h3,h4⟩
 ·rintro k ⟨c,s,l',h1,h3,h4⟩
  rw[aC.get_put] at h1
  by_cases hc:c=b
  ·subst hc
   exact .inr ⟨c,r,l',hg,h3,h4⟩
  ·simp only[hc,if_false] at h1
   exact .inr ⟨c,s,l',h1,h3,h4⟩
theorem fZ.forget{ι:bS}{M M':aC}{w:World}(R:fZ ι M w)(hn:M.next≤M'.next)(h:∀ b r,M'.get b=some r→M.get b=some r):fZ ι M' w:=
 ⟨fun b l hb=>Nat.lt_of_lt_of_le (R.dom b l hb) hn,fun b r hr=>R.live b r (h b r hr),fun b b' r r' l l' h1 h2=>R.inj b b' r r' l l' (h b r h1) (h b' r' h2),R.bas⟩
theorem bR.forget{ι ι':bS}{M M' M'':aC}{w w':World}(S:bR ι M w ι' M' w')(hn:M'.next≤M''.next)(h:∀ b r,M''.get b=some r→M'.get b=some r):
 bR ι M w ι' M'' w':=
 ⟨S.rel.forget hn h,S.ext,Nat.le_trans S.nxt hn,S.new,S.size,S.frame,fun k ⟨b,r,l,h1,h2,h3,h4⟩=>S.evo k ⟨b,r,l,h b r h1,h2,h3,h4⟩,fun k ⟨b,r,l,h1,h3,h4⟩=>S.evl k ⟨b,r,l,h b r h1,h3,h4⟩,S.os,S.tape,S.output⟩
mutual
def ofV:Value→AV
 | .agg ⟨cs⟩=> .agg (ofVs cs)
 | .tuple ⟨vs⟩=> .tup (ofVs vs)
 | .bool b=> .val (.bool b)
 | .int k n=> .val (.int k n)
 | .float k n=> .val (.float k n)
 | .complex k n m=> .val (.complex k n m)
 | .string s=> .val (.string s)
 | .pointer a=> .val (.pointer a)
 | .slice a b c=> .val (.slice a b c)
 | .map r=> .val (.map r)
 | .chan r=> .val (.chan r)
 | .func (.func f) ⟨fs⟩ ⟨cs⟩=> .fn f (ofVs fs) (ofVs cs)
 | .func fn a b=> .val (.func fn a b)
 | .nilFunc=> .val .nilFunc
 | .iface t v=> .val (.iface t v)
 | .nilIface=> .val .nilIface
def ofVs:List Value→List AV
 | []=>[]
 | v::vs=>ofV v::ofVs vs
end
mutual
theorem VR.ofV(ι:bS):∀ v:Value,VR ι (ofV v) v
 | .agg ⟨cs⟩=>by unfold AM.ofV;exact .agg _ _ (VRs.ofVs ι cs)
 | .tuple ⟨vs⟩=>by unfold AM.ofV;exact .tup _ _ (VRs.ofVs ι vs)
 | .bool b=> .val _ rfl
 | .int k n=> .val _ rfl
 | .float k n=> .val _ rfl
 | .complex k n m=> .val _ rfl
 | .string s=> .val _ rfl
 | .pointer a=> .val _ rfl
 | .slice a b c=> .val _ rfl
 | .map r=> .val _ rfl
 | .chan r=> .val _ rfl
 | .func (.func f) ⟨fs⟩ ⟨cs⟩=>by unfold AM.ofV;exact .fn _ _ _ _ _ (VRs.ofVs ι fs) (VRs.ofVs ι cs)
 | .func (.method _) a b=> .val _ rfl
 | .func (.methodOf _ _) a b=> .val _ rfl
 | .func (.via _ _ _ _) a b=> .val _ rfl
 | .func (.yield _) a b=> .val _ rfl
 | .nilFunc=> .val _ rfl
 | .iface t v=> .val _ rfl
 | .nilIface=> .val _ rfl
theorem VRs.ofVs(ι:bS):∀ vs:List Value,VRs ι (ofVs vs) vs
 | []=> .nil
 | v::vs=> .cons _ _ _ _ (VR.ofV ι v) (VRs.ofVs ι vs)
end
theorem lO:∀ vs:List Value,(ofVs vs).length=vs.length
 | []=>rfl
 | v::vs=>by simp[ofVs,lO vs]
inductive TK where
 | sc
 | bool
 | int (k:IntKind)
 | str
 | st (fs:List (Nat×Nat×Bool))
 | ar (n e:Nat)
 | sli (e:Nat)
 | mp (k v:Nat)
 | pt (e:Nat)
structure TI where
 k:TK
 size:Nat
 bytes:Nat
 zero:List Value
 eqf:Option (List Nat):=none
def TI.isAgg(t:TI):Bool:=
 match t.k with
 | .st _| .ar _ _=>true
 | _=>false
def aGb(P:Program)(t:TypeId):Option (Nat×Nat):=(P.info? t).map fun i=>(i.size,i.bytes)
def dU(P:Program):List Field→List (Nat×Nat×Bool)→Prop
 | [],[]=>True
 | f::fs,(o,s,a)::r=>f.offset=o∧(∃ b,aGb P f.type=some (s,b))∧
    (∃ d,P.underlying f.type=some d∧((match d with| .struct _| .array _ _=>true|_=>false)=a))∧dU P fs r
 | _,_=>False
def aE7(P:Program):TypeDesc→TK→Prop
 | .int k,.int k'=>k=k'
 | .bool,.bool=>True
 | .string,.str=>True
 | .struct fs,.st l=>dU P fs.toList l
 | .array n e,.ar n' e'=>n=n'∧e=e'
 | .slice e,.sli e'=>e=e'
 | .map k v,.mp k' v'=>k=k'∧v=v'
 | .pointer e,.pt e'=>e=e'
 | .bool,.sc| .int _,.sc| .string,.sc| .struct _,.sc| .array _ _,.sc| .slice _,.sc| .map _ _,.sc| .pointer _,.sc=>False
 | _,.sc=>True
 | _,_=>False
def aSd(P:Program)(t:TypeId)(tys:List Nat):Prop:=
 ∃ fs,P.underlying t=some (.struct fs)∧fs.toList.map (·.type)=tys∧(∀ f∈fs.toList,f.name≠ "_")∧P.stoodInHeld t=false∧P.eqGuardType P.depth t=false
def TI.zv(ti:TI):Value:=match ti.isAgg,ti.zero with
 | false,[z]=>z
 | _,zs=> .agg ⟨zs⟩
def aR0(P:Program)(t:TypeId)(ti:TI):Prop:=
 ((P.info? t).map fun i=>(i.size,i.bytes,i.zero))=some (ti.size,ti.bytes,some ti.zv)∧(ti.zero.length=ti.size∧(ti.isAgg=false→ti.zero.length=1∧ti.zv.uno=true))∧(∃ d,P.underlying t=some d∧aE7 P d ti.k)∧∀ tys,ti.eqf=some tys→aSd P t tys
structure bQ where
 P:Program
 ty:Tr TI
 fn:Tr Func
structure bQ.Ok (T:bQ):Prop where
 ty:∀ t ti,T.ty.get t=some ti→aR0 T.P t ti
 fn:∀ f F,T.fn.get f=some F→T.P.funcs[f]? =some F∧F.name≠ "runtime.NumGoroutine" ∧F.body.isSome=true
def opnd(t:Tr AV):Operand→AV
 | .tmp i=>(t.get i).getD eY
 | .const v=>ofV v
 | .global g=> .val (.pointer (some ⟨g,0,none⟩))
 | .func f=> .fn f [] []
def aEh:List AV→Option (List Value)
 | []=>some []
 | .val v::xs=>(aEh xs).map (v:: ·)
 | _::_=>none
def AV.flat:AV→Option Value
 | .val v=>some v
 | .agg cs=>(aEh cs).map fun vs=> .agg ⟨vs⟩
 | _=>none
def jG:List AV→Option (List Value)
 | []=>some []
 | x::xs=>match x.flat with
   | some v=>(jG xs).map (v:: ·)
   | none=>none
theorem aEB{ι:bS}:∀ {xs:List AV} {vs us:List Value},VRs ι xs vs→aEh xs=some us→vs=us
 | _,_,_,.nil,h=>by simp[aEh] at h;exact h.symm
 | _,_,us,.cons x v xs vs h hs,e=>by
   cases h <;> simp only[aEh] at e <;> try (simp at e;done)
   obtain⟨ws,hw,rfl⟩:=Option.map_eq_some_iff.1 e
   rw[aEB hs hw]
theorem aDd{ι:bS}{x:AV}{v u:Value}(h:VR ι x v)(e:x.flat=some u):v=u:=by
 cases h <;> simp only[AV.flat] at e <;> try (simp at e;done)
 ·injection e
 ·rename_i cs vs hc
  obtain⟨ws,hw,rfl⟩:=Option.map_eq_some_iff.1 e
  have:=aEB hc hw
  subst this
  rfl
theorem xY{ι:bS}:∀ {xs:List AV} {vs us:List Value},VRs ι xs vs→jG xs=some us→vs=us
 | _,_,_,.nil,h=>by simp[jG] at h;exact h.symm
 | _,_,us,.cons x v xs vs h hs,e=>by
   simp only[jG] at e
   split at e
   ·rename_i u hu
    obtain⟨ws,hw,rfl⟩:=Option.map_eq_some_iff.1 e
    rw[xY hs hw,aDd h hu]
   ·simp at e
def nT{α:Type}(P:Program):Sem α→Option α
 | .pure a=>some a
 | .program k=>nT P (k P)
 | .mark _ k=>nT P k
 | _=>none
theorem uA{α:Type}(P:Program)(e:Sem α)(a:α)(h:nT P e=some a)(w:World):e.run P w= .ok a w:=by
 induction e <;> simp only[nT] at h <;> try (simp at h;done)
 ·injection h with h;subst h;rfl
 ·rename_i k ih;exact ih P h
 ·rename_i m k ih;exact ih h
def aC.cellAt(M:aC)(b o:Nat):Option AV:=
 match M.get b with
 | some (.cells cs _)=>cs[o]?
 | _=>none
def aC.cellsAt(M:aC)(b o n:Nat):Option (List AV):=
 match M.get b with
 | some (.cells cs _)=>cond (Nat.ble (o+n) cs.length) (some ((cs.drop o).take n)) none
 | _=>none
def ovL{α:Type}(cs:List α):List α→List α:=
 @List.rec α (fun _=>List α→List α) (fun _=>[]) (fun c cs ih vs=> @List.rec α (fun _=>List α) (c::cs) (fun v vs _=>v::ih vs) vs) cs
def setAt{α:Type}(cs:List α)(o:Nat)(vs:List α):List α:=
 @List.rec α (fun _=>Nat→List α) (fun _=>[]) (fun c cs ih o=> @Nat.rec (fun _=>List α) (ovL (c::cs) vs) (fun o _=>c::ih o) o) cs o
theorem aFg{α:Type}(cs vs:List α):setAt cs 0 vs=ovL cs vs:=by cases cs <;> rfl
theorem fA{α:Type}:∀ (cs:List α) (o:Nat),setAt cs o []=cs
 | [],_=>rfl
 | _::_,0=>rfl
 | c::cs,o+1=>by
   show c::setAt cs o []=c::cs
   rw[fA cs o]
theorem eU{α:Type}:∀ (cs:List α) (o:Nat) (v:α) (vs:List α),setAt cs o (v::vs)=setAt (cs.set o v) (o+1) vs
 | [],_,_,_=>rfl
 | c::cs,0,v,vs=>by
   show v::ovL cs vs=v::setAt cs 0 vs
   rw[aFg]
 | c::cs,o+1,v,vs=>by
   show c::setAt cs o (v::vs)=c::setAt (cs.set o v) (o+1) vs
   rw[eU cs o v vs]
def aC2:List AV→Bool
 | []=>true
 | x::xs=>cond x.one (aC2 xs) false
def aC.storeAt(M:aC)(b o:Nat)(vs:List AV):Option aC:=
 match M.get b with
 | some (.cells cs true)=>cond (Nat.ble (o+vs.length) cs.length) (cond (aC2 vs) (some (M.put b (.cells (setAt cs o vs) true))) none) none
 | _=>none
theorem pO{α:Type}:∀ (vs cs:List α) (o:Nat),(setAt cs o vs).length=cs.length
 | [],cs,o=>by rw[fA]
 | v::vs,cs,o=>by simp[eU,pO vs]
theorem VRs.setAt{ι:bS}:∀ {ys:List AV} {us:List Value} {xs:List AV} {vs:List Value},VRs ι xs vs→∀ (n:Nat),VRs ι ys us→VRs ι (setAt xs n ys) (AM.setAt vs n us)
 | _,_,_,_,h,n,.nil=>by rw[fA,fA];exact h
 | _,_,_,_,h,n,.cons y u ys us hy hs=>by rw[eU,eU];exact VRs.setAt (h.set n hy) (n+1) hs
theorem pF{α:Type}:∀ (vs L:List α) (b n o:Nat),o+vs.length≤n→((setAt L (b+o) vs).drop b).take n=setAt ((L.drop b).take n) o vs
 | [],L,b,n,o,h=>by rw[fA,fA]
 | v::vs,L,b,n,o,h=>by
   simp only[eU,List.length_cons] at*
   rw[show b+o+1=b+(o+1) by omega,pF vs (L.set (b+o) v) b n (o+1) (by omega)]
   congr 1
   rw[List.drop_set,if_neg (by omega),List.take_set,show b+o-b=o by omega]
section
variable {P:Program} {w:World}
theorem aAc{k o:Nat}{c:Array Value}{e:TypeId}{fr:Nat×Nat}(h:w.heap[k]? =some (.cells c e fr)):w.cell? ⟨k,o,none⟩=c[o]? :=by
 simp[World.cell?,h]
theorem aFs{k o:Nat}{c:Array Value}{e:TypeId}{fr:Nat×Nat}(h:w.heap[k]? =some (.cells c e fr)):w.frozen? ⟨k,o,none⟩=(decide (fr.1≤o)&&decide (o<fr.2)):=by
 simp[World.frozen?,h]
theorem eX(k o n:Nat):(Addr.mk k o none).add n=⟨k,o+n,none⟩:=by
 unfold Addr.add
 split
 ·rename_i h;subst h;rfl
 ·rfl
theorem mQ{k:Nat}{e:TypeId}{fr:Nat×Nat}(o:Nat):∀ (vs:List Value) (i:Nat) (w:World) (c:Array Value),w.heap[k]? =some (.cells c e fr)→
 o+i+vs.length≤c.size→(∀ j,o+i≤j→j<o+i+vs.length→¬ (fr.1≤j∧j<fr.2))→(∀ v∈vs,v.uno=true)→
 ∃ w' c',(storeCells ⟨k,o,none⟩ vs i).run P w= .ok () w'∧w'.heap.size=w.heap.size∧(∀ j,j≠k→w'.heap[j]? =w.heap[j]?)∧
   w'.heap[k]? =some (.cells c' e fr)∧c'.toList=setAt c.toList (o+i) vs∧c'.size=c.size∧w'.os=w.os∧w'.tape=w.tape∧w'.output=w.output
 | [],i,w,c,h,_,_,_=>⟨w,c,rfl,rfl,fun _ _=>rfl,h,(fA _ _).symm,rfl,rfl,rfl,rfl⟩
 | v::vs,i,w,c,h,hb,hf,h1=>by
   simp only[List.length_cons] at hb hf
   have hk:k<w.heap.size:=by
    rcases Nat.lt_or_ge k w.heap.size with h'|h'
    ·exact h'
    ·rw[Array.getElem?_eq_none h'] at h;simp at h
   have hc:w.cell? ⟨k,o+i,none⟩=some (c[o+i]'(by omega)):=by rw[aAc h,Array.getElem?_eq_getElem (by omega)]
   have hz:w.frozen? ⟨k,o+i,none⟩=false:=by
    rw[aFs h]
    have:=hf (o+i) (by omega) (by omega)
    rw[Bool.and_eq_false_iff]
    simp only[decide_eq_false_iff_not]
    omega
   have hv:v.oneCell'=true:=by
    have:=h1 v (by simp)
    cases v <;> first|rfl|(simp[Value.uno] at this)
   have hw1:(w.setCell ⟨k,o+i,none⟩ v).heap[k]? =some (.cells (c.setIfInBounds (o+i) v) e fr):=by
    simp only[World.setCell,Array.getElem?_modify,if_true,h,Option.map_some]
    rfl
   obtain⟨w',c',hr,hs,ho,hk',hl,hsz,r1,r2,r3⟩:=mQ o vs (i+1) (w.setCell ⟨k,o+i,none⟩ v) (c.setIfInBounds (o+i) v) hw1
    (by rw[Array.size_setIfInBounds];omega) (fun j hj1 hj2=>hf j (by omega) (by omega)) (fun u hu=>h1 u (by simp[hu]))
   refine⟨w',c',?_,?_,?_,hk',?_,?_,r1,r2,r3⟩
   ·simp only[storeCells,Sem.run_bind,eX]
    rw[run_store P w _ v .plain hv,hc]
    simp only[hz]
    exact hr
   ·rw[hs];simp[World.setCell]
   ·intro j hj
    rw[ho j hj]
    simp only[World.setCell,Array.getElem?_modify]
    rw[if_neg (fun h=>hj h.symm)]
   ·rw[hl]
    simp only[eU,Array.toList_setIfInBounds]
    rfl
   ·rw[hsz];simp
end
theorem VRs.uno{ι:bS}:∀ {xs:List AV} {vs:List Value},VRs ι xs vs→aC2 xs=true→∀ v∈vs,v.uno=true
 | _,_,.nil,_,v,hv=>by simp at hv
 | _,_,.cons x u xs vs h hs,e,v,hv=>by
   simp only[aC2,cond_eq_ite] at e
   split at e
   ·rename_i h1
    simp only[List.mem_cons] at hv
    rcases hv with rfl|hv
    ·rw[h.one];exact h1
    ·exact VRs.uno hs e v hv
   ·simp at e
section
variable {P:Program} {ι:bS} {M:aC} {w:World}
theorem fZ.row(R:fZ ι M w){b:Nat}{cs:List AV}{rw:Bool}{l:wB}(h:M.get b=some (.cells cs rw))(hl:ι b=some l):
 ∃ c e fr,w.heap[l.blk]? =some (.cells c e fr)∧c.size=l.size∧l.base+cs.length≤c.size∧VRs ι cs ((c.toList.drop l.base).take cs.length)∧
   (rw=true→∀ k,k<c.size→¬ (fr.1≤k∧k<fr.2)):=by
 obtain⟨l',h1,h2⟩:=R.live b _ h
 rw[hl] at h1;injection h1 with h1;subst h1
 generalize w.heap[l.blk]? =o at h2
 cases o with
 | none=>exact h2.elim
 | some o=>cases o <;> first|exact h2.elim|exact⟨_,_,_,rfl,h2.1,h2.2.1,h2.2.2.1,h2.2.2.2⟩
theorem fZ.cell(R:fZ ι M w){b o:Nat}{x:AV}{l:wB}(h:M.cellAt b o=some x)(hl:ι b=some l):∃ v,w.cell? ⟨l.blk,l.base+o,none⟩=some v∧VR ι x v:=by
 unfold aC.cellAt at h
 split at h
 ·rename_i cs rw hg
  obtain⟨c,e,fr,hk,hs,hb,hv,_⟩:=R.row hg hl
  obtain⟨v,h1,h2⟩:=hv.get o x h
  refine⟨v,?_,h2⟩
  rw[aAc hk]
  have hlt:o<cs.length:=by
   rcases Nat.lt_or_ge o cs.length with h'|h'
   ·exact h'
   ·rw[List.getElem?_eq_none h'] at h;simp at h
  rw[List.getElem?_take_of_lt hlt,List.getElem?_drop] at h1
  simpa using h1
 ·simp at h
theorem fZ.cells(R:fZ ι M w){b o n:Nat}{xs:List AV}{l:wB}(h:M.cellsAt b o n=some xs)(hl:ι b=some l):
 ∃ vs,VRs ι xs vs∧vs.length=n∧(∀ j v,vs[j]? =some v→w.cell? ((Addr.mk l.blk (l.base+o) none).add j)=some v):=by
 unfold aC.cellsAt at h
 split at h
 ·rename_i cs rw hg
  rw[cond_eq_ite] at h
  split at h
  ·rename_i hle
   have hle:o+n≤cs.length:=Nat.le_of_ble_eq_true hle
   injection h with h;subst h
   obtain⟨c,e,fr,hk,hs,hb,hv,_⟩:=R.row hg hl
   refine⟨_,(hv.drop o).take n,?_,?_⟩
   ·have h1:c.toList.length=c.size:=by simp
    simp only[List.length_take,List.length_drop,h1]
    omega
   ·intro j v hj
    rw[eX,aAc hk]
    have hlt:j<n:=by
     rcases Nat.lt_or_ge j n with h'|h'
     ·exact h'
     ·rw[List.getElem?_eq_none (by simp only[List.length_take];omega)] at hj;simp at hj
    rw[List.getElem?_take_of_lt hlt,List.getElem?_drop,List.getElem?_take_of_lt (by omega),List.getElem?_drop] at hj
    rw[← Array.getElem?_toList,show l.base+o+j=l.base+(o+j) by omega]
    exact hj
  ·simp at h
 ·simp at h
theorem fZ.loadCells(R:fZ ι M w){b o n:Nat}{xs:List AV}{l:wB}(h:M.cellsAt b o n=some xs)(hl:ι b=some l):
 ∃ vs,VRs ι xs vs∧vs.length=n∧(loadCells ⟨l.blk,l.base+o,none⟩ n).run P w= .ok vs.toArray w:=by
 obtain⟨vs,h1,h2,h3⟩:=R.cells h hl
 refine⟨vs,h1,h2,?_⟩
 rw[← h2]
 exact run_loadCells_list w _ vs h3
theorem fZ.store(R:fZ ι M w){b o:Nat}{xs:List AV}{vs:List Value}{l:wB}{M':aC}(h:M.storeAt b o xs=some M')(hl:ι b=some l)(hx:VRs ι xs vs):
 ∃ w',(storeCells ⟨l.blk,l.base+o,none⟩ vs).run P w= .ok () w'∧bR ι M w ι M' w':=by
 unfold aC.storeAt at h
 split at h
 ·rename_i cs hg
  simp only[cond_eq_ite] at h
  split at h
  ·rename_i hle
   have hle:o+xs.length≤cs.length:=Nat.le_of_ble_eq_true hle
   split at h
   ·rename_i h1
    injection h with h;subst h
    obtain⟨c,e,fr,hk,hs,hb,hv,hfr⟩:=R.row hg hl
    have hlen:=hx.length
    obtain⟨w',c',hrun,hsz,hoth,hk',hl',hcs,r1,r2,r3⟩:=mQ (P:=P) (l.base+o) vs 0 w c hk (by omega)
     (fun j _ hj=>hfr rfl j (by omega)) (hx.uno h1)
    refine⟨w',hrun,bR.write R hg rfl hl hsz hoth ?_ r1 r2 r3⟩
    rw[hk']
    refine⟨by omega,by rw[pO];omega,?_,fun _ k hk2=>hfr rfl k (by omega)⟩
    rw[hl',pO,Nat.add_zero,pF vs c.toList l.base cs.length o (by omega)]
    exact hv.setAt o hx
   ·simp at h
  ·simp at h
 ·simp at h
end
def VS(P:Program)(ι:bS)(M:aC)(w:World)(s:Sem Value)(x:AV)(M':aC):Prop:=
 ∃ ι' w' v,s.run P w= .ok v w'∧VR ι' x v∧bR ι M w ι' M' w'
section types
variable {T:bQ} (ok:T.Ok) {t:TypeId} {ti:TI} (h:T.ty.get t=some ti) {w:World}
include ok h
theorem aBC:ti.zv.cells.toList=ti.zero:=by
 have h2:=(ok.ty t ti h).2.1.2
 cases hg:ti.isAgg with
 | true=>simp[TI.zv,hg,Value.cells]
 | false=>
   obtain⟨h3,h4⟩:=h2 hg
   obtain⟨z,hz⟩:=List.length_eq_one_iff.1 h3
   unfold TI.zv at h4 ⊢
   rw[hg,hz] at h4 ⊢
   simp only at h4 ⊢
   cases z <;> first|rfl|(simp[Value.uno] at h4)
theorem aNQ:∃ i,T.P.info? t=some i∧i.size=ti.size∧i.bytes=ti.bytes∧∃ z,i.zero=some z∧z.cells.toList=ti.zero∧z=ti.zv:=by
 obtain⟨i,hi,he⟩:=Option.map_eq_some_iff.1 (ok.ty t ti h).1
 injection he with h1 h2
 injection h2 with h2 h3
 exact⟨i,hi,h1,h2,_,h3,aBC ok h,rfl⟩
theorem wE:ti.zero.length=ti.size:=(ok.ty t ti h).2.1.1
theorem fF:∃ d,T.P.underlying t=some d∧(underlying t).run T.P w= .ok d w∧aE7 T.P d ti.k:=by
 obtain⟨d,hd,hk⟩:=(ok.ty t ti h).2.2.1
 exact⟨d,hd,run_underlying hd w,hk⟩
theorem gY:∃ i,(typeInfo t).run T.P w= .ok i w∧i.size=ti.size∧i.bytes=ti.bytes∧∃ z,i.zero=some z∧z.cells.toList=ti.zero∧z=ti.zv:=by
 obtain⟨i,hi,r⟩:=aNQ ok h
 exact⟨i,by simp[typeInfo,hi],r⟩
theorem bY:(sizeOf t).run T.P w= .ok ti.size w:=by
 obtain⟨i,hi,hs,_⟩:=gY ok h (w:=w)
 simp[sizeOf,hi,hs]
theorem aOP:(zeroValue t).run T.P w= .ok ti.zv w:=by
 obtain⟨i,hi,_,_,z,hz,hz2,hz3⟩:=gY ok h (w:=w)
 subst hz3
 simp[zeroValue,hi,hz]
theorem kZ:∃ z,(zeroValue t).run T.P w= .ok z w∧z.cells.toList=ti.zero:=⟨_,aOP ok h,aBC ok h⟩
theorem oO:(isAgg t).run T.P w= .ok ti.isAgg w:=by
 obtain⟨d,hd,hr,hk⟩:=fF ok h (w:=w)
 unfold isAgg
 simp only[Sem.run_bind,hr,Result.andThen_ok]
 unfold TI.isAgg
 revert hk
 generalize ti.k=k
 intro hk
 cases d <;> cases k <;> first|rfl|exact hk.elim
theorem cR{e:Nat}(hk:ti.k= .sli e):(underlying t).run T.P w= .ok (.slice e) w:=by
 obtain⟨d,hd,hr,hk2⟩:=fF ok h (w:=w)
 rw[hk] at hk2
 cases d <;> first|exact hk2.elim|(have:_=_:=hk2;subst this;exact hr)
theorem pW{n e:Nat}(hk:ti.k= .ar n e):(underlying t).run T.P w= .ok (.array n e) w:=by
 obtain⟨d,hd,hr,hk2⟩:=fF ok h (w:=w)
 rw[hk] at hk2
 cases d <;> first|exact hk2.elim|(obtain⟨h1,h2⟩:=hk2;subst h1;subst h2;exact hr)
theorem iQ{n e:Nat}(hk:ti.k= .mp n e):(underlying t).run T.P w= .ok (.map n e) w:=by
 obtain⟨d,hd,hr,hk2⟩:=fF ok h (w:=w)
 rw[hk] at hk2
 cases d <;> first|exact hk2.elim|(obtain⟨h1,h2⟩:=hk2;subst h1;subst h2;exact hr)
theorem aAA{e:Nat}(hk:ti.k= .pt e):(underlying t).run T.P w= .ok (.pointer e) w:=by
 obtain⟨d,hd,hr,hk2⟩:=fF ok h (w:=w)
 rw[hk] at hk2
 cases d <;> first|exact hk2.elim|(have:_=_:=hk2;subst this;exact hr)
theorem mR(hk:ti.k= .str):(underlying t).run T.P w= .ok .string w:=by
 obtain⟨d,hd,hr,hk2⟩:=fF ok h (w:=w)
 rw[hk] at hk2
 cases d <;> first|exact hk2.elim|exact hr
theorem aHq(hk:ti.k= .bool):(underlying t).run T.P w= .ok .bool w:=by
 obtain⟨d,hd,hr,hk2⟩:=fF ok h (w:=w)
 rw[hk] at hk2
 cases d <;> first|exact hk2.elim|exact hr
theorem rI{k:IntKind}(hk:ti.k= .int k):(underlying t).run T.P w= .ok (.int k) w:=by
 obtain⟨d,hd,hr,hk2⟩:=fF ok h (w:=w)
 rw[hk] at hk2
 cases d <;> first|exact hk2.elim|(have:_=_:=hk2;subst this;exact hr)
theorem aK8{l:List (Nat×Nat×Bool)}(hk:ti.k= .st l):∃ fs,(underlying t).run T.P w= .ok (.struct fs) w∧dU T.P fs.toList l:=by
 obtain⟨d,hd,hr,hk2⟩:=fF ok h (w:=w)
 rw[hk] at hk2
 cases d <;> first|exact hk2.elim|exact⟨_,hr,hk2⟩
end types
theorem dU.get{P:Program}:∀ {fs:List Field} {l:List (Nat×Nat×Bool)},dU P fs l→∀ (i:Nat) (o s:Nat) (a:Bool),l[i]? =some (o,s,a)→
 ∃ f,fs[i]? =some f∧f.offset=o∧(∀ w,(sizeOf f.type).run P w= .ok s w)∧(∀ w,(isAgg f.type).run P w= .ok a w)
 | [],[],_,i,o,s,a,h=>by simp at h
 | f::fs,(o',s',a')::l,⟨h1,⟨b,h2⟩,⟨d,hd,ha⟩,hr⟩,0,o,s,a,h=>by
   simp only[List.getElem?_cons_zero,Option.some.injEq,Prod.mk.injEq] at h
   obtain⟨rfl,rfl,rfl⟩:=h
   unfold aGb at h2
   obtain⟨i,hi,he⟩:=Option.map_eq_some_iff.1 h2
   injection he with h3 _
   refine⟨f,by simp,h1,fun w=>by simp[sizeOf,typeInfo,hi,h3],fun w=>?_⟩
   unfold isAgg
   simp only[Sem.run_bind,run_underlying hd w,Result.andThen_ok]
   subst ha
   cases d <;> rfl
 | f::fs,(o',s',a')::l,⟨_,_,_,hr⟩,i+1,o,s,a,h=>by
   simp only[List.getElem?_cons_succ] at h
   simpa using dU.get hr i o s a h
 | [],_::_,h,_,_,_,_,_=>h.elim
 | _::_,[],h,_,_,_,_,_=>h.elim
theorem VS.newRow{P:Program}{ι:bS}{M:aC}{w:World}(R:fZ ι M w){e:TypeId}{cs:List AV}{vs:Array Value}(h:VRs ι cs vs.toList):
 ∃ ι' w',(newRow e vs).run P w= .ok ⟨w.heap.size,0,none⟩ w'∧ι' M.next=some ⟨w.heap.size,0,vs.size⟩∧bR ι M w ι' (M.new (.cells cs true)) w':=by
 have hs:=bR.alloc R (.cells cs true) (.cells vs e (0,0)) ⟨w.heap.size,0,vs.size⟩ rfl (by
  refine⟨rfl,?_,?_,fun _ k _=>by omega⟩
  ·have:=h.length;simp at this;simp;omega
  ·have hext:Ext ι (fun b=>if b=M.next then some ⟨w.heap.size,0,vs.size⟩ else ι b):=fun b l' hb=>by
    have:=R.dom b l' hb
    have hne:¬ (b=M.next):=by omega
    simp[hne,hb]
   have:=h.length
   rw[List.drop_zero,List.take_of_length_le (by omega)]
   exact h.mono hext)
 exact⟨_,_,by simp[Go.newRow],by simp,hs⟩
def aC0(T:bQ)(t:TypeId)(M:aC):Option (AV×aC):=
 match T.ty.get t with
 | some ti=>some (.ptr M.next 0,M.new (.cells (ofVs ti.zero) true))
 | none=>none
theorem aFP{T:bQ}(ok:T.Ok){t:TypeId}{ι:bS}{M M':aC}{w:World}{x:AV}(R:fZ ι M w)(h:aC0 T t M=some (x,M')):
 VS T.P ι M w (Instr.alloc t true (.tuple #[])) x M':=by
 unfold aC0 at h
 split at h
 ·rename_i ti ht
  injection h with h;injection h with h1 h2;subst h1;subst h2
  obtain⟨z,hz,hz2⟩:=kZ ok ht (w:=w)
  obtain⟨ι',w',hr,hl,hs⟩:=VS.newRow (P:=T.P) R (e:=t) (cs:=ofVs ti.zero) (vs:=z.cells) (by rw[hz2];exact VRs.ofVs ι _)
  refine⟨ι',w',_,?_,.ptr M.next 0 _ hl,hs⟩
  simp[Instr.alloc,hz,newVar,hr]
 ·simp at h
theorem aKE{P:Program}{t:TypeId}{ι:bS}{M:aC}{w:World}{x:AV}{v:Value}(R:fZ ι M w)(hx:VR ι x v):
 VS P ι M w (Instr.box t v) (.ptr M.next 0) (M.new (.cells x.cells true)):=by
 obtain⟨ι',w',hr,hl,hs⟩:=VS.newRow (P:=P) R (e:=t) hx.cells
 exact⟨ι',w',_,by simp[Instr.box,newVar,hr],.ptr M.next 0 _ hl,hs⟩
def aY(T:bQ)(t:TypeId)(a:AV)(M:aC):Option AV:=
 match a with
 | .ptr b o=>
   match T.ty.get t with
   | some ti=>cond ti.isAgg ((M.cellsAt b o ti.size).map .agg) (M.cellAt b o)
   | none=>none
 | _=>none
theorem aB3{T:bQ}(ok:T.Ok){t:TypeId}{ι:bS}{M:aC}{w:World}{a x:AV}{v:Value}(R:fZ ι M w)(ha:VR ι a v)(h:aY T t a M=some x):
 VS T.P ι M w (Instr.loadAt t v) x M:=by
 unfold aY at h
 split at h
 ·rename_i b o
  cases ha with
  | ptr _ _ l hl=>
    split at h
    ·rename_i ti ht
     cases hagg:ti.isAgg with
     | true=>
       rw[hagg] at h
       obtain⟨xs,hx,rfl⟩:=Option.map_eq_some_iff.1 h
       obtain⟨vs,h1,h2,h3⟩:=R.loadCells (P:=T.P) hx hl
       exact⟨ι,w,_,by simp[Instr.loadAt,Instr.sureAddr,loadVar,oO ok ht,hagg,bY ok ht,h3],.agg _ _ h1,bR.refl R⟩
     | false=>
       rw[hagg] at h
       obtain⟨u,h1,h2⟩:=R.cell h hl
       exact⟨ι,w,u,by simp[Instr.loadAt,Instr.sureAddr,loadVar,oO ok ht,hagg,h1],h2,bR.refl R⟩
    ·simp at h
 ·simp at h
def gT(T:bQ)(t:TypeId)(a x:AV)(M:aC):Option aC:=
 match a with
 | .ptr b o=>
   match T.ty.get t with
   | some ti=>cond (Nat.beq x.cells.length ti.size) (M.storeAt b o x.cells) none
   | none=>none
 | _=>none
theorem aGc{T:bQ}(ok:T.Ok){t:TypeId}{ι:bS}{M M':aC}{w:World}{a x:AV}{v u:Value}(R:fZ ι M w)(ha:VR ι a v)(hx:VR ι x u)(h:gT T t a x M=some M'):
 ∃ w',(Instr.storeAt t v u).run T.P w= .ok () w'∧bR ι M w ι M' w':=by
 unfold gT at h
 split at h
 ·rename_i b o
  cases ha with
  | ptr _ _ l hl=>
    split at h
    ·rename_i ti ht
     rw[cond_eq_ite] at h
     split at h
     ·rename_i hs
      have hs:x.cells.length=ti.size:=Nat.eq_of_beq_eq_true hs
      obtain⟨w',h1,h2⟩:=R.store (P:=T.P) h hl hx.cells
      have hlen:=hx.cells.length
      have hne:¬ (u.cells.size≠ti.size):=by
       simp only[Array.length_toList] at hlen
       omega
      refine⟨w',?_,h2⟩
      simp only[Instr.storeAt,Instr.sureAddr,storeVar,Sem.run_bind,Sem.run_pure,Result.andThen_ok,bY ok ht,if_neg hne]
      exact h1
     ·simp at h
    ·simp at h
 ·simp at h
def eZf(T:bQ)(t:TypeId)(a:AV)(f:Nat):Option AV:=
 match a with
 | .ptr b o=>
   match T.ty.get t with
   | some ti=>
     match ti.k with
     | .st fs=>
       match fs[f]? with
       | some (off,s,_)=>cond (Nat.beq s 0) none (some (.ptr b (o+off)))
       | none=>none
     | _=>none
   | none=>none
 | _=>none
theorem aAl{T:bQ}(ok:T.Ok){t:TypeId}{ι:bS}{M:aC}{w:World}{a x:AV}{v:Value}{f:Nat}(R:fZ ι M w)(ha:VR ι a v)(h:eZf T t a f=some x):
 VS T.P ι M w (Instr.fieldAt t v f) x M:=by
 unfold eZf at h
 split at h
 ·rename_i b o
  cases ha with
  | ptr _ _ l hl=>
    split at h
    ·rename_i ti ht
     split at h
     ·rename_i fs hk
      split at h
      ·rename_i off s ag hf
       rw[cond_eq_ite] at h
       split at h
       ·simp at h
       ·rename_i hs
        injection h with h;subst h
        have hs:¬ s=0:=fun he=>hs (by rw[he];rfl)
        obtain⟨fields,hr,hfo⟩:=aK8 ok ht hk (w:=w)
        obtain⟨g,hg,ho,hsz,_⟩:=hfo.get f off s ag hf
        refine⟨ι,w,_,?_,.ptr b (o+off) l hl,bR.refl R⟩
        have hg':fields[f]? =some g:=by simpa using hg
        simp[Instr.fieldAt,hr,hg',Instr.sureAddr,fieldPlace,hsz,hs,eX,ho,Nat.add_assoc]
      ·simp at h
     ·simp at h
    ·simp at h
 ·simp at h
def aCP(T:bQ)(t:TypeId)(x:AV)(f:Nat):Option AV:=
 match x with
 | .agg cs=>
   match T.ty.get t with
   | some ti=>
     match ti.k with
     | .st fs=>
       match fs[f]? with
       | some (off,s,a)=>cond a (some (.agg ((cs.drop off).take s))) cs[off]?
       | none=>none
     | _=>none
   | none=>none
 | _=>none
theorem oZ{α:Type}(a:Array α)(i j:Nat):(a.extract i j).toList=(a.toList.drop i).take (j-i):=by
 simp[List.extract_eq_take_drop]
theorem aFm{T:bQ}(ok:T.Ok){t:TypeId}{ι:bS}{M:aC}{w:World}{x y:AV}{v:Value}{f:Nat}(R:fZ ι M w)(hx:VR ι x v)(h:aCP T t x f=some y):
 VS T.P ι M w (Instr.field t v f) y M:=by
 unfold aCP at h
 split at h
 ·rename_i cs
  cases hx with
  | agg _ vs hvs=>
    split at h
    ·rename_i ti ht
     split at h
     ·rename_i fs hk
      split at h
      ·rename_i off s ag hf
       obtain⟨fields,hr,hfo⟩:=aK8 ok ht hk (w:=w)
       obtain⟨g,hg,ho,hsz,hag⟩:=hfo.get f off s ag hf
       have hg':fields[f]? =some g:=by simpa using hg
       cases ag with
       | true=>
         injection h with h;subst h
         refine⟨ι,w,.agg (vs.extract off (off+s)),?_,.agg _ _ ?_,bR.refl R⟩
         ·simp[Instr.field,hr,hg',asAgg,part,hag,hsz,ho]
         ·rw[oZ,show off+s-off=s by omega]
          exact (hvs.drop off).take s
       | false=>
         obtain⟨u,hu,hvu⟩:=hvs.get off y h
         refine⟨ι,w,u,?_,hvu,bR.refl R⟩
         have hu':vs[off]? =some u:=by simpa using hu
         simp[Instr.field,hr,hg',asAgg,part,hag,ho,hu']
      ·simp at h
     ·simp at h
    ·simp at h
 ·simp at h
def bJ(T:bQ)(t:TypeId)(x i:AV):Option AV:=
 match T.ty.get t,i with
 | some ti,.val (.int _ n)=>
   match ti.k,x with
   | .sli e,.sl b o len _ _=>
     match T.ty.get e with
     | some te=>cond (decide (0≤n)) (cond (Nat.blt n.toNat len) (some (.ptr b (o+n.toNat*te.size))) none) none
     | none=>none
   | .ar k e,.ptr b o=>
     match T.ty.get e with
     | some te=>cond (decide (0≤n)) (cond (Nat.blt n.toNat k) (some (.ptr b (o+n.toNat*te.size))) none) none
     | none=>none
   | _,_=>none
 | _,_=>none
theorem aAH{T:bQ}(ok:T.Ok){t:TypeId}{ι:bS}{M:aC}{w:World}{x i y:AV}{v u:Value}(R:fZ ι M w)(hx:VR ι x v)(hi:VR ι i u)(h:bJ T t x i=some y):
 VS T.P ι M w (Instr.indexAt t v u) y M:=by
 unfold bJ at h
 split at h
 ·rename_i ti k n ht
  cases hi
  split at h
  ·rename_i e b o len c ex hk
   split at h
   ·rename_i te hte
    simp only[cond_eq_ite,decide_eq_true_eq] at h
    split at h
    ·rename_i h0
     split at h
     ·rename_i h1
      have h1:n.toNat<len:=Nat.le_of_ble_eq_true h1
      injection h with h;subst h
      have hcond:0≤n∧n<(len:Int):=⟨h0,by omega⟩
      cases hx with
      | slE _ _ _ _ l hl=>
        exact⟨ι,w,_,by simp[Instr.indexAt,asIntOf,cR ok ht hk,hcond,bY ok hte,eX,Nat.add_assoc],.ptr b _ l hl,bR.refl R⟩
      | slI _ _ _ _ _ _ l hl hc hs=>
        exact⟨ι,w,_,by simp[Instr.indexAt,asIntOf,cR ok ht hk,hcond,bY ok hte,eX,Nat.add_assoc],.ptr b _ l hl,bR.refl R⟩
      | slZ=>omega
     ·simp at h
    ·simp at h
   ·simp at h
  ·rename_i m e b o hk
   split at h
   ·rename_i te hte
    simp only[cond_eq_ite,decide_eq_true_eq] at h
    split at h
    ·rename_i h0
     split at h
     ·rename_i h1
      have h1:n.toNat<m:=Nat.le_of_ble_eq_true h1
      injection h with h;subst h
      have hcond:0≤n∧n<(m:Int):=⟨h0,by omega⟩
      cases hx with
      | ptr _ _ l hl=>
        exact⟨ι,w,_,by simp[Instr.indexAt,Instr.sureAddr,asIntOf,pW ok ht hk,hcond,bY ok hte,eX,Nat.add_assoc],.ptr b _ l hl,bR.refl R⟩
     ·simp at h
    ·simp at h
   ·simp at h
  ·simp at h
 ·simp at h
def tZ(T:bQ)(t:TypeId)(x i:AV):Option AV:=
 match T.ty.get t,i with
 | some ti,.val (.int _ n)=>
   cond (decide (0≤n))
    (match ti.k,x with
    | .str,.val (.string s)=>(s[n.toNat]?).map fun b=> .val (.int .u8 b.toNat)
    | .ar k e,.agg cs=>
      match T.ty.get e with
      | some te=>cond (Nat.blt n.toNat k) (cond te.isAgg (some (.agg ((cs.drop (n.toNat*te.size)).take te.size))) cs[n.toNat*te.size]?) none
      | none=>none
    | _,_=>none) none
 | _,_=>none
theorem aE0{T:bQ}(ok:T.Ok){t:TypeId}{ι:bS}{M:aC}{w:World}{x i y:AV}{v u:Value}(R:fZ ι M w)(hx:VR ι x v)(hi:VR ι i u)(h:tZ T t x i=some y):
 VS T.P ι M w (Instr.index t v u) y M:=by
 unfold tZ at h
 split at h
 ·rename_i ti k n ht
  cases hi
  rw[cond_eq_ite] at h
  simp only[decide_eq_true_eq] at h
  split at h
  ·rename_i h0
   split at h
   ·rename_i s hk
    cases hx
    obtain⟨b,hb,rfl⟩:=Option.map_eq_some_iff.1 h
    exact⟨ι,w,.int .u8 b.toNat,by simp[Instr.index,asIntOf,mR ok ht hk,h0,hb],.val _ rfl,bR.refl R⟩
   ·rename_i m e cs hk
    cases hx with
    | agg _ vs hvs=>
      split at h
      ·rename_i te hte
       simp only[cond_eq_ite] at h
       split at h
       ·rename_i h1
        have h1:n.toNat<m:=Nat.le_of_ble_eq_true h1
        have hcond:0≤n∧n<(m:Int):=⟨h0,by omega⟩
        split at h
        ·rename_i hag
         injection h with h;subst h
         refine⟨ι,w,.agg (vs.extract (n.toNat*te.size) (n.toNat*te.size+te.size)),?_,.agg _ _ ?_,bR.refl R⟩
         ·simp[Instr.index,asIntOf,pW ok ht hk,hcond,bY ok hte,part,oO ok hte,hag]
         ·rw[oZ,show n.toNat*te.size+te.size-n.toNat*te.size=te.size by omega]
          exact (hvs.drop _).take _
        ·rename_i hag
         obtain⟨z,hz,hvz⟩:=hvs.get _ y h
         have hz':vs[n.toNat*te.size]? =some z:=by simpa using hz
         refine⟨ι,w,z,?_,hvz,bR.refl R⟩
         simp[Instr.index,asIntOf,pW ok ht hk,hcond,bY ok hte,part,oO ok hte,hag,hz']
       ·simp at h
      ·simp at h
   ·simp at h
  ·simp at h
 ·simp at h
def aDc(x:AV)(hi:Nat):Option Nat:=
 match x with
 | .val (.int _ n)=>cond (decide (0≤n)) (cond (Nat.ble n.toNat hi) (some n.toNat) none) none
 | _=>none
inductive OVR (ι:bS):Option AV→Option Value→Prop
 | none:OVR ι none none
 | some (x:AV) (v:Value) (h:VR ι x v):OVR ι (some x) (some v)
theorem lR{P:Program}{ι:bS}{w:World}{x:AV}{v:Value}(hx:VR ι x v){hi hi' n:Nat}(hle:hi≤hi')(h:aDc x hi=some n)(c:BoundsCode):
 (Instr.sliceBound v hi' c).run P w= .ok n w∧n≤hi:=by
 unfold aDc at h
 split at h
 ·rename_i k m
  cases hx
  simp only[cond_eq_ite,decide_eq_true_eq] at h
  split at h
  ·rename_i h0
   split at h
   ·rename_i h1
    have h1:m.toNat≤hi:=Nat.le_of_ble_eq_true h1
    injection h with h;subst h
    have hc:0≤m∧m≤(hi':Int):=⟨h0,by omega⟩
    exact⟨by simp[Instr.sliceBound,asIntOf,hc],h1⟩
   ·simp at h
  ·simp at h
 ·simp at h
def sliceB(len cap:Nat)(lo hi mx:Option AV):Option (Nat×Nat×Nat):=
 match (match mx with|some v=>aDc v cap|none=>some cap) with
 | none=>none
 | some m=>
   match (match hi with|some v=>aDc v m|none=>(match mx with|none=>some len|some _=>none)) with
   | none=>none
   | some h=>
     match (match lo with|some v=>aDc v h|none=>some 0) with
     | none=>none
     | some l=>some (l,h,m)
theorem iZ{P:Program}{ι:bS}{w:World}{lo hi mx:Option AV}{lov hiv mxv:Option Value}(h1:OVR ι lo lov)(h2:OVR ι hi hiv)(h3:OVR ι mx mxv)
 {len cap cap' l h m:Nat} (hc:cap≤cap') (e:sliceB len cap lo hi mx=some (l,h,m)) (b:Bool):
 (Instr.sliceBounds b len cap' lov hiv mxv).run P w= .ok (l,h,if mx.isSome then m else cap') w∧(mx.isSome=false→m=cap)∧(mx.isSome=true→m≤cap)∧
  (hi.isSome=true→h≤m):=by
 unfold sliceB at e
 cases h3 with
 | none=>
   simp only at e
   cases h2 with
   | none=>
     simp only at e
     cases h1 with
     | none=>
       simp only[Option.some.injEq,Prod.mk.injEq] at e
       obtain⟨rfl,rfl,rfl⟩:=e
       exact⟨by simp[Instr.sliceBounds],fun _=>rfl,fun h=>by simp at h,fun h=>by simp at h⟩
     | some x v hx=>
       simp only at e
       split at e
       ·simp at e
       ·rename_i l' hl
        simp only[Option.some.injEq,Prod.mk.injEq] at e
        obtain⟨rfl,rfl,rfl⟩:=e
        have:=lR (P:=P) (w:=w) hx (Nat.le_refl _) hl .sliceB
        exact⟨by simp[Instr.sliceBounds,this.1],fun _=>rfl,fun h=>by simp at h,fun h=>by simp at h⟩
   | some y u hy=>
     simp only at e
     split at e
     ·simp at e
     ·rename_i h' hh
      have hb:=fun c=>lR (P:=P) (w:=w) hy hc hh c
      cases h1 with
      | none=>
        simp only[Option.some.injEq,Prod.mk.injEq] at e
        obtain⟨rfl,rfl,rfl⟩:=e
        exact⟨by simp[Instr.sliceBounds,(hb _).1],fun _=>rfl,fun h=>by simp at h,fun _=>(hb .index).2⟩
      | some x v hx=>
        simp only at e
        split at e
        ·simp at e
        ·rename_i l' hl
         simp only[Option.some.injEq,Prod.mk.injEq] at e
         obtain⟨rfl,rfl,rfl⟩:=e
         have:=lR (P:=P) (w:=w) hx (Nat.le_refl _) hl .sliceB
         exact⟨by simp[Instr.sliceBounds,this.1,(hb _).1],fun _=>rfl,fun h=>by simp at h,fun _=>(hb .index).2⟩
 | some z s hz=>
   simp only at e
   split at e
   ·simp at e
   ·rename_i m' hm
    have hbm:=fun c=>lR (P:=P) (w:=w) hz hc hm c
    cases h2 with
    | none=>simp at e
    | some y u hy=>
      simp only at e
      split at e
      ·simp at e
      ·rename_i h' hh
       have hb:=fun c=>lR (P:=P) (w:=w) hy (Nat.le_refl _) hh c
       cases h1 with
       | none=>
         simp only[Option.some.injEq,Prod.mk.injEq] at e
         obtain⟨rfl,rfl,rfl⟩:=e
         exact⟨by simp[Instr.sliceBounds,(hb _).1,(hbm _).1],fun h=>by simp at h,fun _=>(hbm .index).2,fun _=>(hb .index).2⟩
       | some x v hx=>
         simp only at e
         split at e
         ·simp at e
         ·rename_i l' hl
          simp only[Option.some.injEq,Prod.mk.injEq] at e
          obtain⟨rfl,rfl,rfl⟩:=e
          have:=lR (P:=P) (w:=w) hx (Nat.le_refl _) hl .slice3C
          exact⟨by simp[Instr.sliceBounds,this.1,(hb _).1,(hbm _).1],fun h=>by simp at h,fun _=>(hbm .index).2,fun _=>(hb .index).2⟩
def pH(T:bQ)(t:TypeId)(x:AV)(lo hi mx:Option AV):Option AV:=
 match T.ty.get t with
 | none=>none
 | some ti=>
   match ti.k,x with
   | .sli e,.sl b o n c ex=>
     match T.ty.get e with
     | none=>none
     | some te=>
       match sliceB n c lo hi mx with
       | none=>none
       | some (l,h,m)=>
         match ex,mx with
         | none,_=>some (.sl b (cond (Nat.beq m l) o (o+l*te.size)) (h-l) (m-l) none)
         | some s,none=>cond (Nat.beq s te.size) (cond (Nat.ble h c) (some (.sl b (o+l*te.size) (h-l) (m-l) (some s))) none) none
         | some _,some _=>cond (Nat.blt 0 c) (some (.sl b (cond (Nat.beq m l) o (o+l*te.size)) (h-l) (m-l) none)) none
   | .sli e,.val (.slice none n c)=>
     match T.ty.get e with
     | none=>none
     | some _=>
       match sliceB n c lo hi mx with
       | none=>none
       | some (l,h,m)=>some (.val (.slice none (h-l) (m-l)))
   | .str,.val (.string s)=>
     match mx with
     | some _=>none
     | none=>
       match sliceB s.size s.size lo hi none with
       | none=>none
       | some (l,h,_)=>some (.val (.string (s.extract l h)))
   | .pt a,.ptr b o=>
     match T.ty.get a with
     | none=>none
     | some ta=>
       match ta.k with
       | .ar n e=>
         match T.ty.get e with
         | none=>none
         | some te=>
           match sliceB n n lo hi mx with
           | none=>none
           | some (l,h,m)=>some (.sl b (cond (Nat.beq m l) o (o+l*te.size)) (h-l) (m-l) none)
       | _=>none
   | _,_=>none
theorem zX{α:Type}(m l:Nat)(x y:α):cond (Nat.beq m l) x y=if m=l then x else y:=by
 simp only[cond_eq_ite,Nat.beq_eq]
theorem aFh{T:bQ}(ok:T.Ok){t:TypeId}{ι:bS}{M:aC}{w:World}{x y:AV}{v:Value}{lo hi mx:Option AV}{lov hiv mxv:Option Value}
 (R:fZ ι M w) (hx:VR ι x v) (h1:OVR ι lo lov) (h2:OVR ι hi hiv) (h3:OVR ι mx mxv) (h:pH T t x lo hi mx=some y):
 VS T.P ι M w (Instr.slice t v lov hiv mxv) y M:=by
 unfold pH at h
 split at h
 ·simp at h
 ·rename_i ti ht
  split at h
  ·rename_i e b o n c ex hk
   split at h
   ·simp at h
   ·rename_i te hte
    split at h
    ·simp at h
    ·rename_i l hh m hB
     cases hx with
     | slE _ _ _ _ lc hl=>
       simp only[Option.some.injEq] at h
       subst h
       obtain⟨hr,hm,_⟩:=iZ (P:=T.P) (w:=w) h1 h2 h3 (Nat.le_refl c) hB true
       have hm':(if mx.isSome then m else c)=m:=by
        cases hs:mx.isSome with
        | true=>rfl
        | false=>exact (hm hs).symm
       rw[hm'] at hr
       rw[zX]
       by_cases hml:m=l
       ·rw[if_pos hml]
        refine⟨ι,w,_,?_,.slE b o (hh-l) (m-l) lc hl,bR.refl R⟩
        simp[Instr.slice,cR ok ht hk,hr,bY ok hte,hml]
       ·rw[if_neg hml]
        refine⟨ι,w,_,?_,.slE b (o+l*te.size) (hh-l) (m-l) lc hl,bR.refl R⟩
        simp[Instr.slice,cR ok ht hk,hr,bY ok hte,hml,eX,Nat.add_assoc]
     | slI _ _ _ _ s c' lc hl hc hs=>
       obtain⟨hr,hm,hmc,hhm⟩:=iZ (P:=T.P) (w:=w) h1 h2 h3 hc hB true
       cases h3 with
       | none=>
         simp only[cond_eq_ite] at h
         split at h
         ·rename_i hse
          have hse:s=te.size:=Nat.eq_of_beq_eq_true hse
          split at h
          ·rename_i hhc
           have hhc:hh≤c:=Nat.le_of_ble_eq_true hhc
           injection h with h;subst h
           have hmm:m=c:=hm rfl
           subst hmm
           simp only[Option.isSome_none,Bool.false_eq_true,if_false] at hr
           have hlh:l≤hh∨hh<l:=by omega
           by_cases hcl:c'=l
           ·subst hcl
            have hz:m-c'=0:=by omega
            have hz2:hh-c'=0:=by omega
            refine⟨ι,w,.slice (some ⟨lc.blk,lc.base+o,none⟩) (hh-c') (c'-c'),?_,?_,bR.refl R⟩
            ·simp[Instr.slice,cR ok ht hk,hr,bY ok hte]
            ·rw[hz,hz2,show c'-c'=0 by omega]
             exact .slZ b _ s _ lc hl
           ·refine⟨ι,w,.slice (some ⟨lc.blk,lc.base+o+l*te.size,none⟩) (hh-l) (c'-l),?_,?_,bR.refl R⟩
            ·simp[Instr.slice,cR ok ht hk,hr,bY ok hte,hcl,eX]
            ·rw[Nat.add_assoc]
             by_cases hlc:l≤c'
             ·refine .slI b (o+l*te.size) (hh-l) (m-l) s (c'-l) lc hl (by omega) ?_
              rw[Nat.sub_mul,hse]
              have:l*te.size≤c'*te.size:=Nat.mul_le_mul_right _ hlc
              subst hse
              omega
             ·exfalso
              cases h1 with
              | none=>
                unfold sliceB at hB
                simp only at hB
                cases h2 with
                | none=>simp only[Option.some.injEq,Prod.mk.injEq] at hB;omega
                | some y u hy=>
                  simp only at hB
                  split at hB
                  ·simp at hB
                  ·simp only[Option.some.injEq,Prod.mk.injEq] at hB;omega
              | some z q hz=>
                unfold sliceB at hB
                simp only at hB
                cases h2 with
                | none=>
                  simp only at hB
                  split at hB
                  ·simp at hB
                  ·rename_i l' hl'
                   simp only[Option.some.injEq,Prod.mk.injEq] at hB
                   have:=(lR (P:=T.P) (w:=w) hz (Nat.le_refl _) hl' .sliceB).2
                   omega
                | some y u hy=>
                  simp only at hB
                  split at hB
                  ·simp at hB
                  ·split at hB
                   ·simp at hB
                   ·rename_i l' hl'
                    simp only[Option.some.injEq,Prod.mk.injEq] at hB
                    have:=(lR (P:=T.P) (w:=w) hz (Nat.le_refl _) hl' .sliceB).2
                    omega
          ·simp at h
         ·simp at h
       | some zx zv hz=>
         simp only[cond_eq_ite] at h
         split at h
         ·rename_i hc0
          injection h with h;subst h
          simp only[Option.isSome_some,if_true] at hr
          simp only[Nat.beq_eq]
          by_cases hml:m=l
          ·rw[if_pos hml]
           refine⟨ι,w,_,?_,.slE b o (hh-l) (m-l) lc hl,bR.refl R⟩
           simp[Instr.slice,cR ok ht hk,hr,bY ok hte,hml]
          ·rw[if_neg hml]
           refine⟨ι,w,_,?_,.slE b (o+l*te.size) (hh-l) (m-l) lc hl,bR.refl R⟩
           simp[Instr.slice,cR ok ht hk,hr,bY ok hte,hml,eX,Nat.add_assoc]
         ·simp at h
     | slZ _ _ s xx lc hl=>
       cases h3 with
       | none=>
         simp only[cond_eq_ite] at h
         split at h
         ·split at h
          ·rename_i hhc
           have hhc:hh≤0:=Nat.le_of_ble_eq_true hhc
           injection h with h;subst h
           obtain⟨hr,hm,hmc,hhm⟩:=iZ (P:=T.P) (w:=w) h1 h2 (OVR.none (ι:=ι)) (Nat.le_refl 0) hB true
           have hmm:m=0:=hm rfl
           simp only[Option.isSome_none,Bool.false_eq_true,if_false] at hr
           subst hmm
           have hz2:hh-l=0:=by omega
           rw[hz2,Nat.zero_sub]
           by_cases hl0:0=l
           ·refine⟨ι,w,.slice (some ⟨lc.blk,xx,none⟩) 0 0,?_,.slZ b _ s xx lc hl,bR.refl R⟩
            subst hl0
            have:hh=0:=by omega
            subst this
            simp[Instr.slice,cR ok ht hk,hr,bY ok hte]
           ·refine⟨ι,w,.slice (some ⟨lc.blk,xx+l*te.size,none⟩) 0 0,?_,.slZ b _ s _ lc hl,bR.refl R⟩
            simp[Instr.slice,cR ok ht hk,hr,bY ok hte,hl0,eX,hz2]
          ·simp at h
         ·simp at h
       | some zx zv hz=>
         simp[Nat.blt,Nat.ble] at h
  ·rename_i e n c hk
   cases hx
   split at h
   ·simp at h
   ·rename_i te hte
    split at h
    ·simp at h
    ·rename_i l hh m hB
     injection h with h;subst h
     obtain⟨hr,hm,_⟩:=iZ (P:=T.P) (w:=w) h1 h2 h3 (Nat.le_refl c) hB true
     have hm':(if mx.isSome then m else c)=m:=by
      cases hs:mx.isSome with
      | true=>rfl
      | false=>exact (hm hs).symm
     rw[hm'] at hr
     refine⟨ι,w,.slice none (hh-l) (m-l),?_,.val _ rfl,bR.refl R⟩
     simp[Instr.slice,cR ok ht hk,hr,bY ok hte]
  ·rename_i s hk
   cases hx
   cases h3 with
   | some=>simp at h
   | none=>
     simp only at h
     split at h
     ·simp at h
     ·rename_i l hh m hB
      injection h with h;subst h
      obtain⟨hr,hm,_⟩:=iZ (P:=T.P) (w:=w) h1 h2 (OVR.none (ι:=ι)) (Nat.le_refl s.size) hB false
      refine⟨ι,w,.string (s.extract l hh),?_,.val _ rfl,bR.refl R⟩
      simp[Instr.slice,mR ok ht hk,hr]
  ·rename_i a b o hk
   split at h
   ·simp at h
   ·rename_i ta hta
    split at h
    ·rename_i n e hka
     split at h
     ·simp at h
     ·rename_i te hte
      split at h
      ·simp at h
      ·rename_i l hh m hB
       injection h with h;subst h
       cases hx with
       | ptr _ _ lc hl=>
         obtain⟨hr,hm,_⟩:=iZ (P:=T.P) (w:=w) h1 h2 h3 (Nat.le_refl n) hB false
         have hm':(if mx.isSome then m else n)=m:=by
          cases hs:mx.isSome with
          | true=>rfl
          | false=>exact (hm hs).symm
         rw[hm'] at hr
         rw[zX]
         by_cases hml:m=l
         ·rw[if_pos hml]
          refine⟨ι,w,_,?_,.slE b o (hh-l) (m-l) lc hl,bR.refl R⟩
          simp[Instr.slice,aAA ok ht hk,asAddr,pW ok hta hka,hr,bY ok hte,hml]
         ·rw[if_neg hml]
          refine⟨ι,w,_,?_,.slE b (o+l*te.size) (hh-l) (m-l) lc hl,bR.refl R⟩
          simp[Instr.slice,aAA ok ht hk,asAddr,pW ok hta hka,hr,bY ok hte,hml,eX,Nat.add_assoc]
    ·simp at h
  ·simp at h
def repA{α:Type}(n:Nat)(zs:List α):List α:=(List.replicate n zs).flatten
theorem wV{α:Type}(n:Nat)(zs:List α):repA (n+1) zs=zs++repA n zs:=by simp[repA,List.replicate_succ]
theorem aF8{α:Type}(n:Nat)(zs:List α):repA (n+1) zs=repA n zs++zs:=by simp[repA,List.replicate_succ']
theorem jB{α:Type}(n:Nat)(zs:List α):(repA n zs).length=n*zs.length:=by simp[repA]
theorem VRs.repA{ι:bS}{xs:List AV}{vs:List Value}(h:VRs ι xs vs):∀ n,VRs ι (repA n xs) (AM.repA n vs)
 | 0=> .nil
 | n+1=>by rw[wV,wV];exact h.append (VRs.repA h n)
theorem range_zero(z:Array Value)(hz:0<z.size):∀ n,((List.range (n*z.size)).map fun i=>z[i%z.size]!)=repA n z.toList
 | 0=>by simp[repA]
 | n+1=>by
   rw[aF8,Nat.succ_mul,List.range_add,List.map_append,range_zero z hz n,List.map_map]
   congr 1
   apply List.ext_getElem?
   intro i
   simp only[List.getElem?_map]
   by_cases hi:i<z.size
   ·rw[List.getElem?_range hi]
    simp only[Option.map_some,Function.comp]
    rw[Nat.add_comm,Nat.add_mul_mod_self_right,Nat.mod_eq_of_lt hi]
    simp[hi]
   ·rw[List.getElem?_eq_none (by simp;omega),List.getElem?_eq_none (by simp;omega)]
    rfl
theorem lL(z:Array Value)(s n:Nat)(hs:z.size=s):((Array.range (n*s)).map fun i=>z[i%z.size]!).toList=repA n z.toList:=by
 subst hs
 by_cases hz:0<z.size
 ·simp only[Array.toList_map,Array.toList_range]
  exact range_zero z hz n
 ·have h0:z.size=0:=by omega
  have:z.toList=[]:=by simpa using h0
  simp[this,h0,repA]
theorem lK{z:Value}{zs:List Value}(h:z.cells.toList=zs):z.cells.size=zs.length:=by rw[← h];simp
def cU(T:bQ)(t:TypeId)(len cap:AV)(M:aC):Option (AV×aC):=
 match T.ty.get t with
 | none=>none
 | some ti=>
   match ti.k,len,cap with
   | .sli e,.val (.int _ l),.val (.int _ c)=>
     match T.ty.get e with
     | none=>none
     | some te=>
       cond (decide (0≤l)) (cond (decide (l≤c)) (cond (decide (te.bytes*c≤281474976710656)) (cond (decide (c<4611686018427387904))
        (some (.sl M.next 0 l.toNat c.toNat none,M.new (.cells (repA c.toNat (ofVs te.zero)) true))) none) none) none) none
   | _,_,_=>none
theorem qN{n:Int}(h0:0≤n)(h:n<4611686018427387904):IntKind.i64.wrap n=n:=by
 have e:IntKind.i64.wrap n=if (true&&decide (n%18446744073709551616≥9223372036854775808))=true then n%18446744073709551616-18446744073709551616 else n%18446744073709551616:=rfl
 rw[e]
 have h1:n%18446744073709551616=n:=Int.emod_eq_of_lt h0 (by omega)
 simp only[h1]
 rw[if_neg]
 simp
 omega
theorem aAS{T:bQ}(ok:T.Ok){t:TypeId}{ι:bS}{M M':aC}{w:World}{x y:AV}{v u:Value}{z:AV}(R:fZ ι M w)(hx:VR ι x v)(hy:VR ι y u)
 (h:cU T t x y M=some (z,M')):VS T.P ι M w (Instr.makeSlice t v u) z M':=by
 unfold cU at h
 split at h
 ·simp at h
 ·rename_i ti ht
  split at h
  ·rename_i e k1 l k2 c hk
   cases hx;cases hy
   split at h
   ·simp at h
   ·rename_i te hte
    simp only[cond_eq_ite,decide_eq_true_eq] at h
    split at h
    ·rename_i h0
     split at h
     ·rename_i h1
      split at h
      ·rename_i h2
       split at h
       ·rename_i h3
        injection h with h;injection h with h4 h5;subst h4;subst h5
        obtain⟨i,hi,hsz,hby,_⟩:=gY ok hte (w:=w)
        obtain⟨zv,hzr,hzv⟩:=kZ ok hte (w:=w)
        have hlen:=wE ok hte
        have hw1:=qN h0 (by omega:l<4611686018427387904)
        have hw2:=qN (by omega:0≤c) h3
        have hzs:zv.cells.size=te.size:=by rw[lK hzv,hlen]
        have hrow:∃ zs:Array Value,(c.toNat*te.size=0→zs= #[])∧(¬ c.toNat*te.size=0→zs=zv.cells)∧
         ((Array.range (c.toNat*te.size)).map fun i=>zs[i%zs.size]!).toList=repA c.toNat te.zero:=by
         by_cases hn:c.toNat*te.size=0
         ·refine⟨#[],fun _=>rfl,fun h=>absurd hn h,?_⟩
          rw[hn]
          simp only[Array.toList_map,Array.toList_range,List.range_zero,List.map_nil]
          have:(repA c.toNat te.zero).length=0:=by rw[jB,hlen,hn]
          exact (List.eq_nil_of_length_eq_zero this).symm
         ·refine⟨zv.cells,fun h=>absurd h hn,fun _=>rfl,?_⟩
          rw[lL zv.cells te.size c.toNat hzs,hzv]
        obtain⟨zs,hzs1,hzs2,hzs3⟩:=hrow
        obtain⟨ι',w',hr,hl,hs⟩:=VS.newRow (P:=T.P) R (e:=e) (cs:=repA c.toNat (ofVs te.zero)) (vs:=(Array.range (c.toNat*te.size)).map fun i=>zs[i%zs.size]!)
         (by rw[hzs3];exact (VRs.ofVs ι te.zero).repA _)
        refine⟨ι',w',.slice (some ⟨w.heap.size,0,none⟩) l.toNat c.toNat,?_,?_,hs⟩
        ·have hb1:¬ (c<0):=by omega
         have hb2:¬ ((i.bytes:Int)*c>2^48):=by
          rw[hby]
          have:(2^48:Int)=281474976710656:=by decide
          omega
         have hb3:¬ (l<0):=by omega
         have hb4:¬ (l>c):=by omega
         simp only[Instr.makeSlice,Sem.run_bind,cR ok ht hk,Result.andThen_ok,asInt,asIntOf,Sem.run_pure,hi,hw1,hw2]
         simp only[hb1,hb2,hb3,hb4,decide_false,Bool.or_self,Bool.false_eq_true,if_false]
         simp only[Sem.run_bind,run_askRoom,Result.andThen_ok,bY ok hte]
         by_cases hn:c.toNat*te.size=0
         ·rw[if_pos hn]
          have:=hzs1 hn;subst this
          simp only[Sem.run_bind,Sem.run_pure,Result.andThen_ok,hr]
         ·rw[if_neg hn]
          have:=hzs2 hn;subst this
          simp only[Sem.run_bind,Sem.run_pure,Result.andThen_ok,hzr,hr]
        ·exact VR.slE M.next 0 l.toNat c.toNat ⟨w.heap.size,0,_⟩ hl
       ·simp at h
      ·simp at h
     ·simp at h
    ·simp at h
  ·simp at h
def xW(place:Nat→Option (Nat×Nat))(cells:List AV):List (Nat×AV)→Option (List AV)
 | []=>some cells
 | (i,v)::rest=>
   match place i with
   | none=>none
   | some (off,size)=>
     cond (Nat.beq v.cells.length size) (cond (Nat.ble (off+v.cells.length) cells.length) (xW place (setAt cells off v.cells) rest) none) none
inductive PVR (ι:bS):List (Nat×AV)→List (Nat×Value)→Prop
 | nil:PVR ι [] []
 | cons (i:Nat) (x:AV) (v:Value) (xs:List (Nat×AV)) (vs:List (Nat×Value)) (h:VR ι x v) (hs:PVR ι xs vs):PVR ι ((i,x)::xs) ((i,v)::vs)
theorem yE(off:Nat):∀ (vs:List Value) (k:Nat) (cells:Array Value),
 ((vs.zipIdx k).foldl (fun cs (x:Value×Nat)=>cs.setIfInBounds (off+x.2) x.1) cells).toList=setAt cells.toList (off+k) vs
 | [],k,cells=>by rw[fA];rfl
 | v::vs,k,cells=>by
   simp only[List.zipIdx_cons,List.foldl_cons]
   rw[yE off vs (k+1)]
   simp only[eU,Array.toList_setIfInBounds]
   rfl
theorem qR{ι:bS}(place:Nat→Option (Nat×Nat)):∀ {ps:List (Nat×AV)} {qs:List (Nat×Value)},PVR ι ps qs→∀ {cells cells':List AV} {vs:Array Value},
 VRs ι cells vs.toList→xW place cells ps=some cells'→∃ vs',Instr.fill place vs qs=some vs'∧VRs ι cells' vs'.toList
 | _,_,.nil,cells,cells',vs,h,e=>by
   simp only[xW,Option.some.injEq] at e
   subst e
   exact⟨vs,rfl,h⟩
 | _,_,.cons i x v xs qs hx hs,cells,cells',vs,h,e=>by
   simp only[xW] at e
   split at e
   ·simp at e
   ·rename_i off size hp
    simp only[cond_eq_ite] at e
    split at e
    ·rename_i h1
     have h1:x.cells.length=size:=Nat.eq_of_beq_eq_true h1
     split at e
     ·rename_i h2
      have h2:off+x.cells.length≤cells.length:=Nat.le_of_ble_eq_true h2
      have hl1:=hx.cells.length
      have hl2:=h.length
      simp only[Array.length_toList] at hl1 hl2
      have hf:(v.cells.zipIdx.foldl (fun cs (x:Value×Nat)=>cs.setIfInBounds (off+x.2) x.1) vs).toList=setAt vs.toList off v.cells.toList:=by
       rw[← Array.foldl_toList,Array.toList_zipIdx]
       exact yE off v.cells.toList 0 vs
      obtain⟨vs',h3,h4⟩:=qR place hs (cells:=setAt cells off x.cells) (vs:=v.cells.zipIdx.foldl (fun cs (x:Value×Nat)=>cs.setIfInBounds (off+x.2) x.1) vs)
       (by rw[hf];exact h.setAt off hx.cells) e
      refine⟨vs',?_,h4⟩
      have hne:¬ (v.cells.size≠size||off+v.cells.size>vs.size)=true:=by
       simp;omega
      simp only[Instr.fill,hp]
      rw[if_neg (by simpa using hne)]
      exact h3
     ·simp at e
    ·simp at e
def zD(fs:List (Nat×Nat×Bool))(i:Nat):Option (Nat×Nat):=(fs[i]?).map fun f=>(f.1,f.2.1)
def iA(T:bQ)(t:TypeId)(ps:List (Nat×AV)):Option AV:=
 match T.ty.get t with
 | none=>none
 | some ti=>
   match ti.k with
   | .st fs=>(xW (zD fs) (ofVs ti.zero) ps).map .agg
   | .ar _ e=>
     match T.ty.get e with
     | none=>none
     | some te=>(xW (fun i=>some (i*te.size,te.size)) (ofVs ti.zero) ps).map .agg
   | _=>none
theorem dU.places{P:Program}{w:World}:∀ {fs:List Field} {l:List (Nat×Nat×Bool)},dU P fs l→
 (fs.mapM fun f=>(do pure (f.offset,← sizeOf f.type):Sem (Nat×Nat))).run P w= .ok (l.map fun f=>(f.1,f.2.1)) w
 | [],[],_=>by simp
 | f::fs,(o,s,a)::l,h=>by
   have hg:=dU.get h 0 o s a (by simp)
   obtain⟨f',hf',ho,hs,_⟩:=hg
   simp only[List.getElem?_cons_zero,Option.some.injEq] at hf'
   subst hf'
   have ih:=dU.places (P:=P) (w:=w) h.2.2.2
   rw[List.mapM_cons]
   simp only[Sem.run_bind,hs,ho,Result.andThen_ok,Sem.run_pure,ih,List.map_cons]
 | [],_::_,h=>h.elim
 | _::_,[],h=>h.elim
theorem aFZ{T:bQ}(ok:T.Ok){t:TypeId}{ι:bS}{M:aC}{w:World}{ps:List (Nat×AV)}{qs:Array (Nat×Value)}{x:AV}(R:fZ ι M w)(hp:PVR ι ps qs.toList)
 (h:iA T t ps=some x):VS T.P ι M w (Instr.build t qs) x M:=by
 unfold iA at h
 split at h
 ·simp at h
 ·rename_i ti ht
  obtain⟨z,hz,hz2⟩:=kZ ok ht (w:=w)
  have hzv:VRs ι (ofVs ti.zero) z.cells.toList:=by rw[hz2];exact VRs.ofVs ι _
  split at h
  ·rename_i fs hk
   obtain⟨cs,hc,rfl⟩:=Option.map_eq_some_iff.1 h
   obtain⟨vs,h1,h2⟩:=qR (zD fs) hp hzv hc
   obtain⟨fields,hr,hfo⟩:=aK8 ok ht hk (w:=w)
   refine⟨ι,w,.agg vs,?_,.agg _ _ h2,bR.refl R⟩
   have hm:(fields.mapM fun f=>(do pure (f.offset,← sizeOf f.type):Sem (Nat×Nat))).run T.P w= .ok (fs.map fun f=>(f.1,f.2.1)).toArray w:=by
    rw[Array.mapM_eq_mapM_toList]
    simp only[Sem.run_map]
    rw[dU.places hfo]
    rfl
   have hpl:(fun i=>((fs.map fun f=>(f.1,f.2.1)).toArray)[i]?)=zD fs:=by
    funext i;simp[zD]
   simp only[Instr.build,Sem.run_bind,hz,Result.andThen_ok,hr,hm,hpl,h1,Sem.run_pure]
  ·rename_i n e hk
   split at h
   ·simp at h
   ·rename_i te hte
    obtain⟨cs,hc,rfl⟩:=Option.map_eq_some_iff.1 h
    obtain⟨vs,h1,h2⟩:=qR _ hp hzv hc
    refine⟨ι,w,.agg vs,?_,.agg _ _ h2,bR.refl R⟩
    simp only[Instr.build,Sem.run_bind,hz,Result.andThen_ok,pW ok ht hk,bY ok hte,h1,Sem.run_pure]
  ·simp at h
def iG(T:bQ)(t:TypeId)(len:Nat)(ps:List (Nat×AV))(M:aC):Option (AV×aC):=
 match T.ty.get t with
 | none=>none
 | some ti=>
   match ti.k with
   | .sli e=>
     match T.ty.get e with
     | none=>none
     | some te=>
       cond (Nat.ble (len*te.size) 16777216)
        (match xW (fun i=>some (i*te.size,te.size)) (repA len (ofVs te.zero)) ps with
        | none=>none
        | some cs=>some (.sl M.next 0 len len none,M.new (.cells cs true))) none
   | _=>none
theorem yP{T:bQ}(ok:T.Ok){t:TypeId}{len:Nat}{ι:bS}{M M':aC}{w:World}{ps:List (Nat×AV)}{qs:Array (Nat×Value)}{x:AV}(R:fZ ι M w)
 (hp:PVR ι ps qs.toList) (h:iG T t len ps M=some (x,M')):VS T.P ι M w (Instr.buildSlice t len qs) x M':=by
 unfold iG at h
 split at h
 ·simp at h
 ·rename_i ti ht
  split at h
  ·rename_i e hk
   split at h
   ·simp at h
   ·rename_i te hte
    rw[cond_eq_ite] at h
    split at h
    ·rename_i hle
     have hle:len*te.size≤16777216:=Nat.le_of_ble_eq_true hle
     split at h
     ·simp at h
     ·rename_i cs hcs
      injection h with h;injection h with h1 h2;subst h1;subst h2
      obtain⟨zv,hzr,hzv⟩:=kZ ok hte (w:=w)
      have hlen:=wE ok hte
      have hzs:zv.cells.size=te.size:=by rw[lK hzv,hlen]
      have hrow:∃ zs:Array Value,(len*te.size=0→zs= #[])∧(¬ len*te.size=0→zs=zv.cells)∧
       ((Array.range (len*te.size)).map fun i=>zs[i%zs.size]!).toList=repA len te.zero:=by
       by_cases hn:len*te.size=0
       ·refine⟨#[],fun _=>rfl,fun h=>absurd hn h,?_⟩
        rw[hn]
        simp only[Array.toList_map,Array.toList_range,List.range_zero,List.map_nil]
        have:(repA len te.zero).length=0:=by rw[jB,hlen,hn]
        exact (List.eq_nil_of_length_eq_zero this).symm
       ·refine⟨zv.cells,fun h=>absurd h hn,fun _=>rfl,?_⟩
        rw[lL zv.cells te.size len hzs,hzv]
      obtain⟨zs,hzs1,hzs2,hzs3⟩:=hrow
      obtain⟨vs,h3,h4⟩:=qR (ι:=ι) _ hp (vs:=(Array.range (len*te.size)).map fun i=>zs[i%zs.size]!) (by rw[hzs3];exact (VRs.ofVs ι te.zero).repA len) hcs
      obtain⟨ι',w',hr,hl,hs⟩:=VS.newRow (P:=T.P) R (e:=e) h4
      refine⟨ι',w',.slice (some ⟨w.heap.size,0,none⟩) len len,?_,VR.slE M.next 0 len len ⟨w.heap.size,0,_⟩ hl,hs⟩
      have hng:¬ (len*te.size>2^24):=by
       have:2^24=16777216:=by decide
       omega
      simp only[Instr.buildSlice,Sem.run_bind,cR ok ht hk,Result.andThen_ok,bY ok hte]
      rw[if_neg hng]
      by_cases hn:len*te.size=0
      ·rw[if_pos hn]
       have:=hzs1 hn;subst this
       simp only[Sem.run_bind,Sem.run_pure,Result.andThen_ok,h3,hr]
      ·rw[if_neg hn]
       have:=hzs2 hn;subst this
       simp only[Sem.run_bind,Sem.run_pure,Result.andThen_ok,hzr,h3,hr]
    ·simp at h
  ·simp at h
theorem bR.reuse{ι:bS}{M:aC}{w w':World}(R:fZ ι M w){b:Nat}{r r':hY}{l l':wB}(hg:M.get b=some r)(hrw:r.rw=true)(hl:ι b=some l)(hbl:l'.blk=l.blk)
 (hs:w'.heap.size=w.heap.size) (hother:∀ k,k≠l.blk→w'.heap[k]? =w.heap[k]?)
 (hrow:vA (fun c=>if c=M.next then some l' else ι c) l' r' w'.heap[l.blk]?)
 (ho:w'.os=w.os) (ht:w'.tape=w.tape) (hu:w'.output=w.output) (h0:l'.base=0:=by rfl):bR ι M w (fun c=>if c=M.next then some l' else ι c) ((M.kill b).new r') w':=by
 have hext:Ext ι (fun b=>if b=M.next then some l' else ι b):=fun b l' h=>by
  have:=R.dom b l' h
  have hne:¬ (b=M.next):=by omega
  simp[hne,h]
 have hgn:∀ c,((M.kill b).new r').get c=if c=M.next then some r' else if c=b then none else M.get c:=fun c=>by
  rw[aC.get_new,aC.next_kill,aC.get_kill]
 refine⟨⟨?_,?_,?_,fun c lc h=>by
  by_cases hc:c=M.next
  ·rw[if_pos hc] at h;injection h with h;rw[← h];exact h0
  ·rw[if_neg hc] at h;exact R.bas c lc h⟩,hext,by simp,aCx,by omega,?_,?_,?_,ho,ht,hu⟩
 ·intro c lc h
  by_cases hc:c=M.next
  ·simp[hc]
  ·simp only[hc,if_false] at h
   have:=R.dom c lc h
   simp;omega
 ·intro c s h
  rw[hgn] at h
  by_cases hc:c=M.next
  ·simp only[hc,if_true,Option.some.injEq] at h
   subst h
   refine⟨l',by simp[hc],?_⟩
   rw[hbl];exact hrow
  ·simp only[hc,if_false] at h
   by_cases hcb:c=b
   ·simp[hcb] at h
   ·simp only[hcb,if_false] at h
    obtain⟨lc,hlc,hr⟩:=R.live c s h
    refine⟨lc,by simp[hc,hlc],?_⟩
    rw[hother lc.blk (fun he=>hcb (R.inj c b s r lc l h hg hlc hl he))]
    exact hr.mono hext
 ·intro c c' s s' l1 l2 h1 h2 hl1 hl2 he
  rw[hgn] at h1 h2
  by_cases hc:c=M.next <;> by_cases hc':c'=M.next
  ·omega
  ·exfalso
   simp only[hc,if_true,Option.some.injEq] at hl1
   simp only[hc',if_false] at h2 hl2
   subst hl1
   by_cases hcb:c'=b
   ·simp[hcb] at h2
   ·simp only[hcb,if_false] at h2
    exact hcb (R.inj c' b s' r l2 l h2 hg hl2 hl (by omega))
  ·exfalso
   simp only[hc',if_true,Option.some.injEq] at hl2
   simp only[hc,if_false] at h1 hl1
   subst hl2
   by_cases hcb:c=b
   ·simp[hcb] at h1
   ·simp only[hcb,if_false] at h1
    exact hcb (R.inj c b s r l1 l h1 hg hl1 hl (by omega))
  ·simp only[hc,if_false] at h1 hl1
   simp only[hc',if_false] at h2 hl2
   by_cases hcb:c=b
   ·simp[hcb] at h1
   ·by_cases hcb':c'=b
    ·simp[hcb'] at h2
    ·simp only[hcb,if_false] at h1
     simp only[hcb',if_false] at h2
     exact R.inj c c' s s' l1 l2 h1 h2 hl1 hl2 he
 ·intro k _ hn
  apply hother
  intro he
  exact hn ⟨b,r,l,hg,hrw,hl,he.symm⟩
 ·rintro k ⟨c,s,lc,h1,h2,h3,h4⟩
  rw[hgn] at h1
  by_cases hc:c=M.next
  ·simp only[hc,if_true,Option.some.injEq] at h3
   subst h3
   exact .inr ⟨b,r,l,hg,hrw,hl,by omega⟩
  ·simp only[hc,if_false] at h1 h3
   by_cases hcb:c=b
   ·simp[hcb] at h1
   ·simp only[hcb,if_false] at h1
    exact .inr ⟨c,s,lc,h1,h2,h3,h4⟩
 ·rintro k ⟨c,s,lc,h1,h3,h4⟩
  rw[hgn] at h1
  by_cases hc:c=M.next
  ·simp only[hc,if_true,Option.some.injEq] at h3
   subst h3
   exact .inr ⟨b,r,l,hg,hl,by omega⟩
  ·simp only[hc,if_false] at h1 h3
   by_cases hcb:c=b
   ·simp[hcb] at h1
   ·simp only[hcb,if_false] at h1
    exact .inr ⟨c,s,lc,h1,h3,h4⟩
def bytesA(s:ByteArray):List AV:=s.data.toList.map fun b=> .val (.int .u8 b.toNat)
def evLen(x:AV):Option Nat:=
 match x with
 | .sl _ _ n _ _=>some n
 | .val (.slice none n _)=>some n
 | .val (.string s)=>some s.size
 | _=>none
theorem uR{P:Program}{ι:bS}{w:World}{x:AV}{v:Value}{n:Nat}(hx:VR ι x v)(h:evLen x=some n):(Builtin.lenOf v).run P w= .ok n w:=by
 cases hx <;> simp only[evLen] at h
 case val=>
  split at h <;> first|(injection h with h;subst h;rfl)|(simp at h;done)|skip
  all_goals simp_all [Builtin.lenOf]
 all_goals first|(injection h with h;subst h;rfl)|(simp at h;done)
def evFirst(size k:Nat)(x:AV)(M:aC):Option (List AV):=
 match x with
 | .sl b o n _ _=>cond (Nat.ble k n) (cond (Nat.beq k 0) (some []) (M.cellsAt b o (k*size))) none
 | .val (.slice none _ _)=>some []
 | .val (.string s)=>some (bytesA (s.extract 0 k))
 | _=>none
theorem VRs.bytesA{ι:bS}(s:ByteArray):VRs ι (AM.bytesA s) (s.data.toList.map fun b=>Value.int .u8 b.toNat):=by
 have:=VRs.vals (ι:=ι) (s.data.toList.map fun b=>Value.int .u8 b.toNat) (by intro v hv;obtain⟨b,_,rfl⟩:=List.mem_map.1 hv;rfl)
 rw[List.map_map] at this
 exact this
theorem kU{P:Program}{ι:bS}{M:aC}{w:World}{x:AV}{v:Value}{size k:Nat}{xs:List AV}(R:fZ ι M w)(hx:VR ι x v)(h:evFirst size k x M=some xs):
 ∃ vs:Array Value,VRs ι xs vs.toList∧(Builtin.firstCells size k v).run P w= .ok vs w:=by
 have h0:∀ a:Addr,(loadCells a (0*size)).run P w= .ok #[] w:=fun a=>by simp[loadCells,loadCellsFrom]
 cases hx <;> simp only[evFirst] at h <;> try (simp at h;done)
 case val=>
  split at h <;> first|(simp at h;done)|skip
  ·rename_i he
   cases he
  ·rename_i he
   injection he with he;subst he
   injection h with h;subst h
   exact⟨#[],.nil,rfl⟩
  ·rename_i s he
   injection he with he;subst he
   injection h with h;subst h
   refine⟨(s.extract 0 k).data.map fun b=> .int .u8 b.toNat,?_,rfl⟩
   rw[Array.toList_map]
   exact VRs.bytesA _
 case slE b o n c l hl=>
  simp only[cond_eq_ite] at h
  split at h
  ·split at h
   ·rename_i hk
    have hk:k=0:=Nat.eq_of_beq_eq_true hk
    injection h with h;subst h;subst hk
    exact⟨#[],.nil,h0 _⟩
   ·obtain⟨vs,h1,h2,h3⟩:=R.loadCells (P:=P) h hl
    exact⟨vs.toArray,h1,h3⟩
  ·simp at h
 case slI b o n c e c' l hl hc hs=>
  simp only[cond_eq_ite] at h
  split at h
  ·split at h
   ·rename_i hk
    have hk:k=0:=Nat.eq_of_beq_eq_true hk
    injection h with h;subst h;subst hk
    exact⟨#[],.nil,h0 _⟩
   ·obtain⟨vs,h1,h2,h3⟩:=R.loadCells (P:=P) h hl
    exact⟨vs.toArray,h1,h3⟩
  ·simp at h
 case slZ b o e x l hl=>
  simp only[cond_eq_ite] at h
  split at h
  ·rename_i hk0
   have hk0:k≤0:=Nat.le_of_ble_eq_true hk0
   split at h
   ·injection h with h;subst h
    have:k=0:=by omega
    subst this
    exact⟨#[],.nil,h0 _⟩
   ·rename_i hk
    exact absurd (by rw[Nat.beq_eq];omega) hk
  ·simp at h
theorem aCl(need:Nat):∀ (r c:Nat),c≤2*need+1000→Builtin.growBy need r c≤2*need+1000
 | 0,c,h=>h
 | r+1,c,h=>by
   unfold Builtin.growBy
   split
   ·exact h
   ·exact aCl need r _ (by omega)
theorem pX(need c:Nat)(h:c<need):Builtin.nextslicecap need c≤3*need+4096:=by
 unfold Builtin.nextslicecap
 split
 ·omega
 ·split
  ·omega
  ·have:=aCl need 4 c (by omega)
   omega
def oQ(T:bQ)(t:TypeId):Option Bool:=
 match T.ty.get t with
 | none=>none
 | some ti=>match ti.k with
   | .int _=>some true
   | _=>some false
theorem aDx{T:bQ}(ok:T.Ok){t:TypeId}{b:Bool}(h:oQ T t=some b)(w:World):∃ d,(underlying t).run T.P w= .ok d w∧(d matches .int _)=b:=by
 unfold oQ at h
 split at h
 ·simp at h
 ·rename_i ti ht
  obtain⟨d,hd,hr,hk⟩:=fF ok ht (w:=w)
  refine⟨d,hr,?_⟩
  split at h <;> injection h with h <;> subst h
  ·rename_i k hti
   rw[hti] at hk
   cases d <;> first|exact hk.elim|rfl
  ·rename_i hti
   cases d <;> try rfl
   exfalso
   rename_i k
   generalize hkk:ti.k=kk at hk
   cases kk <;> first|exact hk|exact hti _ hkk
def sL(need bytes:Nat):Bool:=cond (Nat.ble ((3*need+4096)*bytes) 281474976710656) (Nat.ble need 1152921504606846976) false
def aKa:AV→Bool
 | .sl _ o _ _ _=>Nat.beq o 0
 | _=>false
def iX(size bytes n len b:Nat)(ex:Option Nat)(s:AV)(new:List AV)(M:aC):Option (AV×aC):=
 cond (sL (len+n) bytes)
  (match evFirst size len s M with
  | none=>none
  | some old=>
    cond (Nat.beq old.length (len*size))
     (match ex with
     | none=>some (.sl M.next 0 (len+n) (len+n) (some size),M.new (.cells (old++new) true))
     | some se=>
       match M.get b with
       | some (.cells _ true)=>
         cond (Nat.beq se size) (cond (aKa s) (cond (aC2 new) (some (.sl M.next 0 (len+n) (len+n) (some size),(M.kill b).new (.cells (old++new) true))) none) none) none
       | _=>none) none) none
def aR(T:bQ)(t1 t2:TypeId)(s x:AV)(M:aC):Option (AV×aC):=
 match T.ty.get t1,oQ T t2 with
 | some ti,some false=>
   match ti.k with
   | .sli e=>
     match T.ty.get e with
     | none=>none
     | some te=>
       match evLen x with
       | none=>none
       | some n=>
         match evFirst te.size n x M with
         | none=>none
         | some new=>
           cond (Nat.beq new.length (n*te.size))
            (match s with
            | .val (.slice none len cap)=>
              cond (Nat.ble (len+n) cap) (some (.val (.slice none (len+n) cap),M)) (iX te.size te.bytes n len 0 none s new M)
            | .sl b o len cap ex=>
              cond (Nat.ble (len+n) cap)
               (cond (Nat.beq n 0) (some (.sl b o len cap ex,M))
                ((M.storeAt b (o+len*te.size) new).map fun M'=>(.sl b o (len+n) cap ex,M')))
               (iX te.size te.bytes n len b ex s new M)
            | _=>none) none
   | _=>none
 | some ti,some true=>
   match ti.k with
   | .sli e=>
     match T.ty.get e with
     | none=>none
     | some te=>
       match s,x with
       | .sl _ _ len cap none,.val (.int _ k)=>
         cond (decide (1≤k)) (cond (decide (k≤1000000)) (cond (Nat.ble (len+k.toNat) cap) none (cond (Nat.beq te.size 0) none
          (iX te.size te.bytes k.toNat len 0 none s (repA k.toNat (ofVs te.zero)) M))) none) none
       | _,_=>none
   | _=>none
 | _,_=>none
theorem kT(z:Array Value)(n:Nat):(Builtin.zeroCells z n).toList=repA n z.toList:=by
 unfold Builtin.zeroCells
 exact lL z z.size n rfl
theorem yG{T:bQ}(ok:T.Ok){e:TypeId}{te:TI}(hte:T.ty.get e=some te){ι:bS}{M:aC}{w:World}(R:fZ ι M w){sv:Value}{len n:Nat}
 {A:Sem (Array Value)} {old new:Array Value} {oldA newA:List AV} (ho:VRs ι oldA old.toList) (hn:VRs ι newA new.toList)
 (hold:(Builtin.firstCells te.size len sv).run T.P { w with drawn:=w.drawn+1 }= .ok old { w with drawn:=w.drawn+1 })
 (hnew:A.run T.P { w with drawn:=w.drawn+1 }= .ok new { w with drawn:=w.drawn+1 })
 (hol:oldA.length+newA.length=(len+n)*te.size) {sCap:Nat}:
 ∃ ι' w' v,(do
   let newCap ← choose (.appendCap (len+n) sCap e)
   askRoom (newCap*(← typeInfo e).bytes)
   let old ← Builtin.firstCells te.size len sv
   let new ← A
   let rest:=Builtin.zeroCells (← zeroValue e).cells (newCap-(len+n))
   pure (.slice (some (← newRow e (old++new++rest))) (len+n) newCap):Sem Value).run T.P w= .ok v w'∧
   VR ι' (.sl M.next 0 (len+n) (len+n) (some te.size)) v∧bR ι M w ι' (M.new (.cells (oldA++newA) true)) w':=by
 generalize hcap:(Question.appendCap (len+n) sCap e).cut (w.tape w.drawn (.appendCap (len+n) sCap e))=newCap
 have hge:len+n≤newCap:=by
  rw[← hcap]
  simp only[Question.cut]
  omega
 have R1:fZ ι M { w with drawn:=w.drawn+1 }:=R.of_heap rfl
 obtain⟨i,hi,hsz,hby,_⟩:=gY ok hte (w:={ w with drawn:=w.drawn+1 })
 obtain⟨zv,hzr,hzv⟩:=kZ ok hte (w:={ w with drawn:=w.drawn+1 })
 have hlen:=wE ok hte
 have hzs:zv.cells.size=te.size:=by rw[lK hzv,hlen]
 have hvs:VRs ι ((oldA++newA)++repA (newCap-(len+n)) (ofVs te.zero)) (old++new++Builtin.zeroCells zv.cells (newCap-(len+n))).toList:=by
  rw[Array.toList_append,Array.toList_append,kT,hzv]
  exact (ho.append hn).append ((VRs.ofVs ι te.zero).repA _)
 obtain⟨ι',w',hr,hl,hs⟩:=VS.newRow (P:=T.P) R1 (e:=e) hvs
 have hsize:(old++new++Builtin.zeroCells zv.cells (newCap-(len+n))).size=newCap*te.size:=by
  have h1:=hvs.length
  simp only[List.length_append,jB,lO,Array.length_toList] at h1
  rw[← h1,hol,hlen,← Nat.add_mul]
  congr 1
  omega
 refine⟨ι',w',.slice (some ⟨w.heap.size,0,none⟩) (len+n) newCap,?_,?_,?_⟩
 ·have hf:(Question.appendCap (len+n) sCap e).forced=false:=rfl
  simp only[Sem.run_bind,run_choose,hf,Bool.false_eq_true,if_false,Result.andThen_ok,hcap,hi,run_askRoom]
  rw[hold]
  simp only[Result.andThen_ok]
  rw[hnew]
  simp only[Result.andThen_ok,hzr,hr,Sem.run_pure]
 ·refine VR.slI M.next 0 (len+n) (len+n) te.size newCap _ hl hge ?_
  simp only[hsize]
  omega
 ·have hs0:bR ι M w ι M { w with drawn:=w.drawn+1 }:=bR.of_heap R rfl rfl rfl rfl
  have hs1:=hs0.trans hs
  refine⟨⟨?_,?_,?_,hs1.rel.bas⟩,hs1.ext,hs1.nxt,hs1.new,hs1.size,hs1.frame,?_,?_,hs1.os,hs1.tape,hs1.output⟩
  ·exact hs1.rel.dom
  ·intro b r h
   rw[aC.get_new] at h
   by_cases hb':b=M.next
   ·simp only[hb',if_true,Option.some.injEq] at h
    subst h
    obtain⟨l,h1,h2⟩:=hs1.rel.live M.next (.cells ((oldA++newA)++repA (newCap-(len+n)) (ofVs te.zero)) true) (by rw[aC.get_new,if_pos rfl])
    refine⟨l,by rw[hb'];exact h1,?_⟩
    revert h2
    generalize w'.heap[l.blk]? =o
    intro h2
    cases o with
    | none=>exact h2.elim
    | some o=>
      cases o <;> first|exact h2.elim|skip
      obtain⟨g1,g2,g3,g4⟩:=h2
      refine⟨g1,?_,?_,g4⟩
      ·simp only[List.length_append] at g2 ⊢;omega
      ·have:=g3.take (oldA++newA).length
       rw[List.take_left',List.take_take,Nat.min_eq_left (by simp)] at this
       ·exact this
       ·rfl
   ·simp only[hb',if_false] at h
    exact hs1.rel.live b r (by rw[aC.get_new,if_neg hb'];exact h)
  ·intro b b' r r' l l' h1 h2
   rw[aC.get_new] at h1 h2
   have k:∀ b r,(if b=M.next then some (hY.cells (oldA++newA) true) else M.get b)=some r→
    ∃ r',(M.new (.cells ((oldA++newA)++repA (newCap-(len+n)) (ofVs te.zero)) true)).get b=some r':=fun b r h=>by
    rw[aC.get_new]
    by_cases hb':b=M.next
    ·exact⟨_,by rw[if_pos hb']⟩
    ·rw[if_neg hb'] at h;exact⟨r,by rw[if_neg hb'];exact h⟩
   obtain⟨r1,k1⟩:=k b r h1
   obtain⟨r2,k2⟩:=k b' r' h2
   exact hs1.rel.inj b b' r1 r2 l l' k1 k2
  ·rintro k ⟨b,r,l,h1,h2,h3,h4⟩
   rw[aC.get_new] at h1
   by_cases hb':b=M.next
   ·exact hs1.evo k ⟨b,_,l,by rw[aC.get_new,if_pos hb'],rfl,h3,h4⟩
   ·rw[if_neg hb'] at h1
    exact hs1.evo k ⟨b,r,l,by rw[aC.get_new,if_neg hb'];exact h1,h2,h3,h4⟩
  ·rintro k ⟨b,r,l,h1,h3,h4⟩
   rw[aC.get_new] at h1
   by_cases hb':b=M.next
   ·exact hs1.evl k ⟨b,_,l,by rw[aC.get_new,if_pos hb'],h3,h4⟩
   ·rw[if_neg hb'] at h1
    exact hs1.evl k ⟨b,r,l,by rw[aC.get_new,if_neg hb'];exact h1,h3,h4⟩
theorem aAV{need bytes:Nat}(h:sL need bytes=true):(3*need+4096)*bytes≤281474976710656∧need≤1152921504606846976:=by
 unfold sL at h
 rw[cond_eq_ite] at h
 split at h
 ·rename_i h1
  exact⟨Nat.le_of_ble_eq_true h1,Nat.le_of_ble_eq_true h⟩
 ·simp at h
theorem sT{T:bQ}(ok:T.Ok){t1 t2 e:TypeId}{ti te:TI}(ht:T.ty.get t1=some ti)(hk:ti.k= .sli e)(hte:T.ty.get e=some te)(hI:oQ T t2=some false)
 {ts:Array TypeId} {args:Array Value} {ty:TypeId} (h0:ts[0]? =some t1) (h1:ts[1]? =some t2) {base:Option Addr} {len cap:Nat} {xv:Value}
 (ha0:args[0]? =some (.slice base len cap)) (ha1:args[1]? =some xv) {n:Nat} {w:World} (hn:(Builtin.lenOf xv).run T.P w= .ok n w) (hroom:sL (len+n) te.bytes=true∨len+n≤cap):
 (Builtin.append_ ts ty args).run T.P w=
  if len+n≤cap then
   (do let new ← Builtin.firstCells te.size n xv
       if let some a:=base then storeCells (a.add (len*te.size)) new.toList
       pure (.slice base (len+n) cap):Sem Value).run T.P w
  else
   (do
    let newCap ← choose (.appendCap (len+n) cap e)
    askRoom (newCap*(← typeInfo e).bytes)
    let old ← Builtin.firstCells te.size len (.slice base len cap)
    let new ← Builtin.firstCells te.size n xv
    let rest:=Builtin.zeroCells (← zeroValue e).cells (newCap-(len+n))
    pure (.slice (some (← newRow e (old++new++rest))) (len+n) newCap):Sem Value).run T.P w:=by
 obtain⟨d,hd,hmat⟩:=aDx ok hI w
 have key:∀ (hc:¬ len+n≤cap),(∃ i,(typeInfo e).run T.P w= .ok i w∧i.bytes=te.bytes)∧¬ (Builtin.nextslicecap (len+n) cap*te.bytes>2^48)∧¬ (((len+n:Nat):Int)>IntKind.i64.max):=by
  intro hc
  obtain⟨r1,r2⟩:=aAV (hroom.resolve_right hc)
  obtain⟨i,hi,hsz,hby,_⟩:=gY ok hte (w:=w)
  have hle:=pX (len+n) cap (by omega)
  refine⟨⟨i,hi,hby⟩,?_,?_⟩
  ·have:Builtin.nextslicecap (len+n) cap*te.bytes≤(3*(len+n)+4096)*te.bytes:=Nat.mul_le_mul_right _ hle
   have h48:2^48=281474976710656:=by decide
   omega
  ·have:IntKind.i64.max=9223372036854775807:=by decide
   omega
 unfold Builtin.append_
 simp only[h0,h1,ha0,ha1,Sem.run_bind,cR ok ht hk,Result.andThen_ok,bY ok hte,hd,Sem.run_pure]
 cases d <;> try (simp at hmat;done)
 all_goals
  simp only[Bool.false_eq_true,if_false,Sem.run_bind,hn,Result.andThen_ok,Bool.not_false,if_true]
  by_cases hc:len+n≤cap
  ·simp only[hc,if_true]
   cases base <;> simp only[Sem.run_bind]
  ·obtain⟨⟨i,hi,hby⟩,hb,hm⟩:=key hc
   simp only[hc,if_false,Sem.run_bind,hi,Result.andThen_ok,hm,false_and,hby,hb]
   rfl
theorem aBZ{α:Type}:∀ (vs X:List α) (m:Nat),X.length=m+vs.length→setAt X m vs=X.take m++vs
 | [],X,m,h=>by simp[fA,List.take_of_length_le (show X.length≤m by simpa using Nat.le_of_eq h)]
 | v::vs,X,m,h=>by
   simp only[List.length_cons] at h
   rw[eU,aBZ vs (X.set m v) (m+1) (by simp;omega)]
   rw[List.take_succ_eq_append_getElem (by simp;omega)]
   simp[List.take_set_of_le]
theorem aDs{P:Program}{ι:bS}{M:aC}{w:World}(R:fZ ι M w){b o len n size c':Nat}{row:List AV}{lc:wB}(hg:M.get b=some (.cells row true))(hl:ι b=some lc)
 {oldA newA:List AV} {new:Array Value} (hold:oldA.length=len*size∧oldA=(row.drop o).take (len*size)) (hn:VRs ι newA new.toList) (h1:aC2 newA=true)
 (hnl:newA.length=n*size) (hle:len+n≤c') (hs:lc.base+o+c'*size≤lc.size) (ho:o=0):
 ∃ ι' w',(storeCells ⟨lc.blk,lc.base+o+len*size,none⟩ new.toList).run P w= .ok () w'∧VR ι' (.sl M.next 0 (len+n) (len+n) (some size)) (.slice (some ⟨lc.blk,lc.base+o,none⟩) (len+n) c')∧
   bR ι M w ι' ((M.kill b).new (.cells (oldA++newA) true)) w':=by
 obtain⟨c,e,fr,hk,hsz,hb,hv,hfr⟩:=R.row hg hl
 have hlen:=hn.length
 simp only[Array.length_toList] at hlen
 have hmul:(len+n)*size≤c'*size:=Nat.mul_le_mul_right _ hle
 rw[Nat.add_mul] at hmul
 obtain⟨w',d,hrun,hsw,hoth,hk',hl',hcs,r1,r2,r3⟩:=mQ (P:=P) (lc.base+o+len*size) new.toList 0 w c hk
  (by simp only[Array.length_toList];omega) (fun j _ hj=>hfr rfl j (by simp only[Array.length_toList] at hj;omega)) (hn.uno h1)
 refine⟨_,w',hrun,?_,bR.reuse R (l':=⟨lc.blk,lc.base+o,lc.size⟩) hg rfl hl rfl hsw hoth ?_ r1 r2 r3 (by show lc.base+o=0;rw[R.bas b lc hl,ho])⟩
 ·exact VR.slI M.next 0 (len+n) (len+n) size c' ⟨lc.blk,lc.base+o,lc.size⟩ (by simp) hle (by simp only;omega)
 ·rw[hk']
  have hext:Ext ι (fun c=>if c=M.next then some ⟨lc.blk,lc.base+o,lc.size⟩ else ι c):=fun b l' h=>by
   have:=R.dom b l' h
   have hne:¬ (b=M.next):=by omega
   simp[hne,h]
  have holdl:oldA.length=len*size:=hold.1
  refine⟨by simp only;omega,by simp only[List.length_append];omega,?_,fun _ k hk2=>hfr rfl k (by omega)⟩
  refine VRs.mono hext ?_
  have hw:((d.toList.drop (lc.base+o)).take (oldA++newA).length)=((c.toList.drop (lc.base+o)).take (len*size))++new.toList:=by
   have hol:(oldA++newA).length=len*size+new.toList.length:=by simp only[List.length_append,Array.length_toList];omega
   have hcl:c.toList.length=c.size:=by simp
   rw[hl',Nat.add_zero,hol,pF new.toList c.toList (lc.base+o) (len*size+new.toList.length) (len*size) (by omega)]
   rw[aBZ _ _ _ (by simp only[List.length_take,List.length_drop];simp only[Array.length_toList];omega)]
   rw[List.take_take,Nat.min_eq_left (by omega)]
  rw[hw]
  refine VRs.append ?_ hn
  have:=(hv.drop o).take (len*size)
  have hmin:len*size≤row.length-o:=by
   have h1:=hold.1
   rw[hold.2,List.length_take,List.length_drop] at h1
   omega
  rw[hold.2]
  rw[List.drop_take,List.drop_drop,List.take_take,Nat.min_eq_left (by omega)] at this
  exact this
theorem aBS{T:bQ}(ok:T.Ok){t1 t2 e:TypeId}{ti te:TI}(ht:T.ty.get t1=some ti)(hk:ti.k= .sli e)(hte:T.ty.get e=some te)(hI:oQ T t2=some false)
 {ts:Array TypeId} {args:Array Value} {ty:TypeId} (h0:ts[0]? =some t1) (h1:ts[1]? =some t2) {base:Option Addr} {len cap':Nat} {xv:Value}
 (ha0:args[0]? =some (.slice base len cap')) (ha1:args[1]? =some xv) {n:Nat} {ι:bS} {M M':aC} {w:World} (R:fZ ι M w) {s x z:AV} (hs:VR ι s (.slice base len cap')) (hx:VR ι x xv)
 (hn:evLen x=some n) {new:List AV} (hnew:evFirst te.size n x M=some new) (hnl:new.length=n*te.size) {b:Nat} {ex:Option Nat}
 (hex:ex=none→¬ len+n≤cap') (hsx:∀ se,ex=some se→∃ o cap,s= .sl b o len cap (some se)∧¬ len+n≤cap)
 (h:iX te.size te.bytes n len b ex s new M=some (z,M')):VS T.P ι M w (Builtin.append_ ts ty args) z M':=by
 unfold iX at h
 rw[cond_eq_ite] at h
 split at h
 ·rename_i hroom
  split at h
  ·simp at h
  ·rename_i old hold
   rw[cond_eq_ite] at h
   split at h
   ·rename_i hol
    have hol:old.length=len*te.size:=Nat.eq_of_beq_eq_true hol
    have hrun:=sT ok ht hk hte hI (ty:=ty) h0 h1 ha0 ha1 (w:=w) (uR hx hn) (.inl hroom)
    obtain⟨newV,hv1,hv2⟩:=kU (P:=T.P) R hx hnew
    obtain⟨newV1,hv11,hv21⟩:=kU (P:=T.P) (w:={ w with drawn:=w.drawn+1 }) (R.of_heap rfl) hx hnew
    obtain⟨oldV,hv3,hv4⟩:=kU (P:=T.P) (w:={ w with drawn:=w.drawn+1 }) (R.of_heap rfl) hs hold
    have hsum:old.length+new.length=(len+n)*te.size:=by rw[hol,hnl,Nat.add_mul]
    by_cases hc:len+n≤cap'
    ·cases ex with
     | none=>exact absurd hc (hex rfl)
     | some se=>
       obtain⟨o,cap,rfl,hncap⟩:=hsx se rfl
       simp only at h
       split at h
       ·rename_i row hg
        simp only[cond_eq_ite] at h
        split at h
        ·rename_i hse
         have hse:se=te.size:=Nat.eq_of_beq_eq_true hse
         split at h
         rotate_left
         ·simp at h
         rename_i hoz0
         have hoz:o=0:=Nat.eq_of_beq_eq_true hoz0
         clear hoz0
         split at h
         ·rename_i hones
          injection h with h;injection h with h2 h3;subst h2;subst h3
          rw[if_pos hc] at hrun
          cases hs with
          | slI _ _ _ _ _ _ lc hl hcc hsz=>
            have hlen0:len≤cap':=by omega
            have holdrow:old.length=len*te.size∧old=(row.drop o).take (len*te.size):=by
             refine⟨hol,?_⟩
             simp only[evFirst] at hold
             rw[show (len.ble len)=true from by rw[Nat.ble_eq];exact Nat.le_refl _] at hold
             simp only[cond_eq_ite,if_true] at hold
             split at hold
             ·rename_i hl0
              have hl0:len=0:=Nat.eq_of_beq_eq_true hl0
              injection hold with hold
              subst hl0;subst hold
              simp
             ·unfold aC.cellsAt at hold
              rw[hg] at hold
              simp only[cond_eq_ite] at hold
              split at hold
              ·rename_i hle
               have hle:=Nat.le_of_ble_eq_true hle
               injection hold with hold
               exact hold.symm
              ·simp at hold
            subst hse
            obtain⟨ι',w',hr1,hr2,hr3⟩:=aDs (P:=T.P) R hg hl holdrow hv1 hones hnl hc hsz hoz
            refine⟨ι',w',_,?_,hr2,hr3⟩
            rw[hrun]
            simp only[Sem.run_bind,hv2,Result.andThen_ok,eX,hr1,Sem.run_pure]
          | slZ _ _ _ _ lc hl=>
            omega
         ·simp at h
        ·simp at h
       ·simp at h
    ·rw[if_neg hc] at hrun
     obtain⟨ι',w',v,hr1,hr2,hr3⟩:=yG ok hte R (sCap:=cap') hv3 hv11 hv4 hv21 hsum
     cases ex with
     | none=>
       injection h with h;injection h with h2 h3;subst h2;subst h3
       exact⟨ι',w',v,by rw[hrun];exact hr1,hr2,hr3⟩
     | some se=>
       simp only at h
       split at h
       ·simp only[cond_eq_ite] at h
        split at h
        ·split at h
         rotate_left
         ·simp at h
         split at h
         ·injection h with h;injection h with h2 h3;subst h2;subst h3
          refine⟨ι',w',v,by rw[hrun];exact hr1,hr2,hr3.forget (by simp) ?_⟩
          intro c r hcr
          rw[aC.get_new,aC.next_kill,aC.get_kill] at hcr
          rw[aC.get_new]
          by_cases h1:c=M.next
          ·rw[if_pos h1] at hcr ⊢;exact hcr
          ·rw[if_neg h1] at hcr ⊢
           by_cases h2:c=b
           ·simp[h2] at hcr
           ·rw[if_neg h2] at hcr;exact hcr
         ·simp at h
        ·simp at h
       ·simp at h
   ·simp at h
 ·simp at h
theorem aIq{T:bQ}(ok:T.Ok){t1 t2 e:TypeId}{ti te:TI}(ht:T.ty.get t1=some ti)(hk:ti.k= .sli e)(hte:T.ty.get e=some te)(hI:oQ T t2=some true)
 {ts:Array TypeId} {args:Array Value} {ty:TypeId} (h0:ts[0]? =some t1) (h1:ts[1]? =some t2) {base:Option Addr} {len cap:Nat} {kk:IntKind} {k:Int}
 (ha0:args[0]? =some (.slice base len cap)) (ha1:args[1]? =some (.int kk k)) (hk1:1≤k) (hk2:k≤1000000) {w:World} (hroom:sL (len+k.toNat) te.bytes=true) (hc:¬ len+k.toNat≤cap) (hz:te.size≠0):
 (Builtin.append_ ts ty args).run T.P w=
  (do
   let newCap ← choose (.appendCap (len+k.toNat) cap e)
   askRoom (newCap*(← typeInfo e).bytes)
   let old ← Builtin.firstCells te.size len (.slice base len cap)
   let new ← (do pure (Builtin.zeroCells (← zeroValue e).cells k.toNat):Sem (Array Value))
   let rest:=Builtin.zeroCells (← zeroValue e).cells (newCap-(len+k.toNat))
   pure (.slice (some (← newRow e (old++new++rest))) (len+k.toNat) newCap):Sem Value).run T.P w:=by
 obtain⟨d,hd,hmat⟩:=aDx ok hI w
 obtain⟨r1,r2⟩:=aAV hroom
 obtain⟨i,hi,hsz,hby,_⟩:=gY ok hte (w:=w)
 have hle:=pX (len+k.toNat) cap (by omega)
 have h48:2^48=281474976710656:=by decide
 have hb:¬ (Builtin.nextslicecap (len+k.toNat) cap*te.bytes>2^48):=by
  have:Builtin.nextslicecap (len+k.toNat) cap*te.bytes≤(3*(len+k.toNat)+4096)*te.bytes:=Nat.mul_le_mul_right _ hle
  omega
 have hm:¬ (((len+k.toNat:Nat):Int)>IntKind.i64.max):=by
  have:IntKind.i64.max=9223372036854775807:=by decide
  omega
 have hwr:IntKind.i64.wrap k=k:=qN (by omega) (by omega)
 have hneg:¬ k<0:=by omega
 have hmul:¬ (k*(te.bytes:Int)>2^48):=by
  have h5:k.toNat*te.bytes≤(3*(len+k.toNat)+4096)*te.bytes:=Nat.mul_le_mul_right _ (by omega)
  have h6:k*(te.bytes:Int)=((k.toNat*te.bytes:Nat):Int):=by rw[Int.natCast_mul,Int.toNat_of_nonneg (by omega)]
  have h48':(2:Int)^48=281474976710656:=by decide
  rw[h6,h48']
  omega
 have hnz:¬ (k.toNat*te.size=0):=by
  have:0<k.toNat*te.size:=Nat.mul_pos (by omega) (by omega)
  omega
 unfold Builtin.append_
 simp only[h0,h1,ha0,ha1,Sem.run_bind,cR ok ht hk,Result.andThen_ok,bY ok hte,hd,Sem.run_pure]
 cases d <;> try (simp at hmat;done)
 all_goals
  simp only[if_true,Sem.run_bind,asInt,asIntOf,Sem.run_pure,Result.andThen_ok,hwr,hneg,if_false,hi,hby,hmul,hc,hm,false_and,hb,Bool.not_true,Bool.false_eq_true,hnz]
  try rfl
theorem aGg{T:bQ}(ok:T.Ok){t1 t2 e:TypeId}{ti te:TI}(ht:T.ty.get t1=some ti)(hk:ti.k= .sli e)(hte:T.ty.get e=some te)(hI:oQ T t2=some true)
 {ts:Array TypeId} {args:Array Value} {ty:TypeId} (h0:ts[0]? =some t1) (h1:ts[1]? =some t2) {sv xv:Value} (ha0:args[0]? =some sv) (ha1:args[1]? =some xv)
 {ι:bS} {M M':aC} {w:World} (R:fZ ι M w) {b o len cap:Nat} {kk:IntKind} {k:Int} {z:AV} (hs:VR ι (.sl b o len cap none) sv) (hx:VR ι (.val (.int kk k)) xv) (hk1:1≤k) (hk2:k≤1000000) (hc:¬ len+k.toNat≤cap) (hz:te.size≠0)
 (h:iX te.size te.bytes k.toNat len 0 none (.sl b o len cap none) (repA k.toNat (ofVs te.zero)) M=some (z,M')):VS T.P ι M w (Builtin.append_ ts ty args) z M':=by
 have hxv:xv= .int kk k:=by cases hx;rfl
 subst hxv
 have hval:∃ base,sv= .slice base len cap:=by
  cases hs with
  | slE=>exact⟨_,rfl⟩
 obtain⟨base,rfl⟩:=hval
 unfold iX at h
 rw[cond_eq_ite] at h
 split at h
 ·rename_i hroom
  split at h
  ·simp at h
  ·rename_i old hold
   rw[cond_eq_ite] at h
   split at h
   ·rename_i hol
    have hol:old.length=len*te.size:=Nat.eq_of_beq_eq_true hol
    have hrun:=aIq ok ht hk hte hI (ty:=ty) h0 h1 ha0 ha1 hk1 hk2 (w:=w) hroom hc hz
    obtain⟨oldV,hv3,hv4⟩:=kU (P:=T.P) (w:={ w with drawn:=w.drawn+1 }) (R.of_heap rfl) hs hold
    obtain⟨zv,hzr,hzv⟩:=kZ ok hte (w:={ w with drawn:=w.drawn+1 })
    have hlen:=wE ok hte
    have hnl:(repA k.toNat (ofVs te.zero)).length=k.toNat*te.size:=by rw[jB,lO,hlen]
    have hsum:old.length+(repA k.toNat (ofVs te.zero)).length=(len+k.toNat)*te.size:=by rw[hol,hnl,Nat.add_mul]
    have hv1:VRs ι (repA k.toNat (ofVs te.zero)) (Builtin.zeroCells zv.cells k.toNat).toList:=by
     rw[kT,hzv]
     exact (VRs.ofVs ι te.zero).repA _
    obtain⟨ι',w',v,hr1,hr2,hr3⟩:=yG ok hte R (sCap:=cap) (A:=(do pure (Builtin.zeroCells (← zeroValue e).cells k.toNat):Sem (Array Value))) hv3 hv1 hv4 (by simp only[Sem.run_bind,hzr,Result.andThen_ok,Sem.run_pure]) hsum
    injection h with h;injection h with h2 h3;subst h2;subst h3
    exact⟨ι',w',v,by rw[hrun];exact hr1,hr2,hr3⟩
   ·simp at h
 ·simp at h
theorem aEz{T:bQ}(ok:T.Ok){t1 t2:TypeId}{ts:Array TypeId}{args:Array Value}{ty:TypeId}(h0:ts[0]? =some t1)(h1:ts[1]? =some t2)
 {sv xv:Value} (ha0:args[0]? =some sv) (ha1:args[1]? =some xv) {ι:bS} {M M':aC} {w:World} (R:fZ ι M w) {s x z:AV} (hs:VR ι s sv) (hx:VR ι x xv)
 (h:aR T t1 t2 s x M=some (z,M')):VS T.P ι M w (Builtin.append_ ts ty args) z M':=by
 unfold aR at h
 split at h
 ·rename_i ti ht hI
  split at h
  ·rename_i e hk
   split at h
   ·simp at h
   ·rename_i te hte
    split at h
    ·simp at h
    ·rename_i n hn
     split at h
     ·simp at h
     ·rename_i new hnew
      rw[cond_eq_ite] at h
      split at h
      ·rename_i hnl
       have hnl:new.length=n*te.size:=Nat.eq_of_beq_eq_true hnl
       obtain⟨newV,hv1,hv2⟩:=kU (P:=T.P) R hx hnew
       split at h
       ·rename_i len cap
        have hs':=hs
        cases hs
        rw[cond_eq_ite] at h
        split at h
        ·rename_i hle
         have hle:len+n≤cap:=Nat.le_of_ble_eq_true hle
         injection h with h;injection h with h2 h3;subst h2;subst h3
         have hrun:=sT ok ht hk hte hI (ty:=ty) h0 h1 ha0 ha1 (w:=w) (uR hx hn) (.inr hle)
         rw[if_pos hle] at hrun
         exact⟨ι,w,.slice none (len+n) cap,by rw[hrun];simp[hv2],.val _ rfl,bR.refl R⟩
        ·rename_i hle
         have hle:¬ len+n≤cap:=fun h=>hle (by rw[Nat.ble_eq];exact h)
         exact aBS ok ht hk hte hI h0 h1 ha0 ha1 R hs' hx hn hnew hnl (fun _=>hle) (fun se h=>by simp at h) h
       ·rename_i b o len cap ex
        rw[cond_eq_ite] at h
        split at h
        ·rename_i hle
         have hle:len+n≤cap:=Nat.le_of_ble_eq_true hle
         have hval:∃ a c',sv= .slice (some a) len c'∧cap≤c':=by
          cases hs with
          | slE=>exact⟨_,_,rfl,Nat.le_refl _⟩
          | slI _ _ _ _ _ _ _ _ hc _=>exact⟨_,_,rfl,hc⟩
          | slZ=>exact⟨_,_,rfl,Nat.le_refl _⟩
         obtain⟨a,c',hsv,hcc⟩:=hval
         have hrun:=sT ok ht hk hte hI (ty:=ty) h0 h1 (hsv▸ha0) ha1 (w:=w) (uR hx hn) (.inr (by omega))
         rw[if_pos (by omega)] at hrun
         rw[cond_eq_ite] at h
         split at h
         ·rename_i hn0
          have hn0:n=0:=Nat.eq_of_beq_eq_true hn0
          injection h with h;injection h with h2 h3;subst h2;subst h3
          subst hn0
          have hemp:newV.toList=[]:=by
           have:=hv1.length
           rw[hnl,Nat.zero_mul] at this
           exact List.eq_nil_of_length_eq_zero this.symm
          refine⟨ι,w,sv,?_,hs,bR.refl R⟩
          rw[hrun,hsv]
          simp[hv2,hemp,storeCells]
         ·rename_i hn0
          have hn0:¬ n=0:=fun he=>hn0 (by rw[Nat.beq_eq];exact he)
          obtain⟨M1,hM1,he⟩:=Option.map_eq_some_iff.1 h
          injection he with h2 h3;subst h2;subst h3
          cases hs with
          | slE _ _ _ _ lc hl=>
            injection hsv with hsv1 hsv2 hsv3
            injection hsv1 with hsv1;subst hsv1;subst hsv3
            obtain⟨w',hr1,hr2⟩:=R.store (P:=T.P) hM1 hl hv1
            refine⟨ι,w',_,?_,.slE b o (len+n) cap lc hl,hr2⟩
            rw[hrun]
            simp only[Sem.run_bind,hv2,Result.andThen_ok,eX,Nat.add_assoc,hr1,Sem.run_pure]
          | slI _ _ _ _ se _ lc hl hc hsz=>
            injection hsv with hsv1 hsv2 hsv3
            injection hsv1 with hsv1;subst hsv1;subst hsv3
            obtain⟨w',hr1,hr2⟩:=R.store (P:=T.P) hM1 hl hv1
            refine⟨ι,w',_,?_,.slI b o (len+n) cap se _ lc hl hc hsz,hr2⟩
            rw[hrun]
            simp only[Sem.run_bind,hv2,Result.andThen_ok,eX,Nat.add_assoc,hr1,Sem.run_pure]
          | slZ=>omega
        ·rename_i hle
         have hle:¬ len+n≤cap:=fun h=>hle (by rw[Nat.ble_eq];exact h)
         have hval:∃ a c',sv= .slice (some a) len c'∧(ex=none→c'=cap):=by
          cases hs with
          | slE=>exact⟨_,_,rfl,fun _=>rfl⟩
          | slI=>exact⟨_,_,rfl,fun h=>by simp at h⟩
          | slZ=>exact⟨_,_,rfl,fun h=>by simp at h⟩
         obtain⟨a,c',hsv,hcc⟩:=hval
         subst hsv
         exact aBS ok ht hk hte hI h0 h1 ha0 ha1 R hs hx hn hnew hnl (fun he=>by rw[hcc he];exact hle) (fun se he=>⟨o,cap,by rw[he],hle⟩) h
       ·simp at h
      ·simp at h
  ·simp at h
 ·rename_i ti ht hI
  split at h
  ·rename_i e hk
   split at h
   ·simp at h
   ·rename_i te hte
    split at h
    ·rename_i b o len cap kk k
     rw[cond_eq_ite] at h
     split at h
     ·rename_i hk1
      rw[cond_eq_ite] at h
      split at h
      ·rename_i hk2
       rw[cond_eq_ite] at h
       split at h
       ·simp at h
       ·rename_i hle
        rw[cond_eq_ite] at h
        split at h
        ·simp at h
        ·rename_i hz
         exact aGg ok ht hk hte hI h0 h1 ha0 ha1 R hs hx (by simpa using hk1) (by simpa using hk2) (fun h=>hle (by rw[Nat.ble_eq];exact h)) (fun he=>hz (by rw[Nat.beq_eq];exact he)) h
      ·simp at h
     ·simp at h
    ·simp at h
  ·simp at h
 ·simp at h
def hG(T:bQ)(t1:TypeId)(d s:AV)(M:aC):Option (AV×aC):=
 match T.ty.get t1 with
 | none=>none
 | some ti=>
   match ti.k with
   | .sli e=>
     match T.ty.get e with
     | none=>none
     | some te=>
       match evLen d,evLen s with
       | some n,some m=>
         match evFirst te.size (Nat.min m n) s M with
         | none=>none
         | some xs=>
           match d with
           | .sl b o _ _ _=>cond (Nat.beq (Nat.min m n) 0) (some (.val (.int .i64 0),M)) ((M.storeAt b o xs).map fun M'=>(.val (.int .i64 (Nat.min m n)),M'))
           | .val (.slice none _ _)=>some (.val (.int .i64 (Nat.min m n)),M)
           | _=>none
       | _,_=>none
   | _=>none
theorem aCU{size:Nat}{x:AV}{M:aC}{xs:List AV}(h:evFirst size 0 x M=some xs):xs=[]:=by
 unfold evFirst at h
 split at h
 ·simp only[cond_eq_ite] at h
  split at h
  ·simp[Nat.beq] at h;exact h
  ·simp at h
 ·injection h with h;exact h.symm
 ·injection h with h
  subst h
  unfold bytesA
  simp
 ·simp at h
theorem aIf{T:bQ}(ok:T.Ok){t1:TypeId}{ts:Array TypeId}{args:Array Value}{ty:TypeId}(h0:ts[0]? =some t1)
 {dv xv:Value} (ha0:args[0]? =some dv) (ha1:args[1]? =some xv) {ι:bS} {M M':aC} {w:World} (R:fZ ι M w) {d x z:AV} (hd:VR ι d dv) (hx:VR ι x xv)
 (h:hG T t1 d x M=some (z,M')):VS T.P ι M w (Builtin.copy_ ts ty args) z M':=by
 unfold hG at h
 split at h
 ·simp at h
 ·rename_i ti ht
  split at h
  ·rename_i e hk
   split at h
   ·simp at h
   ·rename_i te hte
    split at h
    ·rename_i n m hn hm
     split at h
     ·simp at h
     ·rename_i xs hxs
      obtain⟨xv',hv1,hv2⟩:=kU (P:=T.P) R hx hxs
      have hlen:=uR (P:=T.P) (w:=w) hx hm
      split at h
      ·rename_i b o dn dc dex
       have hval:∃ a c',dv= .slice (some a) dn c':=by
        cases hd <;> exact⟨_,_,rfl⟩
       simp only[evLen,Option.some.injEq] at hn
       subst hn
       rw[cond_eq_ite] at h
       split at h
       ·rename_i hz
        have hz:Nat.min m dn=0:=Nat.eq_of_beq_eq_true hz
        injection h with h;injection h with h2 h3;subst h2;subst h3
        obtain⟨a,c',rfl⟩:=hval
        rw[hz] at hxs hv2
        have hnil:=aCU hxs
        subst hnil
        have hemp:xv'.toList=[]:=by
         have:=hv1.length
         exact List.eq_nil_of_length_eq_zero this.symm
        refine⟨ι,w,.int .i64 0,?_,.val _ rfl,bR.refl R⟩
        simp only[Builtin.copy_,h0,ha0,ha1,Sem.run_bind,cR ok ht hk,Result.andThen_ok,hlen,bY ok hte,hz,hv2,hemp,storeCells,Sem.run_pure,goInt]
        rfl
       ·rename_i hz
        have hz:¬ Nat.min m dn=0:=fun he=>hz (by rw[Nat.beq_eq];exact he)
        obtain⟨M1,hM1,he⟩:=Option.map_eq_some_iff.1 h
        injection he with h2 h3;subst h2;subst h3
        have hl:∃ lc,ι b=some lc∧∃ c',dv= .slice (some ⟨lc.blk,lc.base+o,none⟩) dn c':=by
         cases hd with
         | slE _ _ _ _ lc hl=>exact⟨lc,hl,_,rfl⟩
         | slI _ _ _ _ _ _ lc hl _ _=>exact⟨lc,hl,_,rfl⟩
         | slZ=>exact absurd (Nat.min_zero _) hz
        obtain⟨lc,hl,c',rfl⟩:=hl
        obtain⟨w',hr1,hr2⟩:=R.store (P:=T.P) hM1 hl hv1
        refine⟨ι,w',.int .i64 (Nat.min m dn),?_,.val _ rfl,hr2⟩
        simp only[Builtin.copy_,h0,ha0,ha1,Sem.run_bind,cR ok ht hk,Result.andThen_ok,hlen,bY ok hte,hv2,hr1,Sem.run_pure,goInt]
      ·rename_i dn dc
       injection h with h;injection h with h2 h3;subst h2;subst h3
       cases hd
       simp only[evLen,Option.some.injEq] at hn
       subst hn
       refine⟨ι,w,.int .i64 (Nat.min m dn),?_,.val _ rfl,bR.refl R⟩
       simp only[Builtin.copy_,h0,ha0,ha1,Sem.run_bind,cR ok ht hk,Result.andThen_ok,hlen,bY ok hte,hv2,Sem.run_pure,goInt]
      ·simp at h
    ·simp at h
  ·simp at h
def uF(T:bQ)(t:TypeId)(x:AV)(M:aC):Option aC:=
 match T.ty.get t with
 | none=>none
 | some ti=>
   match x with
   | .map b=>
     match M.get b with
     | some (.map _)=>some (M.put b (.map []))
     | _=>none
   | .val (.map none)=>some M
   | .val (.slice none _ _)=>some M
   | .sl b o n _ _=>
     match ti.k with
     | .sli e=>
       match T.ty.get e with
       | none=>none
       | some te=>cond (Nat.beq n 0) (some M) (M.storeAt b o (repA n (ofVs te.zero)))
     | _=>none
   | _=>none
theorem fZ.obj{ι:bS}{M:aC}{w:World}(R:fZ ι M w){b:Nat}{es:List (AV×AV)}{l:wB}(h:M.get b=some (.map es))(hl:ι b=some l):
 ∃ ms clock,w.heap[l.blk]? =some (.map ms clock)∧eO ι es ms.toList∧iY ms.toList clock:=by
 obtain⟨l',h1,h2⟩:=R.live b _ h
 rw[hl] at h1;injection h1 with h1;subst h1
 generalize w.heap[l.blk]? =o at h2
 cases o with
 | none=>exact h2.elim
 | some o=>cases o <;> first|exact h2.elim|exact⟨_,_,rfl,h2⟩
theorem eP{P:Program}{w:World}{k:Nat}{ms:Array MapEntry}{c:Nat}(h:w.heap[k]? =some (.map ms c)):(getObj k).run P w= .ok (.map ms c) w:=by
 simp[getObj,Sem.run,h]
theorem fU{P:Program}{w:World}{k:Nat}{ms:Array MapEntry}{c:Nat}(h:w.heap[k]? =some (.map ms c))(o:Obj):
 (setObj k o).run P w= .ok () { w with heap:=w.heap.setIfInBounds k o }:=by
 simp[setObj,Sem.run,h]
theorem bR.setMap{ι:bS}{M:aC}{w:World}(R:fZ ι M w){b:Nat}{es es':List (AV×AV)}{l:wB}(h:M.get b=some (.map es))(hl:ι b=some l)
 {ms ms':Array MapEntry} {c c':Nat} (hk:w.heap[l.blk]? =some (.map ms c)) (he:eO ι es' ms'.toList) (hbo:iY ms'.toList c'):
 bR ι M w ι (M.put b (.map es')) { w with heap:=w.heap.setIfInBounds l.blk (.map ms' c') }:=by
 have hlt:l.blk<w.heap.size:=by
  rcases Nat.lt_or_ge l.blk w.heap.size with h'|h'
  ·exact h'
  ·rw[Array.getElem?_eq_none h'] at hk;simp at hk
 refine bR.write R h rfl hl (by simp) ?_ ?_ rfl rfl rfl
 ·intro k hk'
  simp only
  rw[Array.getElem?_setIfInBounds_ne (fun h=>hk' h.symm)]
 ·simp only[Array.getElem?_setIfInBounds_self_of_lt hlt]
  exact⟨he,hbo⟩
theorem aGd{T:bQ}(ok:T.Ok){t:TypeId}{ts:Array TypeId}{args:Array Value}{ty:TypeId}(h0:ts[0]? =some t)
 {xv:Value} (ha0:args[0]? =some xv) {ι:bS} {M M':aC} {w:World} (R:fZ ι M w) {x:AV} (hx:VR ι x xv)
 (h:uF T t x M=some M'):VS T.P ι M w (Builtin.clear_ ts ty args) (.tup []) M':=by
 unfold uF at h
 split at h
 ·simp at h
 ·rename_i ti ht
  obtain⟨d,hd,hdr,hdk⟩:=fF ok ht (w:=w)
  have hu:VR ι (.tup []) (.tuple #[]):= .tup [] #[] .nil
  split at h
  ·rename_i b
   split at h
   ·rename_i es hg
    injection h with h;subst h
    cases hx with
    | map _ l hl=>
      obtain⟨ms,clock,hk,he,hbo⟩:=R.obj hg hl
      refine⟨ι,_,.tuple #[],?_,hu,bR.setMap R hg hl hk (ms':= #[]) (c':=clock) .nil .nil⟩
      simp only[Builtin.clear_,h0,ha0,Sem.run_bind,hdr,Result.andThen_ok,eP hk,fU hk,Sem.run_pure]
   ·simp at h
  ·injection h with h;subst h
   cases hx
   refine⟨ι,w,.tuple #[],?_,hu,bR.refl R⟩
   simp[Builtin.clear_,h0,ha0,hdr]
  ·injection h with h;subst h
   cases hx
   refine⟨ι,w,.tuple #[],?_,hu,bR.refl R⟩
   simp[Builtin.clear_,h0,ha0,hdr]
  ·rename_i b o n c ex
   split at h
   ·rename_i e hk
    split at h
    ·simp at h
    ·rename_i te hte
     obtain⟨zv,hzr,hzv⟩:=kZ ok hte (w:=w)
     rw[cond_eq_ite] at h
     split at h
     ·rename_i hn
      have hn:n=0:=Nat.eq_of_beq_eq_true hn
      injection h with h;subst h
      refine⟨ι,w,.tuple #[],?_,hu,bR.refl R⟩
      subst hn
      cases hx <;> simp[Builtin.clear_,h0,ha0,hdr]
     ·rename_i hn
      have hn:¬ n=0:=fun he=>hn (by rw[Nat.beq_eq];exact he)
      have hl:∃ lc,ι b=some lc∧∃ c',xv= .slice (some ⟨lc.blk,lc.base+o,none⟩) n c':=by
       cases hx with
       | slE _ _ _ _ lc hl=>exact⟨lc,hl,_,rfl⟩
       | slI _ _ _ _ _ _ lc hl _ _=>exact⟨lc,hl,_,rfl⟩
       | slZ=>exact absurd rfl hn
      obtain⟨lc,hl,c',rfl⟩:=hl
      obtain⟨w',hr1,hr2⟩:=R.store (P:=T.P) (vs:=(Builtin.zeroCells zv.cells n).toList) h hl (by rw[kT,hzv];exact (VRs.ofVs ι te.zero).repA n)
      refine⟨ι,w',.tuple #[],?_,hu,hr2⟩
      cases n with
      | zero=>exact absurd rfl hn
      | succ n=>
        simp only[Builtin.clear_,h0,ha0,Sem.run_bind,cR ok ht hk,Result.andThen_ok,hzr,hr1,Sem.run_pure]
   ·simp at h
  ·simp at h
end Go.AM
