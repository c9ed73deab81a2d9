import Derived.Test.YteaogiidncpofaaGreatA8
import Derived.Laws.Strings
import Derived.Tactics
import Derived.LoopN
import Derived.Scope
set_option linter.unusedSimpArgs false
set_option linter.unusedVariables false
set_option linter.unusedSectionVars false
noncomputable section
namespace Go.AM
def aD8(f:Nat×Nat×Bool)(cs:List AV):Option AV:=cond f.2.2 (some (.agg ((cs.drop f.1).take f.2.1))) cs[f.1]?
def aJp(eq:TypeId→AV→AV→Option Bool):List (Nat×Nat×Bool)→List Nat→List AV→List AV→Option Bool
 | [],[],_,_=>some true
 | f::fs,t::ts,xs,ys=>
   match aD8 f xs,aD8 f ys with
   | some x,some y=>
     match eq t x y with
     | some true=>aJp eq fs ts xs ys
     | some false=>some false
     | none=>none
   | _,_=>none
 | _,_,_,_=>none
def lX:IntKind→IntKind→Bool
 | .i8,.i8| .i16,.i16| .i32,.i32| .i64,.i64| .u8,.u8| .u16,.u16| .u32,.u32| .u64,.u64=>true
 | _,_=>false
theorem tG{a b:IntKind}(h:lX a b=true):a=b:=by cases a <;> cases b <;> first|rfl|(simp[lX] at h)
def eqA(T:bQ):Nat→TypeId→AV→AV→Option Bool
 | 0,_,_,_=>none
 | n+1,t,x,y=>
   match T.ty.get t with
   | none=>none
   | some ti=>
     match ti.k,x,y with
     | .int _,.val (.int a p),.val (.int b q)=>cond (lX a b) (some (p==q)) none
     | .str,.val (.string p),.val (.string q)=>some (p==q)
     | .bool,.val (.bool p),.val (.bool q)=>some (p==q)
     | .st fs,.agg xs,.agg ys=>
       match ti.eqf with
       | some tys=>aJp (eqA T n) fs tys xs ys
       | none=>none
     | _,_,_=>none
theorem aAP{P:Program}{ι:bS}{w:World}{fs:List Field}{l:List (Nat×Nat×Bool)}{f:Field}{e:Nat×Nat×Bool}(h:dU P (f::fs) (e::l)){xs:List AV}{vs:Array Value}
 (hx:VRs ι xs vs.toList) {x:AV} (hp:aD8 e xs=some x):∃ v,(part f.type vs f.offset).run P w= .ok v w∧VR ι x v:=by
 obtain⟨off,s,ag⟩:=e
 obtain⟨f',hf',ho,hsz,hag⟩:=dU.get h 0 off s ag (by simp)
 simp only[List.getElem?_cons_zero,Option.some.injEq] at hf'
 subst hf'
 unfold aD8 at hp
 cases ag with
 | true=>
   simp only[cond_true,Option.some.injEq] at hp
   subst hp
   refine⟨.agg (vs.extract off (off+s)),by simp[part,hag,hsz,ho],.agg _ _ ?_⟩
   rw[oZ,show off+s-off=s by omega]
   exact (hx.drop off).take s
 | false=>
   simp only[cond_false] at hp
   obtain⟨v,hv,hvr⟩:=hx.get off x hp
   have hv':vs[off]? =some v:=by simpa using hv
   exact⟨v,by simp[part,hag,ho,hv'],hvr⟩
theorem aGQ{P:Program}{ι:bS}{w:World}{eq:TypeId→AV→AV→Option Bool}{d:Nat}
 (heq:∀ t x y v u r,eq t x y=some r→VR ι x v→VR ι y u→(Op.equalIn d t v u).run P w= .ok r w):
 ∀ {fs:List Field} {l:List (Nat×Nat×Bool)} {tys:List Nat},dU P fs l→fs.map (·.type)=tys→(∀ f∈fs,f.name≠ "_")→∀ {xs ys:List AV} {vs us:Array Value},
 VRs ι xs vs.toList→VRs ι ys us.toList→∀ {r:Bool},aJp eq l tys xs ys=some r→
 (forIn fs ((none,()):Option Bool×Unit) fun f __s=>
           if f.name≠ "_" then do
            let __do_lift ← part f.type vs f.offset
            let __do_lift_1 ← part f.type us f.offset
            let __do_lift ← Op.equalIn d f.type __do_lift __do_lift_1
            if (!__do_lift)=true then pure (ForInStep.done (some false,()))
             else pure (ForInStep.yield (none,()))
           else pure (ForInStep.yield (none,())):Sem (Option Bool×Unit)).run P w= .ok (if r then (none,()) else (some false,())) w
 | [],[],_,_,rfl,_,xs,ys,vs,us,_,_,r,h=>by
   simp only[List.map_nil,aJp,Option.some.injEq] at h
   subst h
   simp
 | f::fs,e::l,_,hf,rfl,hn,xs,ys,vs,us,hx,hy,r,h=>by
   simp only[List.map_cons,aJp] at h
   split at h
   ·rename_i x y hpx hpy
    obtain⟨v,hv1,hv2⟩:=aAP (P:=P) (w:=w) hf hx hpx
    obtain⟨u,hu1,hu2⟩:=aAP (P:=P) (w:=w) hf hy hpy
    have hnm:f.name≠ "_" :=hn f (by simp)
    split at h
    ·rename_i he
     have:=heq _ _ _ _ _ _ he hv2 hu2
     have ih:=aGQ heq (fs:=fs) (l:=l) hf.2.2.2 rfl (fun g hg=>hn g (by simp[hg])) hx hy h
     rw[List.forIn_cons]
     simp only[hnm,ne_eq,not_false_eq_true,if_true,Sem.run_bind,hv1,hu1,this,Result.andThen_ok,Bool.not_true,Bool.false_eq_true,if_false,Sem.run_pure]
     exact ih
    ·rename_i he
     have:=heq _ _ _ _ _ _ he hv2 hu2
     injection h with h;subst h
     rw[List.forIn_cons]
     simp only[hnm,ne_eq,not_false_eq_true,if_true,Sem.run_bind,hv1,hu1,this,Result.andThen_ok,Bool.not_false,Sem.run_pure,Bool.false_eq_true,if_false]
    ·simp at h
   ·simp at h
 | [],_::_,_,h,_,_,_,_,_,_,_,_,_,_=>h.elim
 | _::_,[],_,h,_,_,_,_,_,_,_,_,_,_=>h.elim
theorem aOF{T:bQ}(ok:T.Ok){t:TypeId}{ti:TI}(h:T.ty.get t=some ti){l:List (Nat×Nat×Bool)}(hk:ti.k= .st l){tys:List Nat}(he:ti.eqf=some tys):
 ∃ fs:Array Field,T.P.underlying t=some (.struct fs)∧dU T.P fs.toList l∧fs.toList.map (·.type)=tys∧(∀ f∈fs.toList,f.name≠ "_")∧T.P.stoodInHeld t=false∧
   T.P.eqGuardType T.P.depth t=false:=by
 obtain⟨fs,h1,h2,h3,h4,h5⟩:=(ok.ty t ti h).2.2.2 tys he
 obtain⟨d,hd,hdk⟩:=(ok.ty t ti h).2.2.1
 rw[h1] at hd;injection hd with hd;subst hd
 rw[hk] at hdk
 exact⟨fs,h1,hdk,h2,h3,h4,h5⟩
theorem aAQ{T:bQ}(ok:T.Ok){ι:bS}{w:World}:∀ (n d:Nat),n≤d→∀ (t:TypeId) (x y:AV) (v u:Value) (r:Bool),eqA T n t x y=some r→VR ι x v→VR ι y u→
 (Op.equalIn d t v u).run T.P w= .ok r w
 | 0,_,_,t,x,y,v,u,r,h,_,_=>by simp[eqA] at h
 | n+1,0,hle,_,_,_,_,_,_,_,_,_=>absurd hle (by omega)
 | n+1,d+1,hle,t,x,y,v,u,r,h,hx,hy=>by
   simp only[eqA] at h
   split at h
   ·simp at h
   ·rename_i ti ht
    split at h
    ·rename_i k a p b q hk
     rw[cond_eq_ite] at h
     split at h
     ·rename_i hab
      have:=tG hab
      subst this
      injection h with h;subst h
      cases hx;cases hy
      simp[Op.equalIn,rI ok ht hk]
     ·simp at h
    ·rename_i p q hk
     injection h with h;subst h
     cases hx;cases hy
     simp[Op.equalIn,mR ok ht hk]
    ·rename_i p q hk
     injection h with h;subst h
     cases hx;cases hy
     simp[Op.equalIn,aHq ok ht hk]
    ·rename_i fs xs ys hk
     split at h
     ·rename_i tys he
      cases hx with
      | agg _ vs hxs=>
        cases hy with
        | agg _ us hys=>
          obtain⟨F,h1,h2,h3,h4,h5,_⟩:=aOF ok ht hk he
          have hloop:=aGQ (P:=T.P) (w:=w) (d:=d) (fun t x y v u r=>fun h1 h2 h3=>aAQ ok n d (by omega) t x y v u r h1 h2 h3) h2 h3 h4 hxs hys h
          simp only[Op.equalIn,Sem.run_bind,run_underlying h1,Result.andThen_ok,run_program,h5,Bool.false_eq_true,if_false]
          simp only[← Array.forIn_toList]
          rw[hloop]
          cases r <;> simp
     ·simp at h
    ·simp at h
def aHk(ck:TypeId→AV→Bool):List (Nat×Nat×Bool)→List Nat→List AV→Bool
 | [],[],_=>true
 | f::fs,t::ts,xs=>match aD8 f xs with
   | some x=>cond (ck t x) (aHk ck fs ts xs) false
   | none=>false
 | _,_,_=>false
def gR(T:bQ):Nat→TypeId→AV→Bool
 | 0,_,_=>false
 | n+1,t,x=>
   match T.ty.get t with
   | none=>false
   | some ti=>
     match ti.k,x with
     | .int _,_=>true
     | .str,_=>true
     | .bool,_=>true
     | .st fs,.agg xs=>
       match ti.eqf with
       | some tys=>aHk (gR T n) fs tys xs
       | none=>false
     | _,_=>false
theorem aEu{P:Program}{ι:bS}{w:World}{ck:TypeId→AV→Bool}{d:Nat}{em:Bool}
 (hck:∀ t x v,ck t x=true→VR ι x v→(Instr.checkKey em d t v).run P w= .ok () w):
 ∀ {fs:List Field} {l:List (Nat×Nat×Bool)} {tys:List Nat},dU P fs l→fs.map (·.type)=tys→∀ {xs:List AV} {vs:Array Value},
 VRs ι xs vs.toList→aHk ck l tys xs=true→
 (forIn fs PUnit.unit fun f __s=>
  if f.name≠ "_" then do
   let __do_lift ← part f.type vs f.offset
   Instr.checkKey em d f.type __do_lift
   pure (ForInStep.yield PUnit.unit)
  else pure (ForInStep.yield PUnit.unit):Sem PUnit).run P w= .ok PUnit.unit w
 | [],[],_,_,rfl,xs,vs,_,_=>by simp
 | f::fs,e::l,_,hf,rfl,xs,vs,hx,h=>by
   simp only[List.map_cons,aHk] at h
   split at h
   ·rename_i x hpx
    rw[cond_eq_ite] at h
    split at h
    ·rename_i hc
     obtain⟨v,hv1,hv2⟩:=aAP (P:=P) (w:=w) hf hx hpx
     have:=hck _ _ _ hc hv2
     have ih:=aEu hck (fs:=fs) (l:=l) hf.2.2.2 rfl hx h
     rw[List.forIn_cons]
     by_cases hnm:f.name≠ "_"
     ·simp only[hnm,ne_eq,not_false_eq_true,if_true,Sem.run_bind,hv1,this,Result.andThen_ok,Sem.run_pure]
      exact ih
     ·simp only[hnm,if_false,Sem.run_bind,Result.andThen_ok,Sem.run_pure]
      exact ih
    ·simp at h
   ·simp at h
 | [],_::_,_,h,_,_,_,_,_=>h.elim
 | _::_,[],_,h,_,_,_,_,_=>h.elim
theorem oV{T:bQ}(ok:T.Ok){ι:bS}{w:World}{em:Bool}:∀ (n d:Nat),n≤d→∀ (t:TypeId) (x:AV) (v:Value),gR T n t x=true→VR ι x v→
 (Instr.checkKey em d t v).run T.P w= .ok () w
 | 0,_,_,t,x,v,h,_=>by simp[gR] at h
 | n+1,0,hle,_,_,_,_,_=>absurd hle (by omega)
 | n+1,d+1,hle,t,x,v,h,hx=>by
   simp only[gR] at h
   split at h
   ·simp at h
   ·rename_i ti ht
    split at h
    ·rename_i k hk
     simp only[Instr.checkKey,Sem.run_bind,rI ok ht hk,Result.andThen_ok]
     rfl
    ·rename_i hk
     simp only[Instr.checkKey,Sem.run_bind,mR ok ht hk,Result.andThen_ok]
     rfl
    ·rename_i hk
     simp only[Instr.checkKey,Sem.run_bind,aHq ok ht hk,Result.andThen_ok]
     rfl
    ·rename_i fs xs hk
     split at h
     ·rename_i tys he
      cases hx with
      | agg _ vs hxs=>
        obtain⟨F,h1,h2,h3,h4,h5,_⟩:=aOF ok ht hk he
        have hloop:=aEu (P:=T.P) (w:=w) (d:=d) (em:=em) (fun t x v h1 h2=>oV ok n d (by omega) t x v h1 h2) h2 h3 hxs h
        simp only[Instr.checkKey,Sem.run_bind,run_underlying h1,Result.andThen_ok]
        simp only[← Array.forIn_toList]
        rw[hloop]
        rfl
     ·simp at h
    ·simp at h
def eN(T:bQ)(kt:TypeId)(k:AV):List (AV×AV)→Nat→Option (Option (Nat×AV×AV))
 | [],_=>some none
 | (k',v)::es,i=>
   match eqA T 60 kt k k' with
   | some true=>some (some (i,k',v))
   | some false=>eN T kt k es (i+1)
   | none=>none
inductive FR (ι:bS) (ms:List MapEntry) (o:Nat):Option (Nat×AV×AV)→Option (Nat×Value)→Prop
 | none:FR ι ms o none none
 | some (i j:Nat) (k v:AV) (m:MapEntry) (hj:j=o+i) (hm:ms[i]? =some m) (hk:VR ι k m.key) (hv:VR ι v m.val):FR ι ms o (some (j,k,v)) (some (j,m.val))
theorem aCg{T:bQ}(ok:T.Ok){ι:bS}{w:World}{kt:TypeId}{k:AV}{kv:Value}(hk:VR ι k kv):∀ {es:List (AV×AV)} {ms:List MapEntry},eO ι es ms→∀ (o:Nat) (r:Option (Nat×AV×AV)),
 eN T kt k es o=some r→∃ s,(Instr.findAsking kt kv ms o).run T.P w= .ok s w∧FR ι ms o r s
 | _,_,.nil,o,r,h=>by
   simp only[eN,Option.some.injEq] at h
   subst h
   exact⟨none,rfl,.none⟩
 | _,_,.cons k' x m es ms hk' hx hs,o,r,h=>by
   simp only[eN] at h
   split at h
   ·rename_i he
    injection h with h;subst h
    have:=aAQ ok 60 Op.maxDepth (by decide) kt k k' kv m.key true he hk hk' (w:=w)
    refine⟨some (o,m.val),?_,.some 0 o k' x m rfl rfl hk' hx⟩
    simp[Instr.findAsking,Op.equal,this]
   ·rename_i he
    have:=aAQ ok 60 Op.maxDepth (by decide) kt k k' kv m.key false he hk hk' (w:=w)
    obtain⟨s,h1,h2⟩:=aCg ok hk hs (o+1) r h (w:=w)
    refine⟨s,?_,?_⟩
    ·simp[Instr.findAsking,Op.equal,this,h1]
    ·cases h2 with
     | none=>exact .none
     | some i j k v m' hj hm hk hv=>exact .some (i+1) j k v m' (by omega) (by simpa using hm) hk hv
   ·simp at h
theorem aBW{T:bQ}(ok:T.Ok){ι:bS}{w:World}{kt:TypeId}{ti:TI}(ht:T.ty.get kt=some ti){d:TypeDesc}(hd:(underlying kt).run T.P w= .ok d w){k:AV}{kv:Value}(hk:VR ι k kv):
 ∀ {es:List (AV×AV)} {ms:List MapEntry},eO ι es ms→∀ (o:Nat) (r:Option (Nat×AV×AV)),eN T kt k es o=some r→
   (∃ s,Instr.findNow d kv ms o=some s∧FR ι ms o r s)∨Instr.findNow d kv ms o=none
 | _,_,.nil,o,r,h=>by
   simp only[eN,Option.some.injEq] at h
   subst h
   exact .inl ⟨none,rfl,.none⟩
 | _,_,.cons k' x m es ms hk' hx hs,o,r,h=>by
   simp only[eN] at h
   simp only[Instr.findNow]
   cases hsn:Instr.sameNow d kv m.key with
   | none=>exact .inr rfl
   | some b=>
     have hsame:∀ b',eqA T 60 kt k k'=some b'→b=b':=fun b' he=>by
      have:=aAQ ok 60 Op.maxDepth (by decide) kt k k' kv m.key b' he hk hk' (w:=w)
      have h2:∀ D,(Op.equalIn (D+1) kt kv m.key).run T.P w= .ok b w:=fun D=>by
       have hsn':=hsn
       generalize hmk:m.key=mk at hsn'
       unfold Instr.sameNow at hsn'
       split at hsn'
       ·split at hsn'
        ·rename_i hkk
         injection hsn' with hsn';subst hsn'
         simp[Op.equalIn,hd,hkk]
        ·simp at hsn'
       ·injection hsn' with hsn';subst hsn'
        simp[Op.equalIn,hd]
       ·injection hsn' with hsn';subst hsn'
        simp[Op.equalIn,hd]
       ·simp at hsn'
      have h3:=h2 9999
      rw[show Op.maxDepth=9999+1 from rfl,h3] at this
      injection this
     split at h
     ·rename_i he
      have:=hsame _ he;subst this
      injection h with h;subst h
      exact .inl ⟨some (o,m.val),rfl,.some 0 o k' x m rfl rfl hk' hx⟩
     ·rename_i he
      have:=hsame _ he;subst this
      rcases aBW ok ht hd hk hs (o+1) r h with⟨s,h1,h2⟩|h1
      ·refine .inl ⟨s,h1,?_⟩
       cases h2 with
       | none=>exact .none
       | some i j k v m' hj hm hk hv=>exact .some (i+1) j k v m' (by omega) (by simpa using hm) hk hv
      ·exact .inr h1
     ·simp at h
theorem mS{T:bQ}(ok:T.Ok){ι:bS}{w:World}{kt:TypeId}{ti:TI}(ht:T.ty.get kt=some ti){k:AV}{kv:Value}(hk:VR ι k kv){es:List (AV×AV)}{ms:List MapEntry}(he:eO ι es ms)
 {r:Option (Nat×AV×AV)} (h:eN T kt k es 0=some r):∃ s,(Instr.findKey kt kv ms).run T.P w= .ok s w∧FR ι ms 0 r s:=by
 obtain⟨d,_,hd,_⟩:=fF ok ht (w:=w)
 rcases aBW ok ht hd hk he 0 r h with⟨s,h1,h2⟩|h1
 ·exact⟨s,by simp[Instr.findKey,hd,h1],h2⟩
 ·obtain⟨s,h2,h3⟩:=aCg ok hk he 0 r h (w:=w)
  exact⟨s,by simp[Instr.findKey,hd,h1,h2],h3⟩
def TI.zA(ti:TI):AV:=ofV ti.zv
def gX(M:aC)(m:AV):Option (List (AV×AV)):=
 match m with
 | .val (.map none)=>some []
 | .map b=>match M.get b with
   | some (.map es)=>some es
   | _=>none
 | _=>none
def fT(T:bQ)(t:TypeId)(m k:AV)(ok:Bool)(M:aC):Option AV:=
 match T.ty.get t with
 | none=>none
 | some ti=>
   match ti.k with
   | .mp kt vt=>
     match T.ty.get kt,T.ty.get vt,gX M m with
     | some _,some tv,some es=>
       cond (gR T 60 kt k)
        (match eN T kt k es 0 with
        | none=>none
        | some none=>some (cond ok (.tup [tv.zA,.val (.bool false)]) tv.zA)
        | some (some (_,_,v))=>some (cond ok (.tup [v,.val (.bool true)]) v)) none
     | _,_,_=>none
   | _=>none
theorem aCi{P:Program}{ι:bS}{M:aC}{w:World}(R:fZ ι M w){m:AV}{mv:Value}(hm:VR ι m mv){es:List (AV×AV)}(h:gX M m=some es):
 ∃ ms:Array MapEntry,eO ι es ms.toList∧((mv= .map none∧ms= #[])∨∃ b l clock,m= .map b∧ι b=some l∧M.get b=some (.map es)∧mv= .map (some l.blk)∧w.heap[l.blk]? =some (.map ms clock)∧
   (getObj l.blk).run P w= .ok (.map ms clock) w):=by
 unfold gX at h
 split at h
 ·injection h with h;subst h
  cases hm
  exact⟨#[],.nil,.inl ⟨rfl,rfl⟩⟩
 ·rename_i b
  split at h
  ·rename_i es' hg
   injection h with h;subst h
   cases hm with
   | map _ l hl=>
     obtain⟨ms,clock,hk,he,hbo⟩:=R.obj hg hl
     exact⟨ms,he,.inr ⟨b,l,clock,rfl,hl,hg,rfl,hk,eP hk⟩⟩
  ·simp at h
 ·simp at h
theorem aDB{T:bQ}(ok:T.Ok){t:TypeId}{ι:bS}{M:aC}{w:World}{m k x:AV}{mv kv:Value}{c:Bool}(R:fZ ι M w)(hm:VR ι m mv)(hk:VR ι k kv)
 (h:fT T t m k c M=some x):VS T.P ι M w (Instr.lookup t mv kv c) x M:=by
 unfold fT at h
 split at h
 ·simp at h
 ·rename_i ti ht
  split at h
  ·rename_i kt vt hti
   split at h
   ·rename_i tk tv es htk htv hes
    rw[cond_eq_ite] at h
    split at h
    ·rename_i hkey
     obtain⟨ms,he,hcase⟩:=aCi (P:=T.P) R hm hes
     have hck:=fun em=>oV ok (em:=em) 60 10000 (by decide) kt k kv hkey hk (w:=w)
     have hget:(match mv with
      | .map none=>(Pure.pure #[]:Sem (Array MapEntry))
      | .map (some r)=>do
        let .map es _ ← getObj r|stuck "Lookup:map expected"
        pure es
      | _=>stuck "Lookup:map expected").run T.P w= .ok ms w:=by
      rcases hcase with⟨rfl,rfl⟩|⟨b,l,clock,rfl,hl,hg,rfl,hb,hr⟩
      ·rfl
      ·simp only[Sem.run_bind,hr,Result.andThen_ok,Sem.run_pure]
     split at h
     ·simp at h
     ·rename_i hf
      injection h with h;subst h
      obtain⟨s,hs1,hs2⟩:=mS ok htk hk he hf (w:=w)
      cases hs2
      have hz:=aOP ok htv (w:=w)
      cases c with
      | true=>
        refine⟨ι,w,.tuple #[tv.zv,.bool false],?_,.tup _ _ (.cons _ _ _ _ (VR.ofV ι _) (.cons _ _ _ _ (.val _ rfl) .nil)),bR.refl R⟩
        rcases hcase with⟨rfl,rfl⟩|⟨b,l,clock,rfl,hl,hg,rfl,hb,hr⟩
        ·simp only[Instr.lookup,Sem.run_bind,iQ ok ht hti,Result.andThen_ok,Sem.run_pure,hck,hs1,hz]
         rfl
        ·simp only[Instr.lookup,Sem.run_bind,iQ ok ht hti,Result.andThen_ok,hr,Sem.run_pure,hck,hs1,hz]
         rfl
      | false=>
        refine⟨ι,w,tv.zv,?_,VR.ofV ι _,bR.refl R⟩
        rcases hcase with⟨rfl,rfl⟩|⟨b,l,clock,rfl,hl,hg,rfl,hb,hr⟩
        ·simp only[Instr.lookup,Sem.run_bind,iQ ok ht hti,Result.andThen_ok,Sem.run_pure,hck,hs1,hz]
         rfl
        ·simp only[Instr.lookup,Sem.run_bind,iQ ok ht hti,Result.andThen_ok,hr,Sem.run_pure,hck,hs1,hz]
         rfl
     ·rename_i i k' v hf
      injection h with h;subst h
      obtain⟨s,hs1,hs2⟩:=mS ok htk hk he hf (w:=w)
      cases hs2 with
      | some i _ _ _ e hj' hm' hk' hv'=>
      cases c with
      | true=>
        refine⟨ι,w,.tuple #[e.val,.bool true],?_,.tup _ _ (.cons _ _ _ _ hv' (.cons _ _ _ _ (.val _ rfl) .nil)),bR.refl R⟩
        rcases hcase with⟨rfl,rfl⟩|⟨b,l,clock,rfl,hl,hg,rfl,hb,hr⟩
        ·simp only[Instr.lookup,Sem.run_bind,iQ ok ht hti,Result.andThen_ok,Sem.run_pure,hck,hs1]
         rfl
        ·simp only[Instr.lookup,Sem.run_bind,iQ ok ht hti,Result.andThen_ok,hr,Sem.run_pure,hck,hs1]
         rfl
      | false=>
        refine⟨ι,w,e.val,?_,hv',bR.refl R⟩
        rcases hcase with⟨rfl,rfl⟩|⟨b,l,clock,rfl,hl,hg,rfl,hb,hr⟩
        ·simp only[Instr.lookup,Sem.run_bind,iQ ok ht hti,Result.andThen_ok,Sem.run_pure,hck,hs1]
         rfl
        ·simp only[Instr.lookup,Sem.run_bind,iQ ok ht hti,Result.andThen_ok,hr,Sem.run_pure,hck,hs1]
         rfl
    ·simp at h
   ·simp at h
  ·simp at h
def eR:Value→Value→Bool
 | .bool a,.bool b=>a==b
 | .int j a,.int k b=>j==k&&a==b
 | .string a,.string b=>a==b
 | _,_=>false
def jK:List Value→List Value→Bool
 | [],[]=>true
 | x::xs,y::ys=>cond (eR x y) (jK xs ys) false
 | _,_=>false
def pY:Value→Value→Bool
 | .agg ⟨xs⟩,.agg ⟨ys⟩=>jK xs ys
 | x,y=>eR x y
theorem pQ{x y:Value}(h:eR x y=true)(n:Nat):Instr.sameBits n x y=true:=by
 unfold eR at h
 split at h <;> first|(simp at h;done)|(unfold Instr.sameBits;exact h)
theorem sK(n:Nat):∀ {xs ys:List Value},jK xs ys=true→xs.length=ys.length∧((xs.zip ys).all fun (x,y)=>Instr.sameBits n x y)=true
 | [],[],_=>⟨rfl,rfl⟩
 | x::xs,y::ys,h=>by
   simp only[jK,cond_eq_ite] at h
   split at h
   ·rename_i h1
    obtain⟨h2,h3⟩:=sK n h
    exact⟨by simp[h2],by simp[pQ h1 n];simpa using h3⟩
   ·simp at h
 | [],_::_,h=>by simp[jK] at h
 | _::_,[],h=>by simp[jK] at h
theorem aFI{x y:Value}(h:pY x y=true)(n:Nat):Instr.sameBits (n+1) x y=true:=by
 unfold pY at h
 split at h
 ·rename_i xs ys
  obtain⟨h2,h3⟩:=sK n h
  simp only[Instr.sameBits,List.size_toArray,h2,h3,beq_self_eq_true,Bool.and_self]
 ·exact pQ h _
def eJ(T:bQ)(t:TypeId)(m k v:AV)(M:aC):Option aC:=
 match T.ty.get t with
 | none=>none
 | some ti=>
   match ti.k,m with
   | .mp kt _,.map b=>
     match T.ty.get kt,M.get b with
     | some _,some (.map es)=>
       cond (gR T 60 kt k)
        (match eN T kt k es 0 with
        | none=>none
        | some none=>some (M.put b (.map (es++[(k,v)])))
        | some (some (i,k',_))=>
          match k.flat,k'.flat with
          | some a,some c=>cond (pY c a) (some (M.put b (.map (es.set i (k,v))))) none
          | _,_=>none) none
     | _,_=>none
   | _,_=>none
theorem eO.append{ι:bS}:∀ {es:List (AV×AV)} {ms:List MapEntry} {es':List (AV×AV)} {ms':List MapEntry},eO ι es ms→eO ι es' ms'→eO ι (es++es') (ms++ms')
 | _,_,_,_,.nil,h=>h
 | _,_,_,_,.cons k x m es ms hk hv hs,h=> .cons k x m _ _ hk hv (eO.append hs h)
theorem eO.set{ι:bS}:∀ {es:List (AV×AV)} {ms:List MapEntry},eO ι es ms→∀ (i:Nat) {k x:AV} {m:MapEntry},VR ι k m.key→VR ι x m.val→eO ι (es.set i (k,x)) (ms.set i m)
 | _,_,.nil,i,k,x,m,_,_=>by simpa using eO.nil
 | _,_,.cons k' x' m' es ms hk' hv' hs,0,k,x,m,hk,hv=> .cons _ _ _ _ _ hk hv hs
 | _,_,.cons k' x' m' es ms hk' hv' hs,i+1,k,x,m,hk,hv=> .cons _ _ _ _ _ hk' hv' (eO.set hs i hk hv)
theorem eO.erase{ι:bS}:∀ {es:List (AV×AV)} {ms:List MapEntry},eO ι es ms→∀ (i:Nat),eO ι (es.eraseIdx i) (ms.eraseIdx i)
 | _,_,.nil,i=>by simpa using eO.nil
 | _,_,.cons k' x' m' es ms hk' hv' hs,0=>hs
 | _,_,.cons k' x' m' es ms hk' hv' hs,i+1=> .cons _ _ _ _ _ hk' hv' (eO.erase hs i)
theorem rB{T:bQ}(ok:T.Ok){t:TypeId}{ι:bS}{M M':aC}{w:World}{m k v:AV}{mv kv vv:Value}(R:fZ ι M w)(hm:VR ι m mv)(hk:VR ι k kv)(hv:VR ι v vv)
 (h:eJ T t m k v M=some M'):∃ w',(Instr.mapUpdate t mv kv vv).run T.P w= .ok () w'∧bR ι M w ι M' w':=by
 unfold eJ at h
 split at h
 ·simp at h
 ·rename_i ti ht
  split at h
  ·rename_i kt vt b hti
   split at h
   ·rename_i tk es htk hg
    rw[cond_eq_ite] at h
    split at h
    ·rename_i hkey
     cases hm with
     | map _ l hl=>
       obtain⟨ms,clock,hob,he,hbo⟩:=R.obj hg hl
       have hck:=oV ok (em:=false) 60 10000 (by decide) kt k kv hkey hk (w:=w)
       have hgo:=eP (P:=T.P) hob
       split at h
       ·simp at h
       ·rename_i hf
        injection h with h;subst h
        obtain⟨s,hs1,hs2⟩:=mS ok htk hk he hf (w:=w)
        cases hs2
        refine⟨_,?_,bR.setMap R hg hl hob (ms':=ms.push { key:=kv,val:=vv,born:=clock }) (c':=clock+1) ?_ (by rw[Array.toList_push];exact hbo.push _ _)⟩
        ·simp only[Instr.mapUpdate,Sem.run_bind,iQ ok ht hti,Result.andThen_ok,hgo,hck,hs1,fU hob]
        ·rw[Array.toList_push]
         exact he.append (.cons _ _ _ _ _ hk hv .nil)
       ·rename_i i k' v' hf
        split at h
        ·rename_i a c ha hc
         rw[cond_eq_ite] at h
         split at h
         ·rename_i hsame
          injection h with h;subst h
          obtain⟨s,hs1,hs2⟩:=mS ok htk hk he hf (w:=w)
          cases hs2 with
          | some i2 _ _ _ e hj' hm' hk' hv'=>
            have hij:i=i2:=by omega
            subst hij
            have e1:=aDd hk ha
            have e2:=aDd hk' hc
            subst e1
            subst e2
            have hem:ms[i]? =some e:=by simpa using hm'
            have hbits:=aFI hsame 9999
            refine⟨_,?_,bR.setMap R hg hl hob (ms':=ms.modify i fun e=>{ e with key:=kv,val:=vv }) (c':=clock) ?_ (hbo.same ?_)⟩
            ·simp only[Instr.mapUpdate,Sem.run_bind,iQ ok ht hti,Result.andThen_ok,hgo,hck,hs1,hem,Option.map_some,Option.getD_some,Instr.keyThatStays]
             rw[if_pos hbits]
             simp only[Sem.run_pure,Result.andThen_ok,fU hob]
            ·have hlist:(ms.modify i fun e=>{ e with key:=kv,val:=vv }).toList=ms.toList.set i { e with key:=kv,val:=vv }:=by
              apply List.ext_getElem?
              intro j
              simp only[Array.getElem?_toList,Array.getElem?_modify,List.getElem?_set]
              by_cases hji:i=j
              ·subst hji
               have hlt:i<ms.size:=by
                rcases Nat.lt_or_ge i ms.size with h'|h'
                ·exact h'
                ·rw[Array.getElem?_eq_none h'] at hem;simp at hem
               have hmi:ms[i]=e:=by
                have:=Array.getElem?_eq_getElem hlt
                rw[hem] at this
                injection this with this
                exact this.symm
               simp[hlt,hmi]
              ·simp[hji]
             rw[hlist]
             exact he.set i hk hv
            ·apply List.ext_getElem?
             intro j
             simp only[List.getElem?_map,Array.getElem?_toList,Array.getElem?_modify]
             by_cases hij:i=j
             ·subst hij
              cases he':ms[i]? with
              | none=>simp
              | some e=>simp
             ·simp[hij]
         ·simp at h
        ·simp at h
    ·simp at h
   ·simp at h
  ·simp at h
def qS(T:bQ)(t:TypeId)(m k:AV)(M:aC):Option aC:=
 match T.ty.get t with
 | none=>none
 | some ti=>
   match ti.k,m with
   | .mp kt _,.map b=>
     match T.ty.get kt,M.get b with
     | some _,some (.map es)=>
       cond (gR T 60 kt k)
        (match eN T kt k es 0 with
        | none=>none
        | some none=>some (M.put b (.map es))
        | some (some (i,_,_))=>some (M.put b (.map (es.eraseIdx i)))) none
     | _,_=>none
   | .mp kt _,.val (.map none)=>cond (gR T 60 kt k) (some M) none
   | _,_=>none
theorem aEt{T:bQ}(ok:T.Ok){t:TypeId}{ts:Array TypeId}{args:Array Value}{ty:TypeId}(h0:ts[0]? =some t){mv kv:Value}(ha0:args[0]? =some mv)(ha1:args[1]? =some kv)
 {ι:bS} {M M':aC} {w:World} {m k:AV} (R:fZ ι M w) (hm:VR ι m mv) (hk:VR ι k kv)
 (h:qS T t m k M=some M'):VS T.P ι M w (Builtin.delete_ ts ty args) (.tup []) M':=by
 have hu:VR ι (.tup []) (.tuple #[]):= .tup [] #[] .nil
 unfold qS at h
 split at h
 ·simp at h
 ·rename_i ti ht
  split at h
  ·rename_i kt vt b hti
   split at h
   ·rename_i tk es htk hg
    rw[cond_eq_ite] at h
    split at h
    ·rename_i hkey
     cases hm with
     | map _ l hl=>
       obtain⟨ms,clock,hob,he,hbo⟩:=R.obj hg hl
       have hck:=fun em=>oV ok (em:=em) 60 10000 (by decide) kt k kv hkey hk (w:=w)
       have hgo:=eP (P:=T.P) hob
       split at h
       ·simp at h
       ·rename_i hf
        injection h with h;subst h
        obtain⟨s,hs1,hs2⟩:=mS ok htk hk he hf (w:=w)
        cases hs2
        refine⟨ι,_,_,?_,hu,bR.setMap R hg hl hob (ms':=ms) (c':=clock) he hbo⟩
        simp only[Builtin.delete_,h0,ha0,ha1,Sem.run_bind,iQ ok ht hti,Result.andThen_ok,hgo,hck,hs1,fU hob,Sem.run_pure]
       ·rename_i i k' v' hf
        injection h with h;subst h
        obtain⟨s,hs1,hs2⟩:=mS ok htk hk he hf (w:=w)
        cases hs2 with
        | some i2 _ _ _ e hj' hm' hk' hv'=>
          have hij:i=i2:=by omega
          subst hij
          refine⟨ι,_,_,?_,hu,bR.setMap R hg hl hob (ms':=ms.eraseIdxIfInBounds i) (c':=clock) ?_ (by rw[Array.toList_eraseIdxIfInBounds];exact hbo.sub (List.eraseIdx_sublist _ _))⟩
          ·simp only[Builtin.delete_,h0,ha0,ha1,Sem.run_bind,iQ ok ht hti,Result.andThen_ok,hgo,hck,hs1,fU hob,Sem.run_pure]
          ·rw[Array.toList_eraseIdxIfInBounds]
           exact he.erase i
    ·simp at h
   ·simp at h
  ·rename_i kt vt hti
   rw[cond_eq_ite] at h
   split at h
   ·rename_i hkey
    injection h with h;subst h
    cases hm
    have hck:=oV ok (em:=true) 60 10000 (by decide) kt k kv hkey hk (w:=w)
    refine⟨ι,w,_,?_,hu,bR.refl R⟩
    simp only[Builtin.delete_,h0,ha0,ha1,Sem.run_bind,iQ ok ht hti,Result.andThen_ok,hck,Sem.run_pure]
   ·simp at h
  ·simp at h
theorem aC7{P:Program}{t:TypeId}{ι:bS}{M:aC}{w:World}(R:fZ ι M w):VS P ι M w (Instr.makeMap t none) (.map M.next) (M.new (.map [])):=by
 have hs:=bR.alloc R (.map []) (.map #[] 0) ⟨w.heap.size,0,0⟩ rfl ⟨.nil,.nil⟩
 refine⟨_,_,.map (some w.heap.size),?_,.map M.next ⟨w.heap.size,0,0⟩ (by simp),hs⟩
 simp[Instr.makeMap]
def uL:List AV→Option (List UInt8)
 | []=>some []
 | .val (.int .u8 n)::xs=>(uL xs).map (UInt8.ofNat n.toNat:: ·)
 | _::_=>none
theorem aAz{ι:bS}:∀ {xs:List AV} {vs:List Value} {bs:List UInt8},VRs ι xs vs→uL xs=some bs→∃ ns:List Int,vs=ns.map (Value.int .u8)∧bs=ns.map fun n=>UInt8.ofNat n.toNat
 | _,_,bs,.nil,h=>by
   simp only[uL,Option.some.injEq] at h
   subst h
   exact⟨[],rfl,rfl⟩
 | _,_,bs,.cons x v xs vs hx hs,h=>by
   unfold uL at h
   split at h
   ·rename_i he;cases he
   ·rename_i n xs' he
    injection he with he1 he2
    subst he1;subst he2
    obtain⟨bs',hb,rfl⟩:=Option.map_eq_some_iff.1 h
    obtain⟨ns,h1,h2⟩:=aAz hs hb
    cases hx
    exact⟨n::ns,by simp[h1],by simp[h2]⟩
   ·simp at h
theorem aFq(ns:List Int):∀ s:ByteArray,ns.foldl (fun r n=>r.push (UInt8.ofNat n.toNat)) s=⟨⟨s.data.toList++ns.map fun n=>UInt8.ofNat n.toNat⟩⟩:=by
 induction ns with
 | nil=>intro s;simp
 | cons n ns ih=>
   intro s
   rw[List.foldl_cons,ih]
   simp[ByteArray.push]
def aOu(T:bQ)(src dst:TypeId)(k:IntKind)(x:AV):Option AV:=
 match x with
 | .val (.int _ n)=>some (.val (.int k (k.wrap n)))
 | .val v=>(nT T.P (convert src dst v)).map ofV
 | _=>none
def nY(T:bQ)(src dst:TypeId)(x:AV)(M:aC):Option (AV×aC):=
 match T.ty.get src,T.ty.get dst with
 | some ts,some td=>
   match ts.k,td.k,x with
   | _,.int k,x=>(aOu T src dst k x).map fun v=>(v,M)
   | _,.str,.val (.string s)=>some (.val (.string s),M)
   | .sli e,.str,.sl b o n _ _=>
     match T.ty.get e with
     | some te=>
       match te.k with
       | .int .u8=>cond (Nat.beq n 0) (some (.val (.string ⟨⟨[]⟩⟩),M)) (match M.cellsAt b o n with
         | none=>none
         | some xs=>(uL xs).map fun bs=>(.val (.string ⟨⟨bs⟩⟩),M))
       | _=>none
     | none=>none
   | .sli e,.str,.val (.slice none _ _)=>
     match T.ty.get e with
     | some te=>
       match te.k with
       | .int .u8=>some (.val (.string ⟨⟨[]⟩⟩),M)
       | _=>none
     | none=>none
   | .str,.sli e,.val (.string s)=>
     match T.ty.get e with
     | some te=>
       match te.k with
       | .int .u8=>some (.sl M.next 0 s.size s.size (some 1),M.new (.cells (bytesA s) true))
       | _=>none
     | none=>none
   | .sli e,.sli e',.sl b o n c none=>
     match T.ty.get e' with
     | some te=>
       match te.k,M.get b with
       | .int .u8,some (.cells cs true)=>cond (Nat.beq src dst) (some (.sl b o n c none,M.put b (.cells cs false))) none
       | _,_=>none
     | none=>none
   | _,_,.val v=>(nT T.P (convert src dst v)).map fun u=>(ofV u,M)
   | _,_,_=>none
 | _,_=>none
theorem aH2{T:bQ}(ok:T.Ok){src dst:TypeId}{ι:bS}{M M':aC}{w:World}{x y:AV}{v:Value}(R:fZ ι M w)(hx:VR ι x v)
 (h:nY T src dst x M=some (y,M')):VS T.P ι M w (convert src dst v) y M':=by
 unfold nY at h
 split at h
 ·rename_i ts td hts htd
  obtain⟨d,_,hd,_⟩:=fF ok hts (w:=w)
  split at h
  ·rename_i k _ hk
   obtain⟨y',hy',he⟩:=Option.map_eq_some_iff.1 h
   injection he with h1 h2;subst h1;subst h2
   unfold aOu at hy'
   split at hy'
   ·injection hy' with hy';subst hy'
    cases hx
    exact⟨ι,w,_,by simp[convert,hd,rI ok htd hk,Conv.intToInt],.val _ rfl,bR.refl R⟩
   ·obtain⟨z,hz,rfl⟩:=Option.map_eq_some_iff.1 hy'
    cases hx
    exact⟨ι,w,z,uA T.P _ _ hz w,VR.ofV ι z,bR.refl R⟩
   ·simp at hy'
  ·rename_i s hk
   injection h with h;injection h with h1 h2;subst h1;subst h2
   cases hx
   exact⟨ι,w,.string s,by simp[convert,hd,mR ok htd hk],.val _ rfl,bR.refl R⟩
  ·rename_i e b o n c ex hks hkd
   split at h
   ·rename_i te hte
    split at h
    ·rename_i hke
     have hval:∃ a c',v= .slice (some a) n c':=by cases hx <;> exact⟨_,_,rfl⟩
     rw[cond_eq_ite] at h
     split at h
     ·rename_i hn
      have hn:n=0:=Nat.eq_of_beq_eq_true hn
      injection h with h;injection h with h1 h2;subst h1;subst h2
      obtain⟨a,c',rfl⟩:=hval
      subst hn
      refine⟨ι,w,.string ⟨⟨[]⟩⟩,?_,.val _ rfl,bR.refl R⟩
      have:=run_bytesToString (P:=T.P) w a 0 c' [] (by simp[loadCells,loadCellsFrom])
      simp only[convert,Sem.run_bind,cR ok hts hks,mR ok htd hkd,Result.andThen_ok,rI ok hte hke,this]
      rfl
     ·rename_i hn
      have hn:¬ n=0:=fun he=>hn (by rw[Nat.beq_eq];exact he)
      split at h
      ·simp at h
      ·rename_i xs hxs
       obtain⟨bs,hbs,he⟩:=Option.map_eq_some_iff.1 h
       injection he with h1 h2;subst h1;subst h2
       have hl:∃ lc,ι b=some lc∧∃ c',v= .slice (some ⟨lc.blk,lc.base+o,none⟩) n c':=by
        cases hx with
        | slE _ _ _ _ lc hl=>exact⟨lc,hl,_,rfl⟩
        | slI _ _ _ _ _ _ lc hl _ _=>exact⟨lc,hl,_,rfl⟩
        | slZ=>exact absurd rfl hn
       obtain⟨lc,hl,c',rfl⟩:=hl
       obtain⟨vs,hv1,hv2,hv3⟩:=R.loadCells (P:=T.P) hxs hl
       obtain⟨ns,hns,hbn⟩:=aAz hv1 hbs
       refine⟨ι,w,.string ⟨⟨bs⟩⟩,?_,.val _ rfl,bR.refl R⟩
       have:=run_bytesToString (P:=T.P) w ⟨lc.blk,lc.base+o,none⟩ n c' ns (by rw[hv3,hns])
       simp only[convert,Sem.run_bind,cR ok hts hks,mR ok htd hkd,Result.andThen_ok,rI ok hte hke,this]
       rw[aFq,hbn]
       rfl
    ·simp at h
   ·simp at h
  ·rename_i e n c hks hkd
   split at h
   ·rename_i te hte
    split at h
    ·rename_i hke
     injection h with h;injection h with h1 h2;subst h1;subst h2
     cases hx
     refine⟨ι,w,.string ⟨⟨[]⟩⟩,?_,.val _ rfl,bR.refl R⟩
     simp only[convert,Sem.run_bind,cR ok hts hks,mR ok htd hkd,Result.andThen_ok,rI ok hte hke]
     rfl
    ·simp at h
   ·simp at h
  ·rename_i e s hks hkd
   split at h
   ·rename_i te hte
    split at h
    ·rename_i hke
     injection h with h;injection h with h1 h2;subst h1;subst h2
     cases hx
     generalize hcap:(Question.appendCap s.size 0 e).cut (w.tape w.drawn (.appendCap s.size 0 e))=cap
     have hge:s.size≤cap:=by rw[← hcap];simp only[Question.cut];omega
     have hf:(Question.appendCap s.size 0 e).forced=false:=rfl
     let c:Array Value:=(Array.map (fun b:UInt8=>Value.int .u8 b.toNat) s.data)++Array.replicate (cap-s.size) (Value.int .u8 0)
     have hcs:c.size=cap:=by
      show ((Array.map (fun b:UInt8=>Value.int .u8 b.toNat) s.data)++Array.replicate (cap-s.size) (Value.int .u8 0)).size=cap
      have:s.data.size=s.size:=rfl
      simp;omega
     have R1:fZ ι M { w with drawn:=w.drawn+1 }:=R.of_heap rfl
     have hs:=bR.alloc R1 (.cells (bytesA s) true) (.cells c e (cap,cap+1)) ⟨w.heap.size,0,cap⟩ rfl (by
      have hbl:(bytesA s).length=s.size:=by rw[bytesA,List.length_map,Array.length_toList];rfl
      refine⟨hcs,by simp only;omega,?_,fun _ k hk=>by simp only;omega⟩
      rw[List.drop_zero,hbl]
      have:c.toList.take s.size=s.data.toList.map fun b=>Value.int .u8 b.toNat:=by
       show ((Array.map (fun b:UInt8=>Value.int .u8 b.toNat) s.data)++Array.replicate (cap-s.size) (Value.int .u8 0)).toList.take s.size=_
       rw[Array.toList_append,List.take_left' (by rw[Array.length_toList,Array.size_map];rfl)]
       simp
      rw[this]
      exact VRs.bytesA s)
     have hs0:bR ι M w ι M { w with drawn:=w.drawn+1 }:=bR.of_heap R rfl rfl rfl rfl
     refine⟨_,_,.slice (some ⟨w.heap.size,0,none⟩) s.size cap,?_,?_,hs0.trans hs⟩
     ·simp only[convert,Sem.run_bind,mR ok hts hks,cR ok htd hkd,Result.andThen_ok,rI ok hte hke,Conv.stringToBytes,run_choose,hf,Bool.false_eq_true,if_false,hcap,
       newRow,run_newObj,Sem.run_pure,markStringish,run_shape]
      have hshape:World.shape? { w with heap:=w.heap.push (.cells c e (0,0)),drawn:=w.drawn+1 } w.heap.size=some (e,cap):=by
       simp[World.shape?,hcs]
      rw[hshape]
      simp only[run_freeze,Result.andThen_ok]
      congr 1
      simp only[World.freeze,Nat.succ_ne_zero,if_false]
      congr 1
      apply Array.ext_getElem?
      intro i
      rw[Array.getElem?_modify,Array.getElem?_push,Array.getElem?_push]
      by_cases hi:i=w.heap.size
      ·simp[hi]
       rfl
      ·rw[if_neg (fun h=>hi h.symm),if_neg hi,if_neg hi]
     ·exact .slI M.next 0 s.size s.size 1 cap ⟨w.heap.size,0,cap⟩ (by simp) hge (by simp)
    ·simp at h
   ·simp at h
  ·rename_i e e' b o n c hks hkd
   split at h
   ·rename_i te hte
    split at h
    ·rename_i cs hke hg
     rw[cond_eq_ite] at h
     split at h
     ·rename_i hsd
      have hsd:src=dst:=Nat.eq_of_beq_eq_true hsd
      injection h with h;injection h with h1 h2;subst h1;subst h2
      cases hx with
      | slE _ _ _ _ l hl=>
        obtain⟨l',hl',hrow⟩:=R.live b _ hg
        rw[hl] at hl';injection hl' with hl';subst hl'
        cases hob:w.heap[l.blk]? with
        | none=>rw[hob] at hrow;exact hrow.elim
        | some ob=>
          rw[hob] at hrow
          cases ob with
          | cells cc el fr=>
            obtain⟨lo,hi⟩:=fr
            have hshape:w.shape? l.blk=some (el,cc.size):=by unfold World.shape?;rw[hob]
            refine⟨ι,w.freeze { block:=l.blk,off:=cc.size } 1,.slice (some ⟨l.blk,l.base+o,none⟩) n c,?_,.slE b o n c l hl,?_⟩
            ·simp only[convert,Sem.run_bind,cR ok hts hks,cR ok htd hkd,Result.andThen_ok,rI ok hte hke,hsd,beq_self_eq_true,markStringish,run_shape]
             rw[hshape]
             simp only[run_freeze,Result.andThen_ok,Sem.run_pure]
            ·refine bR.write R hg rfl hl ?_ ?_ ?_ ?_ ?_ ?_
             ·simp[World.freeze]
             ·intro k hk
              simp only[World.freeze,Nat.succ_ne_zero,if_false]
              rw[Array.getElem?_modify,if_neg (fun h=>hk h.symm)]
             ·simp only[World.freeze,Nat.succ_ne_zero,if_false]
              rw[Array.getElem?_modify,if_pos rfl,hob]
              exact⟨hrow.1,hrow.2.1,hrow.2.2.1,fun h=>by cases h⟩
             ·simp[World.freeze]
             ·simp[World.freeze]
             ·simp[World.freeze]
          | map a b=>exact hrow.elim
          | _=>exact hrow.elim
     ·simp at h
    ·simp at h
   ·simp at h
  ·rename_i u _ _ _ _ _ _
   cases hx
   obtain⟨z,hz,he⟩:=Option.map_eq_some_iff.1 h
   injection he with h1 h2;subst h1;subst h2
   exact⟨ι,w,z,uA T.P _ _ hz w,VR.ofV ι z,bR.refl R⟩
  ·simp at h
 ·simp at h
def tE(op:BinOp)(k:IntKind)(a b:Int):Option Value:=
 match op with
 | .add=>some (.int k (k.wrap (a+b)))
 | .sub=>some (.int k (k.wrap (a-b)))
 | .mul=>some (.int k (k.wrap (a*b)))
 | .quo=>cond (decide (b=0)) none (some (.int k (k.wrap (a.tdiv b))))
 | .rem=>cond (decide (b=0)) none (some (.int k (a.tmod b)))
 | .and=>some (.int k (k.wrap (BitVec.ofInt k.bits a &&& BitVec.ofInt k.bits b).toNat))
 | .or=>some (.int k (k.wrap (BitVec.ofInt k.bits a ||| BitVec.ofInt k.bits b).toNat))
 | .xor=>some (.int k (k.wrap (BitVec.ofInt k.bits a ^^^ BitVec.ofInt k.bits b).toNat))
 | .andNot=>some (.int k (k.wrap (BitVec.ofInt k.bits a &&& ~~~BitVec.ofInt k.bits b).toNat))
 | .eql=>some (.bool (a==b))
 | .neq=>some (.bool (a != b))
 | .lss=>some (.bool (a<b))
 | .leq=>some (.bool (a≤b))
 | .gtr=>some (.bool (a>b))
 | .geq=>some (.bool (a≥b))
 | .shl| .shr=>none
def rC(op:BinOp)(k:IntKind)(a b:Int):Option Value:=
 cond (decide (b<0)) none
  (match op with
  | .shl=>some (.int k (k.wrap (a*2^(min b.toNat k.bits))))
  | .shr=>some (.int k (a.fdiv (2^(min b.toNat k.bits))))
  | _=>none)
theorem aHL{op:BinOp}{k:IntKind}{a b:Int}{v:Value}(h:tE op k a b=some v)(t:TypeId)(P:Program)(w:World):(binOp op t (.int k a) (.int k b)).run P w= .ok v w∧v.uno=true:=by
 unfold tE at h
 split at h <;> try (injection h with h;subst h;exact⟨by simp[binOp,Op.intArith,Op.intBits,Op.intCmp],rfl⟩)
 ·simp only[cond_eq_ite,decide_eq_true_eq] at h
  split at h
  ·simp at h
  ·rename_i hb
   injection h with h;subst h
   exact⟨by simp[binOp,Op.intDiv,hb],rfl⟩
 ·simp only[cond_eq_ite,decide_eq_true_eq] at h
  split at h
  ·simp at h
  ·rename_i hb
   injection h with h;subst h
   exact⟨by simp[binOp,Op.intDiv,hb],rfl⟩
 ·simp at h
 ·simp at h
theorem xN{op:BinOp}{k k':IntKind}{a b:Int}{v:Value}(h:rC op k a b=some v)(t:TypeId)(P:Program)(w:World):
 (binOp op t (.int k a) (.int k' b)).run P w= .ok v w∧v.uno=true:=by
 unfold rC at h
 simp only[cond_eq_ite,decide_eq_true_eq] at h
 split at h
 ·simp at h
 ·rename_i hb
  split at h
  ·injection h with h;subst h
   exact⟨by simp[binOp,Op.shift,hb],rfl⟩
  ·injection h with h;subst h
   exact⟨by simp[binOp,Op.shift,hb],rfl⟩
  ·simp at h
def aQR(a b:ByteArray):ByteArray:=⟨⟨a.data.toList++b.data.toList⟩⟩
theorem aL5(a b:ByteArray):a++b=aQR a b:=by
 apply ByteArray.ext
 rw[ByteArray.data_append]
 unfold aQR
 apply Array.ext'
 simp
def mT:List UInt8→List UInt8→Bool
 | [],[]=>true
 | a::x,b::y=>cond (Nat.beq a.toNat b.toNat) (mT x y) false
 | _,_=>false
theorem xR:∀ x y:List UInt8,mT x y=(x==y)
 | [],[]=>rfl
 | [],_::_=>rfl
 | _::_,[]=>rfl
 | a::x,b::y=>by
   rw[List.cons_beq_cons,mT,xR x y,cond_eq_ite]
   have:Nat.beq a.toNat b.toNat=(a==b):=by
    rw[Bool.eq_iff_iff,Nat.beq_eq,beq_iff_eq]
    exact⟨fun h=>UInt8.toNat_inj.1 h,fun h=>by rw[h]⟩
   rw[this]
   cases a==b <;> simp
def aFV(op:BinOp)(x y:ByteArray):Option Value:=
 match op with
 | .add=>cond (Nat.ble (x.data.toList.length+y.data.toList.length) 4611686018427387904) (some (.string (aQR x y))) none
 | .eql=>some (.bool (mT x.data.toList y.data.toList))
 | .neq=>some (.bool (!mT x.data.toList y.data.toList))
 | .lss=>some (.bool (Op.bytesLess x.data.toList y.data.toList))
 | .leq=>some (.bool (Op.bytesLess x.data.toList y.data.toList||mT x.data.toList y.data.toList))
 | .gtr=>some (.bool (!(Op.bytesLess x.data.toList y.data.toList||mT x.data.toList y.data.toList)))
 | .geq=>some (.bool (!Op.bytesLess x.data.toList y.data.toList))
 | _=>none
theorem aIk{op:BinOp}{x y:ByteArray}{v:Value}(h:aFV op x y=some v)(t:TypeId)(P:Program)(w:World):(binOp op t (.string x) (.string y)).run P w= .ok v w∧v.uno=true:=by
 unfold aFV at h
 split at h <;> try (injection h with h;subst h;exact⟨by simp[binOp,Op.stringOp,ByteArray.toList_eq,xR],rfl⟩)
 ·rw[cond_eq_ite] at h
  split at h
  ·rename_i hle
   have hle:=Nat.le_of_ble_eq_true hle
   injection h with h;subst h
   have h1:x.data.toList.length=x.size:=by rw[Array.length_toList];rfl
   have h2:y.data.toList.length=y.size:=by rw[Array.length_toList];rfl
   have hng:¬ (((x.size+y.size:Nat):Int)>IntKind.i64.max):=by
    have:IntKind.i64.max=9223372036854775807:=by decide
    omega
   refine⟨?_,rfl⟩
   simp only[binOp,Op.stringOp]
   rw[if_neg hng,aL5]
   rfl
  ·simp at h
 ·simp at h
def nZ(T:bQ)(t:TypeId)(x y:AV):Option Bool:=
 match T.ty.get t with
 | none=>none
 | some ti=>
   match ti.k,x,y with
   | .pt _,.ptr _ _,.val (.pointer none)=>some false
   | .pt _,.val (.pointer none),.ptr _ _=>some false
   | .pt e,.ptr b o,.ptr b' o'=>
     match T.ty.get e with
     | some te=>cond (Nat.beq te.size 0) none (cond (Nat.beq b b') (some (Nat.beq o o')) none)
     | none=>none
   | .sli _,.sl _ _ _ _ _,.val (.slice none _ _)=>some false
   | .sli _,.val (.slice none _ _),.sl _ _ _ _ _=>some false
   | .mp _ _,.map _,.val (.map none)=>some false
   | .mp _ _,.val (.map none),.map _=>some false
   | _,_,_=>none
theorem vT{ι:bS}{b o n c:Nat}{ex:Option Nat}{v:Value}(h:VR ι (.sl b o n c ex) v):∃ a c',v= .slice (some a) n c':=by cases h <;> exact⟨_,_,rfl⟩
theorem aFK{T:bQ}(ok:T.Ok){t:TypeId}{ι:bS}{w:World}{x y:AV}{v u:Value}{r:Bool}(hx:VR ι x v)(hy:VR ι y u)(h:nZ T t x y=some r)(D:Nat):
 (Op.equalIn (D+1) t v u).run T.P w= .ok r w:=by
 unfold nZ at h
 split at h
 ·simp at h
 ·rename_i ti ht
  split at h
  ·rename_i e b o hk
   injection h with h;subst h
   cases hx;cases hy
   simp only[Op.equalIn,Sem.run_bind,aAA ok ht hk,Result.andThen_ok]
   rfl
  ·rename_i e b o hk
   injection h with h;subst h
   cases hx;cases hy
   simp only[Op.equalIn,Sem.run_bind,aAA ok ht hk,Result.andThen_ok]
   rfl
  ·rename_i e b o b' o' hk
   split at h
   ·rename_i te hte
    simp only[cond_eq_ite] at h
    split at h
    ·simp at h
    ·rename_i hz
     have hz:te.size≠0:=fun he=>hz (by rw[he];rfl)
     split at h
     ·rename_i hb
      have hb:b=b':=Nat.eq_of_beq_eq_true hb
      subst hb
      injection h with h;subst h
      cases hx with
      | ptr _ _ l hl=>
        cases hy with
        | ptr _ _ l' hl'=>
          rw[hl] at hl';injection hl' with hl';subst hl'
          have hbe:Nat.beq o o'=((⟨l.blk,l.base+o,none⟩:Addr)==⟨l.blk,l.base+o',none⟩):=by
           rw[Bool.eq_iff_iff,Nat.beq_eq,beq_iff_eq]
           constructor
           ·intro h;rw[h]
           ·intro h;injection h with _ h _;omega
          simp only[Op.equalIn,Sem.run_bind,aAA ok ht hk,Result.andThen_ok,bY ok hte]
          rw[if_pos hz]
          simp[sameAddr,hbe]
     ·simp at h
   ·simp at h
  ·rename_i e b o n c ex n' c' hk
   injection h with h;subst h
   obtain⟨a,c2,rfl⟩:=vT hx
   cases hy
   simp only[Op.equalIn,Sem.run_bind,cR ok ht hk,Result.andThen_ok]
   rfl
  ·rename_i e n' c' b o n c ex hk
   injection h with h;subst h
   obtain⟨a,c2,rfl⟩:=vT hy
   cases hx
   simp only[Op.equalIn,Sem.run_bind,cR ok ht hk,Result.andThen_ok]
   rfl
  ·rename_i hk
   injection h with h;subst h
   cases hx;cases hy
   simp only[Op.equalIn,Sem.run_bind,iQ ok ht hk,Result.andThen_ok]
   rfl
  ·rename_i hk
   injection h with h;subst h
   cases hx;cases hy
   simp only[Op.equalIn,Sem.run_bind,iQ ok ht hk,Result.andThen_ok]
   rfl
  ·simp at h
theorem aIe{T:bQ}(ok:T.Ok){t:TypeId}{ι:bS}{w:World}{x y:AV}{v u:Value}{r:Bool}(hx:VR ι x v)(hy:VR ι y u)(h:nZ T t x y=some r):
 (Op.equal t v u).run T.P w= .ok r w:=aFK ok hx hy h 9999
def aKX:AV→Bool
 | .ptr _ _| .sl _ _ _ _ _| .map _=>true
 | _=>false
def uK(op:BinOp)(r:Option Bool):Option AV:=
 match op with
 | .eql=>r.map fun b=> .val (.bool b)
 | .neq=>r.map fun b=> .val (.bool !b)
 | _=>none
def yB(T:bQ)(op:BinOp)(t:TypeId)(xo yo:Operand)(x y:AV):Option AV:=
 match x,y with
 | .val (.int k a),.val (.int k' b)=>
   match op with
   | .shl| .shr=>(rC op k a b).map .val
   | _=>cond (lX k k') ((tE op k a b).map .val) none
 | .val (.string a),.val (.string b)=>(aFV op a b).map .val
 | .agg _,.agg _=>
   match T.ty.get t with
   | some ti=>match ti.eqf with
     | some _=>uK op (eqA T 60 t x y)
     | none=>none
   | none=>none
 | _,_=>
   cond (aKX x||aKX y) (uK op (nZ T t x y))
    (match x,y with
    | .val a,.val b=>(nT T.P (do eqGuard op t xo yo a b;binOp op t a b)).map ofV
    | _,_=>none)
theorem aEK{P:Program}{ι:bS}{M:aC}{w:World}(R:fZ ι M w){op:BinOp}{r:Option Bool}{x:AV}(h:uK op r=some x){t:TypeId}{v u:Value}
 (hb:∀ b,r=some b→(Op.equal t v u).run P w= .ok b w)
 (h1:∀ op',(op'= .eql∨op'= .neq)→binOp op' t v u=(if op'= .eql then (do pure (.bool (← Op.equal t v u))) else (do pure (.bool (!(← Op.equal t v u)))))):
 VS P ι M w (binOp op t v u) x M:=by
 unfold uK at h
 split at h
 ·obtain⟨b,rfl,rfl⟩:=Option.map_eq_some_iff.1 h
  refine⟨ι,w,.bool b,?_,.val _ rfl,bR.refl R⟩
  rw[h1 .eql (.inl rfl)]
  simp[hb b rfl]
 ·obtain⟨b,rfl,rfl⟩:=Option.map_eq_some_iff.1 h
  refine⟨ι,w,.bool (!b),?_,.val _ rfl,bR.refl R⟩
  rw[h1 .neq (.inr rfl)]
  simp[hb b rfl]
 ·simp at h
theorem aD5{op:BinOp}{r:Option Bool}{x:AV}(h:uK op r=some x):op= .eql∨op= .neq:=by
 unfold uK at h
 split at h
 ·exact .inl rfl
 ·exact .inr rfl
 ·simp at h
theorem aKG{T:bQ}(ok:T.Ok){op:BinOp}{t:TypeId}{xo yo:Operand}{ι:bS}{M:aC}{w:World}{x y z:AV}{v u:Value}(R:fZ ι M w)(hx:VR ι x v)(hy:VR ι y u)
 (h:yB T op t xo yo x y=some z):VS T.P ι M w (do eqGuard op t xo yo v u;binOp op t v u) z M:=by
 have pre:∀ {v u:Value} {z:AV},(eqGuard op t xo yo v u).run T.P w= .ok () w→VS T.P ι M w (binOp op t v u) z M→VS T.P ι M w (do eqGuard op t xo yo v u;binOp op t v u) z M:=by
  intro v u z hg ⟨ι',w',r,h1,h2,h3⟩
  exact⟨ι',w',r,by simp only[Sem.run_bind,hg,Result.andThen_ok,h1],h2,h3⟩
 have gd:∀ {v u:Value},(∀ a b,v= .agg a→u= .agg b→False)→(v= .nilIface→u= .nilIface→False)→(eqGuard op t xo yo v u).run T.P w= .ok () w:=by
  intro v u h1 h2
  unfold eqGuard
  cases op <;> first
   | rfl
   | (cases v <;> first
    | rfl
    | (cases u <;> first|rfl|exact (h1 _ _ rfl rfl).elim|exact (h2 rfl rfl).elim))
 unfold yB at h
 split at h
 ·rename_i k a k' b
  cases hx;cases hy
  refine pre (gd (fun _ _ h=>by cases h) (fun h=>by cases h)) ?_
  split at h
  ·obtain⟨r,hr,rfl⟩:=Option.map_eq_some_iff.1 h
   obtain⟨h1,h2⟩:=xN hr t T.P w (k':=k')
   exact⟨ι,w,r,h1,.val _ h2,bR.refl R⟩
  ·obtain⟨r,hr,rfl⟩:=Option.map_eq_some_iff.1 h
   obtain⟨h1,h2⟩:=xN hr t T.P w (k':=k')
   exact⟨ι,w,r,h1,.val _ h2,bR.refl R⟩
  ·rw[cond_eq_ite] at h
   split at h
   ·rename_i hk
    have:=tG hk
    subst this
    obtain⟨r,hr,rfl⟩:=Option.map_eq_some_iff.1 h
    obtain⟨h1,h2⟩:=aHL hr t T.P w
    exact⟨ι,w,r,h1,.val _ h2,bR.refl R⟩
   ·simp at h
 ·rename_i a b
  cases hx;cases hy
  refine pre (gd (fun _ _ h=>by cases h) (fun h=>by cases h)) ?_
  obtain⟨r,hr,rfl⟩:=Option.map_eq_some_iff.1 h
  obtain⟨h1,h2⟩:=aIk hr t T.P w
  exact⟨ι,w,r,h1,.val _ h2,bR.refl R⟩
 ·rename_i xs ys
  split at h
  ·rename_i ti ht
   split at h
   ·rename_i tys he
    have hop:=aD5 h
    have hx':=hx
    have hy':=hy
    cases hx with
    | agg _ vs hxs=>
      cases hy with
      | agg _ us hys=>
        have heqt:T.P.eqGuardType T.P.depth t=false:=by
         obtain⟨fs,_,_,_,_,h5⟩:=(ok.ty t ti ht).2.2.2 tys he
         exact h5
        refine pre ?_ (aEK R h (fun b hb=>aAQ ok 60 Op.maxDepth (by decide) t _ _ _ _ b hb hx' hy') ?_)
        ·rcases hop with rfl|rfl <;> simp[eqGuard,heqt]
        ·rintro op' (rfl|rfl) <;> simp[binOp]
   ·simp at h
  ·simp at h
 ·rename_i hnn hns hna
  rw[cond_eq_ite] at h
  split at h
  ·rename_i hadr
   have hop:=aD5 h
   have hkind:(∀ a b,v= .agg a→u= .agg b→False)∧(v= .nilIface→u= .nilIface→False)∧
    ∀ op',(op'= .eql∨op'= .neq)→binOp op' t v u=(if op'= .eql then (do pure (.bool (← Op.equal t v u))) else (do pure (.bool (!(← Op.equal t v u))))):=by
    unfold uK at h
    have hae:∃ b,nZ T t x y=some b:=by
     split at h
     ·obtain⟨b,hb,_⟩:=Option.map_eq_some_iff.1 h;exact⟨b,hb⟩
     ·obtain⟨b,hb,_⟩:=Option.map_eq_some_iff.1 h;exact⟨b,hb⟩
     ·simp at h
    obtain⟨b,hb⟩:=hae
    unfold nZ at hb
    split at hb
    ·simp at hb
    ·split at hb
     all_goals first
      | (simp at hb;done)
      | (cases hx <;> cases hy <;> refine⟨(fun _ _ h=>by cases h),(fun h=>by cases h),?_⟩ <;> rintro op' (rfl|rfl) <;> rfl)
   exact pre (gd hkind.1 hkind.2.1) (aEK R h (fun b hb=>aIe ok hx hy hb) hkind.2.2)
  ·split at h
   ·rename_i a b _ _ _ _
    cases hx;cases hy
    obtain⟨r,hr,rfl⟩:=Option.map_eq_some_iff.1 h
    exact⟨ι,w,r,uA T.P _ _ hr w,VR.ofV ι r,bR.refl R⟩
   ·simp at h
def bD(T:bQ)(isCap:Bool)(t:TypeId)(x:AV)(M:aC):Option Nat:=
 match T.ty.get t with
 | none=>none
 | some ti=>
   match ti.k,x with
   | .sli _,.sl _ _ n c ex=>cond isCap (match ex with|none=>some c|some _=>none) (some n)
   | .sli _,.val (.slice none n c)=>some (cond isCap c n)
   | .str,.val (.string s)=>cond isCap none (some s.data.toList.length)
   | .ar n _,_=>some n
   | .pt a,.ptr _ _=>
     match T.ty.get a with
     | some ta=>match ta.k with
       | .ar n _=>some n
       | _=>none
     | none=>none
   | .mp _ _,m=>cond isCap none ((gX M m).map List.length)
   | _,_=>none
theorem aIt{T:bQ}(ok:T.Ok){t:TypeId}{ts:Array TypeId}{args:Array Value}{ty:TypeId}(h0:ts[0]? =some t){xv:Value}(ha0:args[0]? =some xv)
 {ι:bS} {M:aC} {w:World} {x:AV} {n:Nat} (R:fZ ι M w) (hx:VR ι x xv) (h:bD T false t x M=some n):(Builtin.len_ ts ty args).run T.P w= .ok (goInt n) w:=by
 unfold bD at h
 split at h
 ·simp at h
 ·rename_i ti ht
  split at h
  ·rename_i e b o n' c ex hk
   simp only[cond_false,Option.some.injEq] at h
   subst h
   obtain⟨a,c',rfl⟩:=vT hx
   simp[Builtin.len_,h0,ha0,cR ok ht hk]
  ·rename_i e n' c hk
   simp only[cond_false,Option.some.injEq] at h
   subst h
   cases hx
   simp[Builtin.len_,h0,ha0,cR ok ht hk]
  ·rename_i s hk
   simp only[cond_false,Option.some.injEq] at h
   subst h
   cases hx
   have h1:s.data.toList.length=s.size:=by rw[Array.length_toList];rfl
   rw[h1]
   simp[Builtin.len_,h0,ha0,mR ok ht hk]
  ·rename_i n' e hk
   simp only[Option.some.injEq] at h
   subst h
   simp[Builtin.len_,h0,ha0,pW ok ht hk]
  ·rename_i a b o hk
   split at h
   ·rename_i ta hta
    split at h
    ·rename_i n' e hka
     simp only[Option.some.injEq] at h
     subst h
     simp[Builtin.len_,h0,ha0,aAA ok ht hk,pW ok hta hka]
    ·simp at h
   ·simp at h
  ·rename_i kt vt hk
   simp only[cond_false] at h
   obtain⟨es,hes,rfl⟩:=Option.map_eq_some_iff.1 h
   obtain⟨ms,he,hcase⟩:=aCi (P:=T.P) R hx hes
   have hlen:=he.length
   rcases hcase with⟨rfl,rfl⟩|⟨b,l,clock,_,hl,hg,rfl,hb,hr⟩
   ·simp[Builtin.len_,h0,ha0,iQ ok ht hk,hlen]
   ·simp[Builtin.len_,h0,ha0,iQ ok ht hk,hr,hlen]
  ·simp at h
theorem aHI{T:bQ}(ok:T.Ok){t:TypeId}{ts:Array TypeId}{args:Array Value}{ty:TypeId}(h0:ts[0]? =some t){xv:Value}(ha0:args[0]? =some xv)
 {ι:bS} {M:aC} {w:World} {x:AV} {n:Nat} (hx:VR ι x xv) (h:bD T true t x M=some n):(Builtin.cap_ ts ty args).run T.P w= .ok (goInt n) w:=by
 unfold bD at h
 split at h
 ·simp at h
 ·rename_i ti ht
  split at h
  ·rename_i e b o n' c ex hk
   simp only[cond_true] at h
   split at h
   ·injection h with h;subst h
    cases hx
    simp[Builtin.cap_,h0,ha0,cR ok ht hk]
   ·simp at h
  ·rename_i e n' c hk
   simp only[cond_true,Option.some.injEq] at h
   subst h
   cases hx
   simp[Builtin.cap_,h0,ha0,cR ok ht hk]
  ·simp at h
  ·rename_i n' e hk
   simp only[Option.some.injEq] at h
   subst h
   simp[Builtin.cap_,h0,ha0,pW ok ht hk]
  ·rename_i a b o hk
   split at h
   ·rename_i ta hta
    split at h
    ·rename_i n' e hka
     simp only[Option.some.injEq] at h
     subst h
     simp[Builtin.cap_,h0,ha0,aAA ok ht hk,pW ok hta hka]
    ·simp at h
   ·simp at h
  ·simp at h
  ·simp at h
def FrR(ι:bS)(fr:Tr AV)(a:Act):Prop:=∀ i,VR ι ((fr.get i).getD eY) (a.tmps.getD i undef)
theorem gO{ι:bS}{fr:Tr AV}{a:Act}(h:FrR ι fr a):∀ x,VR ι (opnd fr x) (a.eval x)
 | .tmp i=>h i
 | .const v=>VR.ofV ι v
 | .global _=> .val _ rfl
 | .func f=> .fn f [] [] #[] #[] .nil .nil
theorem qI{ι:bS}{fr:Tr AV}{a:Act}(h:FrR ι fr a):∀ xs:List Operand,VRs ι (xs.map (opnd fr)) (xs.map a.eval)
 | []=> .nil
 | x::xs=> .cons _ _ _ _ (gO h x) (qI h xs)
theorem uI{ι:bS}{fr:Tr AV}{a:Act}(h:FrR ι fr a):∀ xs:List (Nat×Operand),PVR ι (xs.map fun p=>(p.1,opnd fr p.2)) (xs.map fun p=>(p.1,a.eval p.2))
 | []=> .nil
 | (i,x)::xs=> .cons i _ _ _ _ (gO h x) (uI h xs)
theorem aAf{ι:bS}{fr:Tr AV}{a:Act}(h:FrR ι fr a):∀ x:Option Operand,OVR ι (x.map (opnd fr)) (x.map a.eval)
 | none=> .none
 | some x=> .some _ _ (gO h x)
def dN(T:bQ)(t:TypeId)(x:AV)(lo hi mx:Option AV):Option AV:=
 match T.ty.get t with
 | none=>none
 | some ti=>
   match ti.k,x with
   | .ar n e,.ptr b o=>
     match T.ty.get e with
     | none=>none
     | some te=>
       match sliceB n n lo hi mx with
       | none=>none
       | some (l,h,m)=>some (.sl b (cond (Nat.beq m l) o (o+l*te.size)) (h-l) (m-l) none)
   | .ar _ _,_=>none
   | _,_=>pH T t x lo hi mx
theorem aCO{T:bQ}(ok:T.Ok){t:TypeId}{ι:bS}{M:aC}{w:World}{x y:AV}{v:Value}{lo hi mx:Option AV}{lov hiv mxv:Option Value}
 (R:fZ ι M w) (hx:VR ι x v) (h1:OVR ι lo lov) (h2:OVR ι hi hiv) (h3:OVR ι mx mxv) (h:dN T t x lo hi mx=some y):
 VS T.P ι M w (Instr.sliceAt t v lov hiv mxv) y M:=by
 unfold dN at h
 split at h
 ·simp at h
 ·rename_i ti ht
  split at h
  ·rename_i n e b o hk
   split at h
   ·simp at h
   ·rename_i te hte
    split at h
    ·simp at h
    ·rename_i l hh m hB
     injection h with h;subst h
     cases hx with
     | ptr _ _ lc hl=>
       obtain⟨hr,hm,_⟩:=iZ (P:=T.P) (w:=w) h1 h2 h3 (Nat.le_refl n) hB false
       have hm':(if mx.isSome then m else n)=m:=by
        cases hs:mx.isSome with
        | true=>rfl
        | false=>exact (hm hs).symm
       rw[hm'] at hr
       rw[zX]
       by_cases hml:m=l
       ·rw[if_pos hml]
        refine⟨ι,w,_,?_,.slE b o (hh-l) (m-l) lc hl,bR.refl R⟩
        simp[Instr.sliceAt,pW ok ht hk,Instr.sureAddr,hr,bY ok hte,hml]
       ·rw[if_neg hml]
        refine⟨ι,w,_,?_,.slE b (o+l*te.size) (hh-l) (m-l) lc hl,bR.refl R⟩
        simp[Instr.sliceAt,pW ok ht hk,Instr.sureAddr,hr,bY ok hte,hml,eX,Nat.add_assoc]
  ·simp at h
  ·rename_i hn1 hn2
   obtain⟨ι',w',u,h4,h5,h6⟩:=aFh ok R hx h1 h2 h3 h
   refine⟨ι',w',u,?_,h5,h6⟩
   rw[← h4]
   obtain⟨d,hd,hdr,hdk⟩:=fF ok ht (w:=w)
   unfold Instr.sliceAt
   simp only[Sem.run_bind,hdr,Result.andThen_ok]
   cases d <;> first|rfl|skip
   rename_i n e
   exfalso
   generalize hkk:ti.k=kk at hdk
   cases kk <;> first|exact hdk|exact hn2 _ _ hkk|exact hn1 _ _ hkk|exact hn2 _ _ _ _ hkk rfl
def cJ(T:bQ)(b:Builtin)(ts:Array TypeId)(ty:TypeId)(args:List AV)(M:aC):Option (AV×aC):=
 match b,args with
 | .len,[x]=>match ts[0]? with
   | some t=>(bD T false t x M).map fun (n:Nat)=>(.val (.int .i64 n),M)
   | none=>none
 | .cap,[x]=>match ts[0]? with
   | some t=>(bD T true t x M).map fun (n:Nat)=>(.val (.int .i64 n),M)
   | none=>none
 | .append,[s,x]=>match ts[0]?,ts[1]? with
   | some t1,some t2=>aR T t1 t2 s x M
   | _,_=>none
 | .copy,[d,s]=>match ts[0]? with
   | some t1=>hG T t1 d s M
   | none=>none
 | .clear,[x]=>match ts[0]? with
   | some t=>(uF T t x M).map fun M'=>(.tup [],M')
   | none=>none
 | .delete,[m,k]=>match ts[0]? with
   | some t=>(qS T t m k M).map fun M'=>(.tup [],M')
   | none=>none
 | .min,args=>match jG args with
   | some vs=>(nT T.P (Builtin.min_ ts ty ⟨vs⟩)).map fun v=>(ofV v,M)
   | none=>none
 | .max,args=>match jG args with
   | some vs=>(nT T.P (Builtin.max_ ts ty ⟨vs⟩)).map fun v=>(ofV v,M)
   | none=>none
 | .real,args=>match jG args with
   | some vs=>(nT T.P (Builtin.real_ ts ty ⟨vs⟩)).map fun v=>(ofV v,M)
   | none=>none
 | .imag,args=>match jG args with
   | some vs=>(nT T.P (Builtin.imag_ ts ty ⟨vs⟩)).map fun v=>(ofV v,M)
   | none=>none
 | .complex,args=>match jG args with
   | some vs=>(nT T.P (Builtin.complex_ ts ty ⟨vs⟩)).map fun v=>(ofV v,M)
   | none=>none
 | _,_=>none
def gJ(P:Program)(ι:bS)(M:aC)(w:World)(s:Sem Next)(x:AV)(M':aC):Prop:=
 ∃ ι' w' n v,s.run P w= .ok n w'∧(n= .value v∨(n= .skip∧v=undef))∧VR ι' x v∧bR ι M w ι' M' w'
theorem gJ.of{P:Program}{ι:bS}{M:aC}{w:World}{s:Sem Value}{x:AV}{M':aC}(h:VS P ι M w s x M'):gJ P ι M w (do pure (.value (← s))) x M':=by
 obtain⟨ι',w',v,h1,h2,h3⟩:=h
 exact⟨ι',w',.value v,v,by simp[h1],.inl rfl,h2,h3⟩
theorem gJ.unit{P:Program}{ι:bS}{M:aC}{w:World}{s:Sem Unit}{M':aC}{w':World}(h:s.run P w= .ok () w')(hs:bR ι M w ι M' w'):
 gJ P ι M w (do s;pure .skip) eY M':=⟨ι,w',.skip,undef,by simp[h],.inr ⟨rfl,rfl⟩,VR.undef ι,hs⟩
theorem VS.pure{P:Program}{ι:bS}{M:aC}{w:World}(R:fZ ι M w){s:Sem Value}{v:Value}(h:nT P s=some v):VS P ι M w s (ofV v) M:=
 ⟨ι,w,v,uA P s v h w,VR.ofV ι v,bR.refl R⟩
theorem VRs.one{ι:bS}{x:AV}{vs:List Value}(h:VRs ι [x] vs):∃ v,vs=[v]∧VR ι x v:=by
 cases h with
 | cons _ v _ vs h hs=>cases hs;exact⟨v,rfl,h⟩
theorem VRs.two{ι:bS}{x y:AV}{vs:List Value}(h:VRs ι [x,y] vs):∃ v u,vs=[v,u]∧VR ι x v∧VR ι y u:=by
 cases h with
 | cons _ v _ vs h hs=>
   obtain⟨u,rfl,hu⟩:=VRs.one hs
   exact⟨v,u,rfl,h,hu⟩
theorem aDp{T:bQ}(ok:T.Ok){b:Builtin}{ts:Array TypeId}{ty:TypeId}{cs:Array Bool}{ι:bS}{M M':aC}{w:World}{xs:List AV}{vs:Array Value}{z:AV}(R:fZ ι M w)
 (hx:VRs ι xs vs.toList) (h:cJ T b ts ty xs M=some (z,M')):gJ T.P ι M w (builtin b ts ty cs vs) z M':=by
 unfold cJ at h
 split at h
 ·obtain⟨v,hv,hxv⟩:=hx.one
  have hv0:vs[0]? =some v:=by rw[← Array.getElem?_toList,hv];rfl
  split at h
  ·rename_i t ht
   obtain⟨n,hn,he⟩:=Option.map_eq_some_iff.1 h
   injection he with h1 h2;subst h1;subst h2
   exact gJ.of (s:=Builtin.len_ ts ty vs) ⟨ι,w,_,aIt ok ht hv0 R hxv hn,.val _ rfl,bR.refl R⟩
  ·simp at h
 ·obtain⟨v,hv,hxv⟩:=hx.one
  have hv0:vs[0]? =some v:=by rw[← Array.getElem?_toList,hv];rfl
  split at h
  ·rename_i t ht
   obtain⟨n,hn,he⟩:=Option.map_eq_some_iff.1 h
   injection he with h1 h2;subst h1;subst h2
   exact gJ.of (s:=Builtin.cap_ ts ty vs) ⟨ι,w,_,aHI ok ht hv0 hxv hn,.val _ rfl,bR.refl R⟩
  ·simp at h
 ·obtain⟨v,u,hv,hxv,hxu⟩:=hx.two
  have hv0:vs[0]? =some v:=by rw[← Array.getElem?_toList,hv];rfl
  have hv1:vs[1]? =some u:=by rw[← Array.getElem?_toList,hv];rfl
  split at h
  ·rename_i t1 t2 ht1 ht2
   exact gJ.of (s:=Builtin.append_ ts ty vs) (aEz ok ht1 ht2 hv0 hv1 R hxv hxu h)
  ·simp at h
 ·obtain⟨v,u,hv,hxv,hxu⟩:=hx.two
  have hv0:vs[0]? =some v:=by rw[← Array.getElem?_toList,hv];rfl
  have hv1:vs[1]? =some u:=by rw[← Array.getElem?_toList,hv];rfl
  split at h
  ·rename_i t1 ht1
   exact gJ.of (s:=Builtin.copy_ ts ty vs) (aIf ok ht1 hv0 hv1 R hxv hxu h)
  ·simp at h
 ·obtain⟨v,hv,hxv⟩:=hx.one
  have hv0:vs[0]? =some v:=by rw[← Array.getElem?_toList,hv];rfl
  split at h
  ·rename_i t ht
   obtain⟨n,hn,he⟩:=Option.map_eq_some_iff.1 h
   injection he with h1 h2;subst h1;subst h2
   exact gJ.of (s:=Builtin.clear_ ts ty vs) (aGd ok ht hv0 R hxv hn)
  ·simp at h
 ·obtain⟨v,u,hv,hxv,hxu⟩:=hx.two
  have hv0:vs[0]? =some v:=by rw[← Array.getElem?_toList,hv];rfl
  have hv1:vs[1]? =some u:=by rw[← Array.getElem?_toList,hv];rfl
  split at h
  ·rename_i t ht
   obtain⟨n,hn,he⟩:=Option.map_eq_some_iff.1 h
   injection he with h1 h2;subst h1;subst h2
   exact gJ.of (s:=Builtin.delete_ ts ty vs) (aEt ok ht hv0 hv1 R hxv hxu hn)
  ·simp at h
 all_goals first
  | (simp at h;done)
  | (split at h
     ·rename_i us hus
      obtain⟨n,hn,he⟩:=Option.map_eq_some_iff.1 h
      injection he with h1 h2;subst h1;subst h2
      have hvu:vs=⟨us⟩:=Array.ext' (xY hx hus)
      subst hvu
      exact gJ.of (VS.pure R hn)
     ·simp at h)
def bX(T:bQ)(fr:Tr AV)(o:Oper)(M:aC):Option (AV×aC):=
 match o.op with
 | .move x=>some (opnd fr x,M)
 | .assign x=>some (opnd fr x,M)
 | .pick c x y=>match opnd fr c with
   | .val (.bool b)=>some (cond b (opnd fr x) (opnd fr y),M)
   | _=>none
 | .alloc t=>aC0 T t M
 | .box _ x=>some (.ptr M.next 0,M.new (.cells (opnd fr x).cells true))
 | .build t ps=>(iA T t (ps.toList.map fun p=>(p.1,opnd fr p.2))).map fun v=>(v,M)
 | .buildSlice t n ps=>iG T t n (ps.toList.map fun p=>(p.1,opnd fr p.2)) M
 | .load t x=>(aY T t (opnd fr x) M).map fun v=>(v,M)
 | .store t x y=>(gT T t (opnd fr x) (opnd fr y) M).map fun M'=>(eY,M')
 | .nilCheck x=>match opnd fr x with
   | .ptr b o=>some (.ptr b o,M)
   | .fn f a b=>some (.fn f a b,M)
   | _=>none
 | .binOp op t x y _=>(yB T op t x y (opnd fr x) (opnd fr y)).map fun v=>(v,M)
 | .unOp op _ x=>match opnd fr x with
   | .val v=>(nT T.P (Op.unary op v)).map fun u=>(ofV u,M)
   | _=>none
 | .convert s d x=>nY T s d (opnd fr x) M
 | .makeFunc (.func f) a b=>some (.fn f (a.toList.map (opnd fr)) (b.toList.map (opnd fr)),M)
 | .makeMap _ none=>some (.map M.next,M.new (.map []))
 | .makeSlice t l c=>cU T t (opnd fr l) (opnd fr c) M
 | .slice t x lo hi mx=>(dN T t (opnd fr x) (lo.map (opnd fr)) (hi.map (opnd fr)) (mx.map (opnd fr))).map fun v=>(v,M)
 | .fieldAddr t x f=>(eZf T t (opnd fr x) f).map fun v=>(v,M)
 | .field t x f=>(aCP T t (opnd fr x) f).map fun v=>(v,M)
 | .indexAddr t x i=>(bJ T t (opnd fr x) (opnd fr i)).map fun v=>(v,M)
 | .index t x i=>(tZ T t (opnd fr x) (opnd fr i)).map fun v=>(v,M)
 | .lookup t x i ok=>(fT T t (opnd fr x) (opnd fr i) ok M).map fun v=>(v,M)
 | .mapUpdate t m k v=>(eJ T t (opnd fr m) (opnd fr k) (opnd fr v) M).map fun M'=>(eY,M')
 | .insert t m k v=>(eJ T t (opnd fr m) (opnd fr k) (opnd fr v) M).map fun M'=>(eY,M')
 | .extract x i=>match opnd fr x with
   | .tup vs=>(vs[i]?).map fun v=>(v,M)
   | _=>none
 | .range t x=>match T.ty.get t,opnd fr x with
   | some ti,.val (.string s)=>match ti.k with
     | .str=>some (.ptr M.next 0,M.new (.sit s 0))
     | _=>none
   | _,_=>none
 | .next x true=>match opnd fr x with
   | .ptr b 0=>match M.get b with
     | some (.sit s pos)=>cond (Nat.blt pos s.size)
      (some (.tup [.val (.bool true),.val (.int .i64 pos),.val (.int .i32 (Utf8.decode s pos).1)],M.put b (.sit s (pos+(Utf8.decode s pos).2))))
      (some (.tup [.val (.bool false)],M))
     | _=>none
   | _=>none
 | .call c=>match c.callee with
   | .builtin b=>cJ T b c.argTypes o.type (c.args.toList.map (opnd fr)) M
   | _=>none
 | _=>none
set_option maxHeartbeats 4000000 in
theorem wG{T:bQ}(ok:T.Ok){fr:Tr AV}{a:Act}{o:Oper}{ι:bS}{M M':aC}{w:World}{x:AV}(R:fZ ι M w)(hf:FrR ι fr a)(h:bX T fr o M=some (x,M')):
 gJ T.P ι M w (execOp a.eval o) x M':=by
 obtain⟨dst,op,type,pos,after,guard⟩:=o
 unfold bX at h
 unfold execOp
 simp only at h ⊢
 have H:=fun x=>gO hf x
 cases op <;> simp only at h ⊢ <;> try (simp at h;done)
 case move y=>
  injection h with h;injection h with h1 h2;subst h1;subst h2
  exact⟨ι,w,_,_,rfl,.inl rfl,H y,bR.refl R⟩
 case assign y=>
  injection h with h;injection h with h1 h2;subst h1;subst h2
  exact⟨ι,w,_,_,rfl,.inl rfl,H y,bR.refl R⟩
 case pick c y z=>
  have hc:=H c
  split at h
  ·rename_i b hb
   rw[hb] at hc
   injection h with h;injection h with h1 h2;subst h1;subst h2
   generalize a.eval c=cv at hc
   cases hc
   cases b with
   | true=>exact⟨ι,w,.value (a.eval y),_,by simp[asBool],.inl rfl,H y,bR.refl R⟩
   | false=>exact⟨ι,w,.value (a.eval z),_,by simp[asBool],.inl rfl,H z,bR.refl R⟩
  ·simp at h
 case alloc t=>exact gJ.of (aFP ok R h)
 case box t y=>
  injection h with h;injection h with h1 h2;subst h1;subst h2
  exact gJ.of (aKE R (H y))
 case build t ps=>
  obtain⟨v,hv,he⟩:=Option.map_eq_some_iff.1 h
  injection he with h1 h2;subst h1;subst h2
  refine gJ.of (aFZ ok R (qs:=ps.map fun (i,x)=>(i,a.eval x)) ?_ hv)
  rw[Array.toList_map]
  exact uI hf ps.toList
 case buildSlice t n ps=>
  refine gJ.of (yP ok R (qs:=ps.map fun (i,x)=>(i,a.eval x)) ?_ h)
  rw[Array.toList_map]
  exact uI hf ps.toList
 case insert t m k v=>
  obtain⟨v',hv,he⟩:=Option.map_eq_some_iff.1 h
  injection he with h1 h2;subst h1;subst h2
  obtain⟨w',h3,h4⟩:=rB ok R (H m) (H k) (H v) hv
  exact gJ.unit h3 h4
 case load t y=>
  obtain⟨v,hv,he⟩:=Option.map_eq_some_iff.1 h
  injection he with h1 h2;subst h1;subst h2
  exact gJ.of (aB3 ok R (H y) hv)
 case store t y z=>
  obtain⟨v,hv,he⟩:=Option.map_eq_some_iff.1 h
  injection he with h1 h2;subst h1;subst h2
  obtain⟨w',h3,h4⟩:=aGc ok R (H y) (H z) hv
  exact gJ.unit h3 h4
 case nilCheck y=>
  have hy:=H y
  split at h
  ·rename_i b o hb
   rw[hb] at hy
   injection h with h;injection h with h1 h2;subst h1;subst h2
   generalize a.eval y=yv at hy
   have hy':=hy
   cases hy
   exact⟨ι,w,_,_,rfl,.inl rfl,hy',bR.refl R⟩
  ·rename_i f b c hb
   rw[hb] at hy
   injection h with h;injection h with h1 h2;subst h1;subst h2
   generalize a.eval y=yv at hy
   have hy':=hy
   cases hy
   exact⟨ι,w,_,_,rfl,.inl rfl,hy',bR.refl R⟩
  ·simp at h
 case binOp op t y z yt=>
  obtain⟨v,hv,he⟩:=Option.map_eq_some_iff.1 h
  injection he with h1 h2;subst h1;subst h2
  exact gJ.of (aKG ok R (H y) (H z) hv)
 case unOp op t y=>
  have hy:=H y
  split at h
  ·rename_i v hb
   rw[hb] at hy
   obtain⟨u,hu,he⟩:=Option.map_eq_some_iff.1 h
   injection he with h1 h2;subst h1;subst h2
   generalize a.eval y=yv at hy
   cases hy
   exact gJ.of (VS.pure R hu)
  ·simp at h
 case convert s d y=>exact gJ.of (aH2 ok R (H y) h)
 case makeFunc fn b c=>
  cases fn <;> simp only at h <;> try (simp at h;done)
  rename_i f
  injection h with h;injection h with h1 h2;subst h1;subst h2
  refine gJ.of ⟨ι,w,_,rfl,.fn f _ _ _ _ ?_ ?_,bR.refl R⟩
  ·rw[Array.toList_map];exact qI hf b.toList
  ·rw[Array.toList_map];exact qI hf c.toList
 case makeMap t r=>
  cases r <;> simp only at h <;> try (simp at h;done)
  injection h with h;injection h with h1 h2;subst h1;subst h2
  exact gJ.of (aC7 R)
 case makeSlice t l c=>exact gJ.of (aAS ok R (H l) (H c) h)
 case slice t y lo hi mx=>
  obtain⟨v,hv,he⟩:=Option.map_eq_some_iff.1 h
  injection he with h1 h2;subst h1;subst h2
  exact gJ.of (aCO ok R (H y) (aAf hf lo) (aAf hf hi) (aAf hf mx) hv)
 case fieldAddr t y f=>
  obtain⟨v,hv,he⟩:=Option.map_eq_some_iff.1 h
  injection he with h1 h2;subst h1;subst h2
  exact gJ.of (aAl ok R (H y) hv)
 case field t y f=>
  obtain⟨v,hv,he⟩:=Option.map_eq_some_iff.1 h
  injection he with h1 h2;subst h1;subst h2
  exact gJ.of (aFm ok R (H y) hv)
 case indexAddr t y i=>
  obtain⟨v,hv,he⟩:=Option.map_eq_some_iff.1 h
  injection he with h1 h2;subst h1;subst h2
  exact gJ.of (aAH ok R (H y) (H i) hv)
 case index t y i=>
  obtain⟨v,hv,he⟩:=Option.map_eq_some_iff.1 h
  injection he with h1 h2;subst h1;subst h2
  exact gJ.of (aE0 ok R (H y) (H i) hv)
 case lookup t y i c=>
  obtain⟨v,hv,he⟩:=Option.map_eq_some_iff.1 h
  injection he with h1 h2;subst h1;subst h2
  exact gJ.of (aDB ok R (H y) (H i) hv)
 case mapUpdate t m k v=>
  obtain⟨v',hv,he⟩:=Option.map_eq_some_iff.1 h
  injection he with h1 h2;subst h1;subst h2
  obtain⟨w',h3,h4⟩:=rB ok R (H m) (H k) (H v) hv
  exact gJ.unit h3 h4
 case range t y=>
  have hy:=H y
  split at h
  ·rename_i ti s ht hb
   rw[hb] at hy
   split at h
   ·rename_i hk
    injection h with h;injection h with h1 h2;subst h1;subst h2
    generalize a.eval y=yv at hy
    cases hy
    have hs:=bR.alloc R (.sit s 0) (.stringIter s 0) ⟨w.heap.size,0,0⟩ rfl ⟨rfl,rfl,rfl⟩
    refine gJ.of ⟨_,_,.pointer (some ⟨w.heap.size,0,none⟩),?_,.ptr M.next 0 ⟨w.heap.size,0,0⟩ (by simp),hs⟩
    simp[Instr.range,mR ok ht hk]
   ·simp at h
  ·simp at h
 case next y b=>
  cases b <;> simp only at h <;> try (simp at h;done)
  have hy:=H y
  split at h
  ·rename_i b hb
   rw[hb] at hy
   split at h
   ·rename_i s p hg
    generalize a.eval y=yv at hy
    cases hy with
    | ptr _ _ l hl=>
      obtain⟨l',hl',hrow⟩:=R.live b _ hg
      rw[hl] at hl';injection hl' with hl';subst hl'
      have hob:w.heap[l.blk]? =some (.stringIter s p)∧l.base=0:=by
       generalize w.heap[l.blk]? =ob at hrow
       cases ob with
       | none=>exact hrow.elim
       | some ob=>
         cases ob <;> first|exact hrow.elim|(obtain⟨g1,g2,g3⟩:=hrow;subst g1;subst g2;exact⟨rfl,g3⟩)
      obtain⟨hob,hbase⟩:=hob
      have hget:(getObj l.blk).run T.P w= .ok (.stringIter s p) w:=by simp[getObj,Sem.run,hob]
      have hlt:l.blk<w.heap.size:=by
       rcases Nat.lt_or_ge l.blk w.heap.size with h'|h'
       ·exact h'
       ·rw[Array.getElem?_eq_none h'] at hob;simp at hob
      rw[cond_eq_ite] at h
      split at h
      ·rename_i hps
       have hps:p<s.size:=Nat.le_of_ble_eq_true hps
       injection h with h;injection h with h1 h2;subst h1;subst h2
       refine gJ.of ⟨ι,{ w with heap:=w.heap.setIfInBounds l.blk (.stringIter s (p+(Utf8.decode s p).2)) },.tuple #[.bool true,.int .i64 p,.int .i32 (Utf8.decode s p).1],?_,
        .tup _ _ (.cons _ _ _ _ (.val _ rfl) (.cons _ _ _ _ (.val _ rfl) (.cons _ _ _ _ (.val _ rfl) .nil))),?_⟩
       ·have hset:(setObj l.blk (.stringIter s (p+(Utf8.decode s p).2))).run T.P w= .ok () { w with heap:=w.heap.setIfInBounds l.blk (.stringIter s (p+(Utf8.decode s p).2)) }:=by
         simp[setObj,Sem.run,hob]
        simp only[Instr.next,hbase,Nat.add_zero,Sem.run_bind,hget,Result.andThen_ok,hps,if_true,hset,Sem.run_pure,goInt]
       ·refine bR.write R hg rfl hl (by simp) ?_ ?_ rfl rfl rfl
        ·intro k hk'
         simp only
         rw[Array.getElem?_setIfInBounds_ne (fun h=>hk' h.symm)]
        ·simp only[Array.getElem?_setIfInBounds_self_of_lt hlt]
         exact⟨rfl,rfl,hbase⟩
      ·rename_i hps
       have hps:¬ p<s.size:=fun he=>hps (Nat.ble_eq.mpr he)
       injection h with h;injection h with h1 h2;subst h1;subst h2
       refine gJ.of ⟨ι,w,.tuple #[.bool false],?_,.tup _ _ (.cons _ _ _ _ (.val _ rfl) .nil),bR.refl R⟩
       simp only[Instr.next,hbase,Nat.add_zero,Sem.run_bind,hget,Result.andThen_ok,hps,if_false,Sem.run_pure]
   ·simp at h
  ·simp at h
 case extract y i=>
  have hy:=H y
  split at h
  ·rename_i vs hb
   rw[hb] at hy
   obtain⟨u,hu,he⟩:=Option.map_eq_some_iff.1 h
   injection he with h1 h2;subst h1;subst h2
   generalize a.eval y=yv at hy
   cases hy with
   | tup _ us hus=>
     obtain⟨q,hq,hqr⟩:=hus.get i u hu
     have hq':us[i]? =some q:=by simpa using hq
     exact gJ.of ⟨ι,w,q,by simp[Instr.extract,hq'],hqr,bR.refl R⟩
  ·simp at h
 case call c=>
  split at h
  ·rename_i b hb
   have:=aDp ok (b:=b) (ts:=c.argTypes) (ty:=type) (cs:=c.args.map fun| .const _=>true|_=>false) (vs:=c.args.map a.eval) R (by rw[Array.toList_map];exact qI hf c.args.toList) h
   obtain⟨ι',w',n,v,h1,h2,h3,h4⟩:=this
   refine⟨ι',w',n,v,?_,h2,h3,h4⟩
   simp only[resolve,hb,Sem.run_bind,Sem.run_pure,Result.andThen_ok,invoke]
   exact h1
  ·simp at h
structure St where
 n:Nat
 t:Tr AV
 m:aC
def tF(ι:bS)(st:St)(a:Act)(w:World):Prop:=a.tmps.size=st.n∧FrR ι st.t a∧a.defers=[]∧fZ ι st.m w
inductive Ex where
 | normal
 | exit (id:Nat)
 | goto (l:Nat)
 | ret
def Ex.c:Ex→Exit
 | .normal=> .normal
 | .exit i=> .exit i
 | .goto l=> .goto l
 | .ret=> .ret
def iM(ι:bS)(m:aC)(w:World)(Q:Ex→St→Prop):Exit→Act→World→Prop:=
 fun e a' w'=>∃ ι' ex st',e=ex.c∧tF ι' st' a' w'∧bR ι m w ι' st'.m w'∧Q ex st'
def mL(P:Program)(c:Code)(st:St)(Q:Ex→St→Prop):Prop:=
 ∀ ι a w,tF ι st a w→c.wp P (iM ι st.m w Q) a w
def aB(P:Program)(f:FuncId)(args:List AV)(M:aC)(Q:AV→aC→Prop):Prop:=
 ∀ ι w (vs:Array Value),VRs ι args vs.toList→fZ ι M w→
   Calls P f vs w fun e w'=>∃ ι' v x M',e= .returned v∧VR ι' x v∧bR ι M w ι' M' w'∧Q x M'
theorem aB.mono{P:Program}{f:FuncId}{args:List AV}{M:aC}{Q Q':AV→aC→Prop}(h:aB P f args M Q)(hq:∀ x M',Q x M'→Q' x M'):aB P f args M Q':=
 fun ι w vs hv R=>(h ι w vs hv R).mono fun _ _ ⟨ι',v,x,M',h1,h2,h3,h4⟩=>⟨ι',v,x,M',h1,h2,h3,hq x M' h4⟩
theorem iM.trans{ι ι1:bS}{m m1:aC}{w w1:World}{Q:Ex→St→Prop}(S:bR ι m w ι1 m1 w1){e:Exit}{a:Act}{w':World}(h:iM ι1 m1 w1 Q e a w'):iM ι m w Q e a w':=by
 obtain⟨ι',ex,st',h1,h2,h3,h4⟩:=h
 exact⟨ι',ex,st',h1,h2,S.trans h3,h4⟩
section rules
variable {P:Program} {st:St} {Q Q':Ex→St→Prop}
theorem jT{c:Code}(h:mL P c st Q)(hq:∀ ex st',Q ex st'→Q' ex st'):mL P c st Q':=fun ι a w hs=>
 wp_mono (h ι a w hs) fun _ _ _ ⟨ι',ex,st',h1,h2,h3,h4⟩=>⟨ι',ex,st',h1,h2,h3,hq ex st' h4⟩
theorem aA4(h:Q .normal st):mL P .skip st Q:=fun ι _ _ hs=>wp_skip ⟨ι,.normal,st,rfl,hs,bR.refl hs.2.2.2,h⟩
theorem aBH{l:Nat}(h:Q .normal st):mL P (.label l) st Q:=fun ι _ _ hs=>wp_label ⟨ι,.normal,st,rfl,hs,bR.refl hs.2.2.2,h⟩
theorem aKT{i:Nat}(h:Q (.exit i) st):mL P (.exit i) st Q:=fun ι _ _ hs=>wp_exit ⟨ι,.exit i,st,rfl,hs,bR.refl hs.2.2.2,h⟩
theorem aKh{l:Nat}(h:Q (.goto l) st):mL P (.goto l) st Q:=fun ι _ _ hs=>wp_goto ⟨ι,.goto l,st,rfl,hs,bR.refl hs.2.2.2,h⟩
theorem aMj(h:Q .ret st):mL P .ret st Q:=fun ι _ _ hs=>wp_ret ⟨ι,.ret,st,rfl,hs,bR.refl hs.2.2.2,h⟩
def andThen(K:St→Prop)(Q:Ex→St→Prop):Ex→St→Prop
 | .normal,st=>K st
 | ex,st=>Q ex st
theorem iM.then{ι:bS}{m:aC}{w:World}{c:Code}{e:Exit}{a:Act}{w':World}(h:iM ι m w (andThen (fun st=>mL P c st Q) Q) e a w'):
 Exit.then (c.wp P (iM ι m w Q)) (iM ι m w Q) e a w':=by
 obtain⟨ι',ex,st',rfl,h2,h3,h4⟩:=h
 cases ex with
 | normal=>exact wp_mono (h4 ι' a w' h2) fun _ _ _=>iM.trans h3
 | exit i=>exact⟨ι',.exit i,st',rfl,h2,h3,h4⟩
 | goto l=>exact⟨ι',.goto l,st',rfl,h2,h3,h4⟩
 | ret=>exact⟨ι',.ret,st',rfl,h2,h3,h4⟩
theorem tV{x y:Code}(h:mL P x st (andThen (fun st=>mL P y st Q) Q)):mL P (.seq x y) st Q:=fun ι a w hs=>
 wp_seq (wp_mono (h ι a w hs) fun _ _ _=>iM.then)
theorem aKk{c:Operand}{x y:Code}{b:Bool}(hc:opnd st.t c= .val (.bool b))(h:mL P (cond b x y) st Q):mL P (.cond c x y) st Q:=fun ι a w hs=>by
 have hv:=gO hs.2.1 c
 rw[hc] at hv
 have he:a.eval c= .bool b:=by
  generalize a.eval c=v at hv
  cases hv;rfl
 refine wp_cond he ?_
 have:=h ι a w hs
 cases b <;> exact this
def nV(id:Nat)(Q:Ex→St→Prop):Ex→St→Prop
 | .exit i,st=>if i=id then Q .normal st else Q (.exit i) st
 | ex,st=>Q ex st
theorem aHJ{id:Nat}{c:Code}(h:mL P c st (nV id Q)):mL P (.block id c) st Q:=fun ι a w hs=>
 wp_block (wp_mono (h ι a w hs) fun e a' w' ⟨ι',ex,st',h1,h2,h3,h4⟩=>by
  subst h1
  cases ex with
  | normal=>exact⟨ι',.normal,st',rfl,h2,h3,h4⟩
  | exit i=>
    simp only[Ex.c,Exit.inBlock]
    simp only[nV] at h4
    split
    ·rename_i hi
     rw[if_pos hi] at h4
     exact⟨ι',.normal,st',rfl,h2,h3,h4⟩
    ·rename_i hi
     rw[if_neg hi] at h4
     exact⟨ι',.exit i,st',rfl,h2,h3,h4⟩
  | goto l=>exact⟨ι',.goto l,st',rfl,h2,h3,h4⟩
  | ret=>exact⟨ι',.ret,st',rfl,h2,h3,h4⟩)
def RdA(P:Program)(c:Code)(Q:Ex→St→Prop):Nat→St→Prop
 | 0,_=>False
 | n+1,st=>mL P c st (andThen (RdA P c Q n) Q)
theorem aBB{c:Code}:∀ (n:Nat) (st:St),RdA P c Q n st→∀ ι0 m0 w0 ι a w,bR ι0 m0 w0 ι st.m w→tF ι st a w→Code.rounds P c (iM ι0 m0 w0 Q) n a w
 | 0,_,h,_,_,_,_,_,_,_,_=>h.elim
 | n+1,st,h,ι0,m0,w0,ι,a,w,S,hs=>by
   show c.wp P (Exit.then (Code.rounds P c (iM ι0 m0 w0 Q) n) (iM ι0 m0 w0 Q)) a w
   refine wp_mono (h ι a w hs) ?_
   rintro e a' w' ⟨ι',ex,st',rfl,h2,h3,h4⟩
   cases ex with
   | normal=>exact aBB n st' h4 ι0 m0 w0 ι' a' w' (S.trans h3) h2
   | exit i=>exact⟨ι',.exit i,st',rfl,h2,S.trans h3,h4⟩
   | goto l=>exact⟨ι',.goto l,st',rfl,h2,S.trans h3,h4⟩
   | ret=>exact⟨ι',.ret,st',rfl,h2,S.trans h3,h4⟩
theorem aF6{c:Code}(n:Nat)(h:RdA P c Q n st):mL P (.loop c) st Q:=fun ι a w hs=>
 wp_loop_rounds n (aBB n st h ι st.m w ι a w (bR.refl hs.2.2.2) hs)
def WpS(P:Program)(whole cur:Code)(st:St)(Q:Ex→St→Prop):Prop:=
 ∀ ι a w,tF ι st a w→∀ (b:Frame) (k:List Item) (cs:List Frame),
   ∃ e a' w',iM ι st.m w Q e a' w'∧Arrives P (lone (b.at a (.code cur:: .inScope whole::k)) cs w) b k cs e a' w'
def wW(P:Program)(whole:Code)(Q:Ex→St→Prop):Ex→St→Prop
 | .goto l,st=>match findLabel whole l with
   | some rest=>WpS P whole rest st Q
   | none=>Q (.goto l) st
 | ex,st=>Q ex st
theorem vU{whole cur:Code}(h:mL P cur st (wW P whole Q)):WpS P whole cur st Q:=by
 intro ι a w hs b k cs
 obtain⟨e,a1,w1,⟨ι1,ex,st1,rfl,h2,h3,h4⟩,harr⟩:=h ι a w hs b (.inScope whole::k) cs
 cases ex with
 | normal=>exact⟨.normal,a1,w1,⟨ι1,.normal,st1,rfl,h2,h3,h4⟩,Steps.trans harr (.one step_inScope)⟩
 | exit i=>exact⟨.exit i,a1,w1,⟨ι1,.exit i,st1,rfl,h2,h3,h4⟩,fun k' hk=>harr k' (by simp[exitTo,hk])⟩
 | ret=>exact⟨.ret,a1,w1,⟨ι1,.ret,st1,rfl,h2,h3,h4⟩,harr⟩
 | goto l=>
   simp only[wW] at h4
   split at h4
   ·rename_i rest hf
    obtain⟨e2,a2,w2,hp,harr2⟩:=h4 ι1 a1 w1 h2 b k cs
    have hg:gotoIn l (.inScope whole::k)=some (.code rest:: .inScope whole::k):=by simp[gotoIn,hf]
    exact⟨e2,a2,w2,iM.trans h3 hp,.of_steps (harr _ hg) harr2⟩
   ·rename_i hf
    refine⟨.goto l,a1,w1,⟨ι1,.goto l,st1,rfl,h2,h3,h4⟩,fun k' hk=>harr k' ?_⟩
    simp[gotoIn,hf,hk]
theorem aIa{c:Code}(h:WpS P c c st Q):mL P (.scope c) st Q:=fun ι a w hs b k cs=>by
 obtain⟨e,a1,w1,hp,harr⟩:=h ι a w hs b k cs
 exact⟨e,a1,w1,hp,.of_steps (.one step_scope) harr⟩
end rules
def aBh(st:St)(dst:Option Tmp)(x:AV):Option St:=
 match dst with
 | none=>some st
 | some d=>cond (Nat.blt d st.n) (some { st with t:=st.t.set d (some x) }) none
theorem zM{ι:bS}{st st':St}{a:Act}{w:World}(hs:tF ι st a w){dst:Option Tmp}{x:AV}{v:Value}(hv:VR ι x v)(h:aBh st dst x=some st'):tF ι st' (a.put dst v) w:=by
 unfold aBh at h
 split at h
 ·injection h with h;subst h;exact hs
 ·rename_i d
  rw[cond_eq_ite] at h
  split at h
  ·rename_i hd
   have hd:d<st.n:=Nat.le_of_ble_eq_true hd
   injection h with h;subst h
   obtain⟨h1,h2,h3,h4⟩:=hs
   refine⟨by simp[Act.put,h1],fun i=>?_,h3,h4⟩
   simp only[Act.put,Tr.get_set]
   by_cases hi:i=d
   ·subst hi
    rw[if_pos rfl]
    have:(a.tmps.setIfInBounds i v).getD i undef=v:=by simp[h1,hd]
    rw[this]
    exact hv
   ·rw[if_neg hi]
    have:(a.tmps.setIfInBounds d v).getD i undef=a.tmps.getD i undef:=by
     simp[Array.getElem?_setIfInBounds_ne (fun h=>hi h.symm)]
    rw[this]
    exact h2 i
  ·simp at h
def wK(ops:Array Oper)(t:Tr AV)(o:Oper):Option Bool:=
 match o.guard with
 | none=>some true
 | some (j,want)=>
   match (ops[j]?).bind (·.dst) with
   | none=>none
   | some d=>
     match t.get d with
     | some (.val (.bool b))=>some (cond b want (!want))
     | some (.tup _)=>some false
     | _=>none
theorem mU{ι:bS}{ops:Array Oper}{t:Tr AV}{a:Act}(hf:FrR ι t a){o:Oper}{b:Bool}(h:wK ops t o=some b):Region.wanted o (yielded ops a.tmps)=b:=by
 unfold wK at h
 unfold Region.wanted
 split at h
 ·rename_i hg
  injection h with h;subst h
  rw[hg]
 ·rename_i j want hg
  rw[hg]
  simp only
  split at h
  ·simp at h
  ·rename_i d hd
   have hv:=hf d
   unfold yielded
   rw[hd]
   simp only[Option.bind_some]
   split at h
   ·rename_i c hc
    injection h with h;subst h
    rw[hc] at hv
    simp only[Option.getD_some] at hv
    have hx:a.tmps[d]? =some (.bool c):=by
     rw[Array.getD_eq_getD_getElem?] at hv
     cases hx:a.tmps[d]? with
     | none=>rw[hx] at hv;simp only[Option.getD_none] at hv;cases hv
     | some u=>rw[hx] at hv;simp only[Option.getD_some] at hv;cases hv;rfl
    rw[hx]
    cases c <;> cases want <;> rfl
   ·rename_i vs hc
    injection h with h;subst h
    rw[hc] at hv
    simp only[Option.getD_some] at hv
    rw[Array.getD_eq_getD_getElem?] at hv
    cases hx:a.tmps[d]? with
    | none=>rfl
    | some u=>
      rw[hx] at hv;simp only[Option.getD_some] at hv;cases hv
      rfl
   ·simp at h
def yN(P:Program)(ops:Array Oper)(todo:List Oper)(st:St)(Q:Ex→St→Prop):Prop:=
 ∀ ι a w,tF ι st a w→wpList P ops (iM ι st.m w Q) todo a w
theorem fY{P:Program}{ops:Array Oper}{Q Q':Exit→Act→World→Prop}(hq:∀ e a w,Q e a w→Q' e a w):∀ (l:List Oper) (a:Act) (w:World),wpList P ops Q l a w→wpList P ops Q' l a w
 | [],a,w,h=>hq _ _ _ h
 | o::l,a,w,h=>by
   unfold wpList at h ⊢
   split
   ·rename_i hw
    rw[if_pos hw] at h
    rcases h with h|⟨h1,a',w',h2⟩
    ·refine .inl ?_
     unfold Oper.wp at h ⊢
     generalize (execOp a.eval o).run P w=r at h ⊢
     cases r with
     | ok n w'=>
       cases n <;> simp only[Oper.upon] at h ⊢ <;> first
        | exact fY hq l _ _ h
        | exact Calls.mono h fun e w'' he=>by cases e <;> first|exact fY hq l _ _ he|exact hq _ _ _ he|(obtain⟨a0,w0,h0⟩:=he;exact⟨a0,w0,hq _ _ _ h0⟩)
        | exact Rows.mono h fun _ _ he=>fY hq l _ _ he
     | halt x w'=>cases x <;> simp only[Oper.upon] at h ⊢ <;> first|exact hq _ _ _ h|exact h
    ·exact .inr ⟨h1,a',w',hq _ _ _ h2⟩
   ·rename_i hw
    rw[if_neg hw] at h
    exact fY hq l _ _ h
section ops
variable {P:Program} {ops:Array Oper} {st:St} {Q:Ex→St→Prop} {o:Oper} {rest:List Oper}
theorem aLt(h:Q .normal st):yN P ops [] st Q:=fun ι _ _ hs=>⟨ι,.normal,st,rfl,hs,bR.refl hs.2.2.2,h⟩
theorem aKx(hw:wK ops st.t o=some false){st1:St}(hp:aBh st o.dst eY=some st1)(h:yN P ops rest st1 Q):yN P ops (o::rest) st Q:=fun ι a w hs=>by
 unfold wpList
 rw[mU hs.2.1 hw,if_neg (by simp)]
 have hm:st1.m=st.m:=by
  unfold aBh at hp
  split at hp
  ·injection hp with hp;rw[← hp]
  ·rw[cond_eq_ite] at hp
   split at hp
   ·injection hp with hp;rw[← hp]
   ·simp at hp
 have:=h ι _ w (zM hs (VR.undef ι) hp)
 rw[hm] at this
 exact this
theorem aJU{st st1:St}{dst:Option Tmp}{x:AV}(hp:aBh st dst x=some st1):st1.m=st.m:=by
 unfold aBh at hp
 split at hp
 ·injection hp with hp;rw[← hp]
 ·rw[cond_eq_ite] at hp
  split at hp
  ·injection hp with hp;rw[← hp]
  ·simp at hp
theorem tF.step{ι ι':bS}{a:Act}{w w':World}{M':aC}(hs:tF ι st a w)(S:bR ι st.m w ι' M' w'):tF ι' { st with m:=M' } a w':=
 ⟨hs.1,fun i=>(hs.2.1 i).mono S.ext,hs.2.2.1,S.rel⟩
theorem aGn{T:bQ}(ok:T.Ok)(hw:wK ops st.t o=some true){x:AV}{M':aC}(he:bX T st.t o st.m=some (x,M')){st1:St}(hp:aBh { st with m:=M' } o.dst x=some st1)
 (h:yN T.P ops rest st1 Q):yN T.P ops (o::rest) st Q:=fun ι a w hs=>by
 unfold wpList
 rw[mU hs.2.1 hw,if_pos rfl]
 refine .inl ?_
 obtain⟨ι',w',n,v,h1,h2,h3,h4⟩:=wG ok hs.2.2.2 hs.2.1 he
 unfold Oper.wp
 rw[h1]
 have hs1:=zM (hs.step h4) h3 hp
 have hm:=aJU hp
 have:=h ι' _ w' hs1
 rw[hm] at this
 have hk:wpList T.P ops (iM ι st.m w Q) rest (a.put o.dst v) w':=fY (fun _ _ _=>iM.trans h4) _ _ _ this
 rcases h2 with rfl|⟨rfl,rfl⟩
 ·exact hk
 ·exact hk
def dP(t:Tr AV)(o:Oper):Option (FuncId×List AV):=
 match o.op with
 | .call c=>
   match c.callee with
   | .value f=>
     match opnd t f with
     | .fn g first caps=>some (g,first++c.args.toList.map (opnd t)++caps)
     | _=>none
   | _=>none
 | _=>none
theorem aBL{T:bQ}(ok:T.Ok){fr:Tr AV}{a:Act}{M:aC}{w:World}{ι:bS}{o:Oper}(hf0:FrR ι fr a)(R:fZ ι M w){g:FuncId}{args:List AV}
 (hc:dP fr o=some (g,args)) {F:Func} (hg:T.fn.get g=some F) {R':AV→aC→Prop} (h:aB T.P g args M R') {K:Act→World→Prop} {Q:Exit→Act→World→Prop}
 (hk:∀ ι' v x M' w',VR ι' x v→bR ι M w ι' M' w'→R' x M'→K (a.put o.dst v) w'):o.wp T.P a w K Q:=by
 obtain⟨dst,op,type,pos,after,guard⟩:=o
 unfold dP at hc
 simp only at hc
 split at hc
 ·rename_i c
  split at hc
  ·rename_i f hcal
   split at hc
   ·rename_i g' first caps hf
    simp only[Option.some.injEq,Prod.mk.injEq] at hc
    obtain⟨rfl,rfl⟩:=hc
    have hv:=gO hf0 f
    rw[hf] at hv
    generalize hfv:a.eval f=fv at hv
    cases hv with
    | fn _ _ _ vf vc hvf hvc=>
      obtain⟨hF,hname,hbody⟩:=ok.fn g' F hg
      have hargs:VRs ι (first++c.args.toList.map (opnd fr)++caps) ((vf++c.args.map a.eval)++vc).toList:=by
       rw[Array.toList_append,Array.toList_append,Array.toList_map]
       exact (hvf.append (qI hf0 _)).append hvc
      have hrun:(execOp a.eval ⟨dst,.call c,type,pos,after,guard⟩).run T.P w= .ok (.enter g' ((vf++c.args.map a.eval)++vc)) w:=by
       have hn:(F.name== "runtime.NumGoroutine")=false:=by simpa using hname
       have hb:F.body.isNone=false:=by cases hb:F.body <;> simp_all
       simp only[execOp,Sem.run_bind,resolve,hcal,hfv,Deferred.ofValue,Sem.run_pure,Result.andThen_ok,invoke,callFunc,run_program,hF,hn,hb,Bool.false_eq_true,if_false]
      unfold Oper.wp
      rw[hrun]
      simp only[Oper.upon]
      refine (h ι w _ hargs R).mono ?_
      rintro e w'' ⟨ι',v,x,M',rfl,h2,h3,h4⟩
      exact hk ι' v x M' w'' h2 h3 h4
   ·simp at hc
  ·simp at hc
 ·simp at hc
theorem aJ7{T:bQ}(ok:T.Ok)(hw:wK ops st.t o=some true){g:FuncId}{args:List AV}(hc:dP st.t o=some (g,args)){F:Func}(hg:T.fn.get g=some F)
 (h:aB T.P g args st.m fun x M'=>∃ st1,aBh { st with m:=M' } o.dst x=some st1∧yN T.P ops rest st1 Q):yN T.P ops (o::rest) st Q:=fun ι a w hs=>by
 unfold wpList
 rw[mU hs.2.1 hw,if_pos rfl]
 refine .inl (aBL ok hs.2.1 hs.2.2.2 hc hg h ?_)
 rintro ι' v x M' w'' h2 h3 ⟨st1,h4,h5⟩
 have hs1:=zM (hs.step h3) h2 h4
 have hm:=aJU h4
 have:=h5 ι' _ w'' hs1
 rw[hm] at this
 exact fY (fun _ _ _=>iM.trans h3) _ _ _ this
theorem aE6{id:Nat}(h:yN P ops ops.toList st Q):mL P (.region id ops false) st Q:=fun ι a w hs=>wp_region_list (h ι a w hs)
end ops
def aEL(T:bQ)(t:Tr AV)(M:aC):List ResultVar→Option (List AV)
 | []=>some []
 | .tmp i::rs=>(aEL T t M rs).map ((t.get i).getD eY:: ·)
 | .cell i ty::rs=>
   match (t.get i).getD eY with
   | .ptr b o=>match aY T ty (.ptr b o) M,aEL T t M rs with
     | some x,some xs=>some (x::xs)
     | _,_=>none
   | _=>none
def rO(T:bQ)(F:Func)(st:St):Option AV:=
 match aEL T st.t st.m F.results.toList with
 | some [x]=>some x
 | some xs=>some (.tup xs)
 | none=>none
def iI(F:Func)(args:List AV)(M:aC):St:={ n:=args.length+(F.ntmps-args.length),t:=Tr.ofList 0 args,m:=M }
theorem aBk{α:Type}:∀ (l:List α) (k i:Nat),(Tr.ofList k l).get i=if i<k then none else l[i-k]?
 | [],k,i=>by simp[Tr.ofList,Tr.get_e]
 | x::l,k,i=>by
   simp only[Tr.ofList]
   rw[Tr.get_set,aBk l (k+1) i]
   by_cases h1:i=k
   ·subst h1;simp
   ·rw[if_neg h1]
    by_cases h2:i<k
    ·rw[if_pos (by omega),if_pos h2]
    ·rw[if_neg (by omega),if_neg h2,show i-k=(i-(k+1))+1 by omega]
     simp
def xL(tmps:Array Value):ResultVar→Sem Value
 | .tmp t=>pure (tmps.getD t undef)
 | .cell a t=>do loadVar t (← asAddr (tmps.getD a undef))
theorem aDm{T:bQ}(ok:T.Ok){ι:bS}{st:St}{a:Act}{w:World}(hs:tF ι st a w):∀ (rs:List ResultVar) (xs:List AV),aEL T st.t st.m rs=some xs→
 ∃ vs,(rs.mapM (xL a.tmps)).run T.P w= .ok vs w∧VRs ι xs vs
 | [],xs,h=>by
   simp only[aEL,Option.some.injEq] at h
   subst h
   exact⟨[],by simp,.nil⟩
 | .tmp i::rs,xs,h=>by
   simp only[aEL] at h
   obtain⟨ys,hy,rfl⟩:=Option.map_eq_some_iff.1 h
   obtain⟨vs,h1,h2⟩:=aDm ok hs rs ys hy
   refine⟨a.tmps.getD i undef::vs,?_,.cons _ _ _ _ (hs.2.1 i) h2⟩
   rw[List.mapM_cons]
   simp only[xL,Sem.run_bind,Sem.run_pure,Result.andThen_ok,h1]
 | .cell i ty::rs,xs,h=>by
   simp only[aEL] at h
   have hv:=hs.2.1 i
   split at h
   ·rename_i b o hb
    rw[hb] at hv
    split at h
    ·rename_i x ys hx hy
     injection h with h;subst h
     obtain⟨vs,h1,h2⟩:=aDm ok hs rs ys hy
     obtain⟨ι',w',v,g1,g2,g3⟩:=aB3 ok hs.2.2.2 hv hx
     generalize hav:a.tmps.getD i undef=av at hv g1
     cases hv with
     | ptr _ _ l hl=>
       unfold aY at hx
       simp only at hx
       split at hx
       ·rename_i ti ht
        cases hagg:ti.isAgg with
        | true=>
          rw[hagg] at hx
          obtain⟨zs,hz,rfl⟩:=Option.map_eq_some_iff.1 hx
          obtain⟨us,k1,k2,k3⟩:=hs.2.2.2.loadCells (P:=T.P) hz hl
          refine⟨.agg us.toArray::vs,?_,.cons _ _ _ _ (.agg _ _ k1) h2⟩
          rw[List.mapM_cons]
          simp only[xL,Sem.run_bind,hav,asAddr,Sem.run_pure,Result.andThen_ok,loadVar,oO ok ht,hagg,if_true,bY ok ht,k3,h1]
        | false=>
          rw[hagg] at hx
          obtain⟨u,k1,k2⟩:=hs.2.2.2.cell hx hl
          refine⟨u::vs,?_,.cons _ _ _ _ k2 h2⟩
          rw[List.mapM_cons]
          simp only[xL,Sem.run_bind,hav,asAddr,Sem.run_pure,Result.andThen_ok,loadVar,oO ok ht,hagg,Bool.false_eq_true,if_false,run_load,k1,h1]
       ·simp at hx
    ·simp at h
   ·simp at h
theorem aGf{T:bQ}(ok:T.Ok){F:Func}{ι:bS}{st:St}{a:Act}{w:World}(hs:tF ι st a w){x:AV}(h:rO T F st=some x):
 ∃ v,(results F a.tmps).run T.P w= .ok v w∧VR ι x v:=by
 have hcl:∃ xs,aEL T st.t st.m F.results.toList=some xs∧(match xs with|[x]=>some x|xs=>some (.tup xs))=some x:=by
  unfold rO at h
  split at h
  ·rename_i y hy
   exact⟨[y],hy,h⟩
  ·rename_i xs hn hxs
   refine⟨xs,hxs,?_⟩
   split
   ·rename_i y;exact absurd rfl (hn y)
   ·exact h
  ·simp at h
 obtain⟨xs,hxs,hx⟩:=hcl
 obtain⟨vs,h1,h2⟩:=aDm ok hs _ _ hxs
 have hrun:(F.results.mapM (xL a.tmps)).run T.P w= .ok vs.toArray w:=by
  rw[Array.mapM_eq_mapM_toList]
  simp only[Sem.run_map]
  rw[h1]
  rfl
 have hres:results F a.tmps=(do
  let vs ← F.results.mapM (xL a.tmps)
  pure (if h:vs.size=1 then vs[0] else .tuple vs)):=by
  unfold results
  rfl
 rw[hres]
 have hlen:=h2.length
 split at hx
 ·rename_i y
  injection hx with hx;subst hx
  obtain⟨v,rfl,hv⟩:=h2.one
  refine⟨v,?_,hv⟩
  rw[Sem.run_bind,hrun]
  simp
 ·rename_i hn
  injection hx with hx;subst hx
  refine⟨.tuple vs.toArray,?_,.tup _ _ h2⟩
  rw[Sem.run_bind,hrun]
  simp only[Result.andThen_ok,List.size_toArray,Sem.run_pure]
  rw[dif_neg]
  intro h1
  have:xs.length=1:=by omega
  obtain⟨y,hy⟩:=List.length_eq_one_iff.1 this
  exact hn y hy
theorem aA7{T:bQ}(ok:T.Ok){f:FuncId}{F:Func}{c:Code}(hf:T.fn.get f=some F)(hb:F.body=some c){args:List AV}{M:aC}{Q:AV→aC→Prop}
 (h:mL T.P c (iI F args M) fun ex st=>(ex= .normal∨ex= .ret)∧∃ x,rO T F st=some x∧Q x st.m):aB T.P f args M Q:=by
 intro ι w vs hv R
 have hlen:=hv.length
 simp only[Array.length_toList] at hlen
 have hs:tF ι (iI F args M) { tmps:=vs++Array.replicate (F.ntmps-vs.size) undef,defers:=[] } w:=by
  refine⟨?_,fun i=>?_,rfl,R⟩
  ·simp[iI,hlen]
  ·simp only[iI]
   rw[aBk,if_neg (by omega),Nat.sub_zero]
   by_cases hi:i<args.length
   ·obtain⟨v,h1,h2⟩:=hv.get i args[i] (by simp[hi])
    have:(vs++Array.replicate (F.ntmps-vs.size) undef).getD i undef=v:=by
     rw[Array.getD_eq_getD_getElem?,Array.getElem?_append_left (by omega)]
     rw[Array.getElem?_toList] at h1
     rw[h1];rfl
    rw[this]
    simpa[hi] using h2
   ·have h1:args[i]? =none:=List.getElem?_eq_none (by omega)
    rw[h1]
    have:(vs++Array.replicate (F.ntmps-vs.size) undef).getD i undef=undef:=by
     rw[Array.getD_eq_getD_getElem?,Array.getElem?_append_right (by omega),Array.getElem?_replicate]
     split <;> rfl
    rw[this]
    exact VR.undef ι
 refine calls_of_wp (ok.fn f F hf).1 hb (wp_mono (h ι _ w hs) ?_)
 rintro e a' w' ⟨ι',ex,st',rfl,h2,h3,hex,x,hx,hq⟩
 obtain⟨v,hv1,hv2⟩:=aGf ok h2 hx
 rcases hex with rfl|rfl
 ·exact⟨h2.2.2.1,v,hv1,ι',v,x,st'.m,rfl,hv2,h3,hq⟩
 ·exact⟨h2.2.2.1,v,hv1,ι',v,x,st'.m,rfl,hv2,h3,hq⟩
def nX(e:Edge):Bool:=Region.binds .any e
def mk1(acc:List Nat)(es:List Edge):Nat:=es.foldl (fun s e=>cond (nX e) (s ||| (2^e.on ||| acc.getD e.on 0)) s) 0
def dW:List Oper→List Nat→List Nat
 | [],acc=>acc
 | o::r,acc=>dW r (acc++[mk1 acc o.after.toList])
def bf(ms:List Nat)(j i:Nat):Bool:=(ms.getD i 0).testBit j
theorem vV:∀ (ops:List Oper) (acc:List Nat) (j:Nat),j<acc.length→(dW ops acc).getD j 0=acc.getD j 0
 | [],_,_,_=>rfl
 | o::r,acc,j,h=>by
   rw[dW,vV r _ j (by simp;omega)]
   simp[List.getD,List.getElem?_append_left h]
theorem aCb:∀ (ops:List Oper) (acc:List Nat) (i:Nat) (o:Oper),ops[i]? =some o→
 ∃ acc',acc'.length=acc.length+i∧(∀ j,j<acc.length+i→acc'.getD j 0=(dW ops acc).getD j 0)∧(dW ops acc).getD (acc.length+i) 0=mk1 acc' o.after.toList
 | [],acc,i,o,h=>by simp at h
 | p::r,acc,0,o,h=>by
   simp only[List.getElem?_cons_zero,Option.some.injEq] at h
   subst h
   refine⟨acc,rfl,fun j hj=>?_,?_⟩
   ·rw[vV _ _ j (by omega)]
   ·rw[dW,vV r _ _ (by simp)]
    simp[List.getD]
 | p::r,acc,i+1,o,h=>by
   simp only[List.getElem?_cons_succ] at h
   obtain⟨acc',h1,h2,h3⟩:=aCb r (acc++[mk1 acc p.after.toList]) i o h
   simp only[List.length_append,List.length_cons,List.length_nil] at h1 h2 h3
   refine⟨acc',by omega,fun j hj=>?_,?_⟩
   ·rw[dW];exact h2 j (by omega)
   ·rw[dW,show acc.length+(i+1)=acc.length+(0+1)+i by omega];exact h3
theorem aGp(acc:List Nat)(j:Nat):∀ (es:List Edge) (s:Nat),(es.foldl (fun s e=>cond (nX e) (s ||| (2^e.on ||| acc.getD e.on 0)) s) s).testBit j=true→
 s.testBit j=true∨∃ e∈es,nX e=true∧(e.on=j∨(acc.getD e.on 0).testBit j=true)
 | [],s,h=> .inl h
 | e::es,s,h=>by
   simp only[List.foldl_cons] at h
   rcases aGp acc j es _ h with h1|⟨e',h1,h2⟩
   ·cases hb:nX e with
    | false=>rw[hb] at h1;exact .inl h1
    | true=>
      rw[hb] at h1
      simp only[cond_true,Nat.testBit_or,Nat.testBit_two_pow,Bool.or_eq_true,decide_eq_true_eq] at h1
      rcases h1 with h1|h1|h1
      ·exact .inl h1
      ·exact .inr ⟨e,by simp,hb,.inl h1⟩
      ·exact .inr ⟨e,by simp,hb,.inr h1⟩
   ·exact .inr ⟨e',by simp[h1],h2⟩
def aMr(ops:List Oper):Prop:=∀ i o,ops[i]? =some o→∀ e∈o.after.toList,nX e=true→e.on<i
theorem aNJ{ops:List Oper}(hb:aMr ops){i j:Nat}{o:Oper}(ho:ops[i]? =some o)(h:bf (dW ops []) j i=true):
 ∃ e∈o.after.toList,nX e=true∧(e.on=j∨bf (dW ops []) j e.on=true):=by
 obtain⟨acc',h1,h2,h3⟩:=aCb ops [] i o ho
 simp only[List.length_nil,Nat.zero_add] at h1 h2 h3
 unfold bf at h
 rw[h3] at h
 rcases aGp acc' j _ 0 h with h4|⟨e,h4,h5,h6⟩
 ·simp at h4
 ·refine⟨e,h4,h5,h6.imp id fun h7=>?_⟩
  unfold bf
  rw[← h2 e.on (hb i o ho e h4 h5)]
  exact h7
def aFB(ops:List Oper)(L:Nat→Bool):Prop:=∀ i o,ops[i]? =some o→L i=true→∀ e∈o.after.toList,nX e=true→L e.on=true
theorem aCd{ops:List Oper}(hb:aMr ops){L:Nat→Bool}(hc:aFB ops L){j:Nat}:∀ (i:Nat) (o:Oper),ops[i]? =some o→(∀ e∈o.after.toList,nX e=true→L e.on=true)→
 bf (dW ops []) j i=true→L j=true:=by
 intro i
 induction i using Nat.strongRecOn with
 | _ i ih=>
   intro o ho hr h
   obtain⟨e,h1,h2,h3⟩:=aNJ hb ho h
   have hL:=hr e h1 h2
   rcases h3 with rfl|h3
   ·exact hL
   ·have hlt:=hb i o ho e h1 h2
    have hi:i<ops.length:=by
     rcases Nat.lt_or_ge i ops.length with h'|h'
     ·exact h'
     ·rw[List.getElem?_eq_none h'] at ho;simp at ho
    obtain⟨o',ho'⟩:∃ o',ops[e.on]? =some o':=⟨ops[e.on]'(by omega),List.getElem?_eq_getElem (by omega)⟩
    exact ih e.on hlt o' ho' (hc e.on o' ho' hL) h3
theorem aRW{ops:List Oper}(hb:aMr ops){i j:Nat}{o:Oper}(ho:ops[i]? =some o)(h:bf (dW ops []) j i=true):j<i:=by
 have hi:i<ops.length:=by
  rcases Nat.lt_or_ge i ops.length with h'|h'
  ·exact h'
  ·rw[List.getElem?_eq_none h'] at ho;simp at ho
 have:=aCd hb (L:=fun k=>decide (k<i)) (j:=j) (fun k o' ho' hk e he hbe=>by
  have:=hb k o' ho' e he hbe
  simp only[decide_eq_true_eq] at hk ⊢
  omega) i o ho (fun e he hbe=>by simpa using hb i o ho e he hbe) h
 simpa using this
def aKy(o:Oper):List Tmp:=o.op.operands.toList.filterMap fun| .tmp t=>some t|_=>none
def mW(ops:Array Oper)(o:Oper):List Tmp:=
 aKy o++(match o.guard with|some (g,_)=>((ops[g]?).bind (·.dst)).toList|none=>[])
theorem aE2{fr fr':Tr AV}{o:Oper}(h:∀ t∈aKy o,fr.get t=fr'.get t):∀ x∈o.op.operands.toList,opnd fr x=opnd fr' x:=by
 intro x hx
 cases x <;> try rfl
 rename_i t
 simp only[opnd]
 rw[h t (List.mem_filterMap.2 ⟨.tmp t,hx,rfl⟩)]
theorem aDo{ops:Array Oper}{fr fr':Tr AV}{o:Oper}(h:∀ t∈mW ops o,fr.get t=fr'.get t):wK ops fr o=wK ops fr' o:=by
 unfold wK
 unfold mW at h
 split
 ·rfl
 ·rename_i j want hg
  rw[hg] at h
  simp only at h
  split
  ·rfl
  ·rename_i d hd
   rw[h d (by rw[hd];simp)]
theorem pA{α:Type}{f g:Operand→α}{l:List Operand}(h:∀ x∈l,f x=g x):l.map f=l.map g:=List.map_congr_left h
theorem aCE(T:bQ){fr fr':Tr AV}{o:Oper}(h:∀ x∈o.op.operands.toList,opnd fr x=opnd fr' x)(M:aC):bX T fr o M=bX T fr' o M:=by
 obtain⟨dst,op,type,pos,after,guard⟩:=o
 simp only at h
 unfold bX
 simp only
 have pairs:∀ ps:Array (Nat×Operand),(∀ x∈ps.toList.map (·.2),opnd fr x=opnd fr' x)→(ps.toList.map fun p=>(p.1,opnd fr p.2))=(ps.toList.map fun p=>(p.1,opnd fr' p.2)):=fun ps hp=>
  List.map_congr_left fun p hm=>by rw[hp p.2 (List.mem_map.2 ⟨p,hm,rfl⟩)]
 cases op <;> simp only[Op.operands] at h <;> (try simp only) <;> try rfl
 case build t ps=>rw[pairs ps (by simpa using h)]
 case buildSlice t n ps=>rw[pairs ps (by simpa using h)]
 case makeFunc fn b c=>
  simp only[Array.toList_append,List.mem_append] at h
  cases fn <;> simp only
  rw[pA (l:=b.toList) fun x hx=>h x (.inl hx),pA (l:=c.toList) fun x hx=>h x (.inr hx)]
 case slice t x lo hi mx=>
  rw[h x (by simp)]
  have e1:lo.map (opnd fr)=lo.map (opnd fr'):=by cases lo with|none=>rfl|some y=>simp only[Option.map_some];rw[h y (by simp)]
  have e2:hi.map (opnd fr)=hi.map (opnd fr'):=by cases hi with|none=>rfl|some y=>simp only[Option.map_some];rw[h y (by simp)]
  have e3:mx.map (opnd fr)=mx.map (opnd fr'):=by cases mx with|none=>rfl|some y=>simp only[Option.map_some];rw[h y (by simp)]
  rw[e1,e2,e3]
 case call c=>
  cases hc:c.callee with
  | value f=>rfl
  | invoke r m=>rfl
  | builtin b=>
    simp only[Call.operands,hc,Array.toList_append,List.mem_append] at h
    rw[pA (l:=c.args.toList) fun x hx=>h x (.inr hx)]
 case makeMap t r=>cases r <;> rfl
 all_goals
  simp only[List.mem_cons,List.not_mem_nil,or_false,forall_eq_or_imp,forall_eq] at h
  try simp only[h]
 case next x b=>cases b <;> simp only[h]
theorem aDq{fr fr':Tr AV}{o:Oper}(h:∀ x∈o.op.operands.toList,opnd fr x=opnd fr' x):dP fr o=dP fr' o:=by
 unfold dP
 cases hop:o.op <;> simp only
 rename_i c
 rw[hop] at h
 cases hc:c.callee with
 | value f=>
   simp only[Op.operands,Call.operands,hc,Array.toList_append,List.mem_append] at h
   simp only
   rw[h f (.inl (by simp)),pA (l:=c.args.toList) fun x hx=>h x (.inr hx)]
 | invoke r m=>rfl
 | builtin b=>rfl
inductive Cls where
 | pure|read|eff|flt
 deriving DecidableEq
def eE(T:bQ)(o:Oper):Cls:=
 match o.op with
 | .move _| .assign _| .pick .. | .build .. | .nilCheck _| .binOp .. | .unOp .. | .slice .. | .fieldAddr .. | .field .. | .indexAddr .. | .index .. | .extract .. => .pure
 | .makeFunc (.func _) _ _=> .pure
 | .convert _ d _=>match T.ty.get d with
   | some td=>match td.k with
     | .int _=> .pure
     | _=> .eff
   | none=> .eff
 | .load .. | .lookup .. => .read
 | .call c=>match c.callee with
   | .builtin .len| .builtin .cap=> .read
   | .builtin .min| .builtin .max| .builtin .real| .builtin .imag| .builtin .complex=> .pure
   | _=> .eff
 | .alloc _| .box .. | .buildSlice .. | .makeSlice .. => .flt
 | .makeMap _ none=> .flt
 | _=> .eff
theorem uQ{T:bQ}{fr:Tr AV}{o:Oper}(hc:eE T o= .pure){M M':aC}{x:AV}(h:bX T fr o M=some (x,M')):∀ M2,bX T fr o M2=some (x,M2):=by
 intro M2
 obtain⟨dst,op,type,pos,after,guard⟩:=o
 unfold bX at h ⊢
 unfold eE at hc
 cases op <;> simp only at hc h ⊢ <;> try (cases hc;done)
 case move=>injection h with h;injection h with h1 h2;rw[h1]
 case assign=>injection h with h;injection h with h1 h2;rw[h1]
 case pick c a b=>
  split at h
  ·rename_i b hb
   injection h with h;injection h with h1 h2;rw[h1]
  ·simp at h
 case nilCheck y=>
  split at h
  ·injection h with h;injection h with h1 h2;rw[h1]
  ·injection h with h;injection h with h1 h2;rw[h1]
  ·simp at h
 case unOp op t y=>
  split at h
  ·obtain⟨u,hu,he⟩:=Option.map_eq_some_iff.1 h
   injection he with h1 h2
   rw[hu];simp[h1]
  ·simp at h
 case extract y i=>
  split at h
  ·obtain⟨u,hu,he⟩:=Option.map_eq_some_iff.1 h
   injection he with h1 h2
   rw[hu];simp[h1]
  ·simp at h
 case makeFunc fn a b=>
  cases fn <;> simp only at hc h ⊢ <;> try (cases hc;done)
  injection h with h;injection h with h1 h2;rw[h1]
 case makeMap t r=>cases r <;> simp only at hc <;> cases hc
 case convert s d y=>
  split at hc
  ·rename_i td htd
   split at hc
   ·rename_i k hk
    unfold nY at h ⊢
    cases hts:T.ty.get s with
    | none=>rw[hts] at h;simp at h
    | some ts=>
      rw[hts,htd] at h
      rw[htd]
      simp only[hk] at h ⊢
      obtain⟨u,hu,he⟩:=Option.map_eq_some_iff.1 h
      injection he with h1 h2
      rw[hu];simp[h1]
   ·cases hc
  ·cases hc
 case call c=>
  split at hc
  ·cases hc
  ·cases hc
  all_goals try (cases hc;done)
  all_goals
   rename_i hcal
   rw[hcal] at h ⊢
   simp only[cJ] at h ⊢
   split at h
   ·obtain⟨u,hu,he⟩:=Option.map_eq_some_iff.1 h
    injection he with h1 h2
    rw[hu];simp[h1]
   ·simp at h
 all_goals
  obtain⟨u,hu,he⟩:=Option.map_eq_some_iff.1 h
  injection he with h1 h2
  rw[hu];simp[h1]
theorem aGC{T:bQ}{c:Bool}{ts:Array TypeId}{ty:TypeId}{args:List AV}{M M':aC}{x:AV}(h:cJ T (cond c .len .cap) ts ty args M=some (x,M')):M'=M:=by
 have hm:∀ {b:Option Nat},(b.map fun (n:Nat)=>(AV.val (.int .i64 n),M))=some (x,M')→M'=M:=fun {b} hb=>by
  obtain⟨u,hu,he⟩:=Option.map_eq_some_iff.1 hb
  injection he with h1 h2;exact h2.symm
 cases c with
 | true=>
   cases args with
   | nil=>simp[cJ] at h
   | cons y ys=>
     cases ys with
     | nil=>
       simp only[cJ,cond_true] at h
       split at h
       ·exact hm h
       ·simp at h
     | cons z zs=>simp[cJ] at h
 | false=>
   cases args with
   | nil=>simp[cJ] at h
   | cons y ys=>
     cases ys with
     | nil=>
       simp only[cJ,cond_false] at h
       split at h
       ·exact hm h
       ·simp at h
     | cons z zs=>simp[cJ] at h
theorem aGD{T:bQ}{fr:Tr AV}{o:Oper}(hc:eE T o= .read){M M':aC}{x:AV}(h:bX T fr o M=some (x,M')):M'=M:=by
 obtain⟨dst,op,type,pos,after,guard⟩:=o
 unfold bX at h
 unfold eE at hc
 cases op <;> simp only at hc h <;> try (cases hc;done)
 case makeFunc fn a b=>cases fn <;> simp only at hc <;> cases hc
 case makeMap t r=>cases r <;> simp only at hc <;> cases hc
 case convert s d y=>
  split at hc
  ·split at hc <;> cases hc
  ·cases hc
 case load=>
  obtain⟨u,hu,he⟩:=Option.map_eq_some_iff.1 h
  injection he with h1 h2;exact h2.symm
 case lookup=>
  obtain⟨u,hu,he⟩:=Option.map_eq_some_iff.1 h
  injection he with h1 h2;exact h2.symm
 case call c=>
  split at hc
  ·rename_i hcal
   rw[hcal] at h
   exact aGC (c:=true) h
  ·rename_i hcal
   rw[hcal] at h
   exact aGC (c:=false) h
  all_goals cases hc
def aDT(T:bQ)(t:TypeId)(len cap:AV)(id:Nat):Option (AV×hY):=
 match T.ty.get t with
 | none=>none
 | some ti=>
   match ti.k,len,cap with
   | .sli e,.val (.int _ l),.val (.int _ c)=>
     match T.ty.get e with
     | none=>none
     | some te=>
       cond (decide (0≤l)) (cond (decide (l≤c)) (cond (decide (te.bytes*c≤281474976710656)) (cond (decide (c<4611686018427387904))
        (some (.sl id 0 l.toNat c.toNat none,.cells (repA c.toNat (ofVs te.zero)) true)) none) none) none) none
   | _,_,_=>none
def yR(T:bQ)(fr:Tr AV)(o:Oper)(id:Nat):Option (AV×hY):=
 match o.op with
 | .alloc t=>match T.ty.get t with
   | some ti=>some (.ptr id 0,.cells (ofVs ti.zero) true)
   | none=>none
 | .box _ x=>some (.ptr id 0,.cells (opnd fr x).cells true)
 | .buildSlice t len ps=>
   match T.ty.get t with
   | none=>none
   | some ti=>
     match ti.k with
     | .sli e=>
       match T.ty.get e with
       | none=>none
       | some te=>
         cond (Nat.ble (len*te.size) 16777216)
          (match xW (fun i=>some (i*te.size,te.size)) (repA len (ofVs te.zero)) (ps.toList.map fun p=>(p.1,opnd fr p.2)) with
          | none=>none
          | some cs=>some (.sl id 0 len len none,.cells cs true)) none
     | _=>none
 | .makeMap _ none=>some (.map id,.map [])
 | .makeSlice t l c=>aDT T t (opnd fr l) (opnd fr c) id
 | _=>none
theorem aFA(T:bQ){fr fr':Tr AV}{o:Oper}(h:∀ x∈o.op.operands.toList,opnd fr x=opnd fr' x)(id:Nat):yR T fr o id=yR T fr' o id:=by
 obtain⟨dst,op,type,pos,after,guard⟩:=o
 simp only at h
 unfold yR
 simp only
 have pairs:∀ ps:Array (Nat×Operand),(∀ x∈ps.toList.map (·.2),opnd fr x=opnd fr' x)→(ps.toList.map fun p=>(p.1,opnd fr p.2))=(ps.toList.map fun p=>(p.1,opnd fr' p.2)):=fun ps hp=>
  List.map_congr_left fun p hm=>by rw[hp p.2 (List.mem_map.2 ⟨p,hm,rfl⟩)]
 cases op <;> simp only[Op.operands] at h <;> (try simp only) <;> try rfl
 case box t x=>rw[h x (by simp)]
 case makeSlice t l c=>rw[h l (by simp),h c (by simp)]
 case buildSlice t n ps=>rw[pairs ps (by simpa using h)]
 case makeMap t r=>cases r <;> rfl
def upd(ι:bS)(n:Nat)(l:wB):bS:=fun b=>if b=n then some l else ι b
theorem rQ{ι:bS}{n:Nat}{l:wB}(h:ι n=none):Ext ι (upd ι n l):=fun b l' hb=>by
 unfold upd
 split
 ·rename_i he;subst he;rw[h] at hb;cases hb
 ·exact hb
theorem uV{ι:bS}{cs:List AV}{vs:Array Value}{e:TypeId}{b:Nat}(h:VRs ι cs vs.toList):vA ι ⟨b,0,vs.size⟩ (.cells cs true) (some (.cells vs e (0,0))):=by
 have hl:=h.length
 simp only[Array.length_toList] at hl
 refine⟨rfl,by simp only;omega,?_,fun _ k _=>by simp only;omega⟩
 simp only
 rw[List.drop_zero,List.take_of_length_le (by simp;omega)]
 exact h
theorem aLG{T:bQ}(ok:T.Ok){fr:Tr AV}{a:Act}{o:Oper}{id:Nat}{x:AV}{row:hY}{ι:bS}{w:World}(hf:FrR ι fr a)(hn:ι id=none)(h:yR T fr o id=some (x,row)):
 ∃ v obj size,(execOp a.eval o).run T.P w= .ok (.value v) { w with heap:=w.heap.push obj }∧VR (upd ι id ⟨w.heap.size,0,size⟩) x v∧
   vA (upd ι id ⟨w.heap.size,0,size⟩) ⟨w.heap.size,0,size⟩ row (some obj):=by
 have hup:∀ size,(upd ι id ⟨w.heap.size,0,size⟩) id=some ⟨w.heap.size,0,size⟩:=fun size=>by simp[upd]
 obtain⟨dst,op,type,pos,after,guard⟩:=o
 unfold yR at h
 unfold execOp
 cases op <;> simp only at h ⊢ <;> try (simp at h;done)
 case alloc t=>
  split at h
  ·rename_i ti ht
   injection h with h;injection h with h1 h2;subst h1;subst h2
   obtain⟨z,hz,hz2⟩:=kZ ok ht (w:=w)
   refine⟨.pointer (some ⟨w.heap.size,0,none⟩),.cells z.cells t (0,0),z.cells.size,?_,.ptr id 0 _ (hup _),?_⟩
   ·simp[Instr.alloc,hz,newVar,newRow]
   ·exact uV (VRs.mono (rQ hn) (by rw[hz2];exact VRs.ofVs ι _))
  ·simp at h
 case box t y=>
  injection h with h;injection h with h1 h2;subst h1;subst h2
  refine⟨.pointer (some ⟨w.heap.size,0,none⟩),.cells (a.eval y).cells t (0,0),(a.eval y).cells.size,?_,.ptr id 0 _ (hup _),?_⟩
  ·simp[Instr.box,newVar,newRow]
  ·exact uV (VRs.mono (rQ hn) (gO hf y).cells)
 case buildSlice t len ps=>
  split at h
  ·simp at h
  ·rename_i ti ht
   split at h
   ·rename_i e hk
    split at h
    ·simp at h
    ·rename_i te hte
     rw[cond_eq_ite] at h
     split at h
     ·rename_i hle
      have hle:len*te.size≤16777216:=Nat.le_of_ble_eq_true hle
      split at h
      ·simp at h
      ·rename_i cs hcs
       injection h with h;injection h with h1 h2;subst h1;subst h2
       obtain⟨zv,hzr,hzv⟩:=kZ ok hte (w:=w)
       have hlen:=wE ok hte
       have hzs:zv.cells.size=te.size:=by rw[lK hzv,hlen]
       have hrow:∃ zs:Array Value,(len*te.size=0→zs= #[])∧(¬ len*te.size=0→zs=zv.cells)∧
        ((Array.range (len*te.size)).map fun i=>zs[i%zs.size]!).toList=repA len te.zero:=by
        by_cases hn:len*te.size=0
        ·refine⟨#[],fun _=>rfl,fun h=>absurd hn h,?_⟩
         rw[hn]
         simp only[Array.toList_map,Array.toList_range,List.range_zero,List.map_nil]
         have:(repA len te.zero).length=0:=by rw[jB,hlen,hn]
         exact (List.eq_nil_of_length_eq_zero this).symm
        ·refine⟨zv.cells,fun h=>absurd h hn,fun _=>rfl,?_⟩
         rw[lL zv.cells te.size len hzs,hzv]
       obtain⟨zs,hzs1,hzs2,hzs3⟩:=hrow
       obtain⟨vs,h3,h4⟩:=qR (ι:=ι) _ (qs:=(ps.map fun (i,x)=>(i,a.eval x)).toList) (by rw[Array.toList_map];exact uI hf ps.toList)
        (vs:=(Array.range (len*te.size)).map fun i=>zs[i%zs.size]!) (by rw[hzs3];exact (VRs.ofVs ι te.zero).repA len) hcs
       have hng:¬ (len*te.size>2^24):=by
        have:2^24=16777216:=by decide
        omega
       refine⟨.slice (some ⟨w.heap.size,0,none⟩) len len,.cells vs e (0,0),vs.size,?_,VR.slE id 0 len len ⟨w.heap.size,0,vs.size⟩ (hup _),uV (VRs.mono (rQ hn) h4)⟩
       simp only[Instr.buildSlice,Sem.run_bind,cR ok ht hk,Result.andThen_ok,bY ok hte]
       rw[if_neg hng]
       by_cases hn0:len*te.size=0
       ·rw[if_pos hn0]
        have:=hzs1 hn0;subst this
        simp only[Sem.run_bind,Sem.run_pure,Result.andThen_ok,h3,newRow,run_newObj]
       ·rw[if_neg hn0]
        have:=hzs2 hn0;subst this
        simp only[Sem.run_bind,Sem.run_pure,Result.andThen_ok,hzr,h3,newRow,run_newObj]
     ·simp at h
   ·simp at h
 case makeMap t r=>
  cases r <;> simp only at h <;> try (simp at h;done)
  injection h with h;injection h with h1 h2;subst h1;subst h2
  refine⟨.map (some w.heap.size),.map #[] 0,0,?_,.map id ⟨w.heap.size,0,0⟩ (hup _),⟨.nil,.nil⟩⟩
  simp[Instr.makeMap]
 case makeSlice t lo co=>
  have hx:=gO hf lo
  have hy:=gO hf co
  unfold aDT at h
  split at h
  ·simp at h
  ·rename_i ti ht
   split at h
   ·rename_i e k1 l k2 c hk hlo hco
    rw[hlo] at hx;rw[hco] at hy
    generalize a.eval lo=v at hx
    generalize a.eval co=u at hy
    cases hx;cases hy
    split at h
    ·simp at h
    ·rename_i te hte
     simp only[cond_eq_ite,decide_eq_true_eq] at h
     split at h
     ·rename_i h0
      split at h
      ·rename_i h1
       split at h
       ·rename_i h2
        split at h
        ·rename_i h3
         injection h with h;injection h with h4 h5;subst h4;subst h5
         obtain⟨i,hi,hsz,hby,_⟩:=gY ok hte (w:=w)
         obtain⟨zv,hzr,hzv⟩:=kZ ok hte (w:=w)
         have hlen:=wE ok hte
         have hw1:=qN h0 (by omega:l<4611686018427387904)
         have hw2:=qN (by omega:0≤c) h3
         have hzs:zv.cells.size=te.size:=by rw[lK hzv,hlen]
         have hrow:∃ zs:Array Value,(c.toNat*te.size=0→zs= #[])∧(¬ c.toNat*te.size=0→zs=zv.cells)∧
          ((Array.range (c.toNat*te.size)).map fun i=>zs[i%zs.size]!).toList=repA c.toNat te.zero:=by
          by_cases hn:c.toNat*te.size=0
          ·refine⟨#[],fun _=>rfl,fun h=>absurd hn h,?_⟩
           rw[hn]
           simp only[Array.toList_map,Array.toList_range,List.range_zero,List.map_nil]
           have:(repA c.toNat te.zero).length=0:=by rw[jB,hlen,hn]
           exact (List.eq_nil_of_length_eq_zero this).symm
          ·refine⟨zv.cells,fun h=>absurd h hn,fun _=>rfl,?_⟩
           rw[lL zv.cells te.size c.toNat hzs,hzv]
         obtain⟨zs,hzs1,hzs2,hzs3⟩:=hrow
         refine⟨.slice (some ⟨w.heap.size,0,none⟩) l.toNat c.toNat,.cells ((Array.range (c.toNat*te.size)).map fun i=>zs[i%zs.size]!) e (0,0),_,?_,
          VR.slE id 0 l.toNat c.toNat ⟨w.heap.size,0,_⟩ (hup _),uV (VRs.mono (rQ hn) (by rw[hzs3];exact (VRs.ofVs ι te.zero).repA _))⟩
         have hb1:¬ (c<0):=by omega
         have hb2:¬ ((i.bytes:Int)*c>2^48):=by
          rw[hby]
          have:(2^48:Int)=281474976710656:=by decide
          omega
         have hb3:¬ (l<0):=by omega
         have hb4:¬ (l>c):=by omega
         simp only[Instr.makeSlice,Sem.run_bind,cR ok ht hk,Result.andThen_ok,asInt,asIntOf,Sem.run_pure,hi,hw1,hw2]
         simp only[hb1,hb2,hb3,hb4,decide_false,Bool.or_self,Bool.false_eq_true,if_false]
         simp only[Sem.run_bind,run_askRoom,Result.andThen_ok,bY ok hte]
         by_cases hn:c.toNat*te.size=0
         ·rw[if_pos hn]
          have:=hzs1 hn;subst this
          simp only[Sem.run_bind,Sem.run_pure,Result.andThen_ok,newRow,run_newObj]
         ·rw[if_neg hn]
          have:=hzs2 hn;subst this
          simp only[Sem.run_bind,Sem.run_pure,Result.andThen_ok,hzr,newRow,run_newObj]
        ·simp at h
       ·simp at h
      ·simp at h
     ·simp at h
   ·simp at h
end Go.AM
