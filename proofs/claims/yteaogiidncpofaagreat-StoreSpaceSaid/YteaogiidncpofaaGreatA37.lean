import Derived.Test.YteaogiidncpofaaGreatA31
import Derived.Maps.RangeRun
set_option linter.unusedSimpArgs false
set_option linter.unusedVariables false
set_option linter.unusedSectionVars false
noncomputable section
namespace Go.AM
section
variable {T:bQ} {ops:Array Oper} {base:Nat} {rk:List Nat} {ob:List (List Nat)} {K:St→Prop}
structure aKA (ops:Array Oper) (oj oi:Oper):Prop where
 ij:∀ x∈mW ops oi,oj.dst≠some x
 ji:∀ x∈mW ops oj,oi.dst≠some x
 dd:∀ a,oj.dst=some a→oi.dst≠some a
theorem aAB{nt:Nat}(S:sO T nt ops){i j:Nat}{oi oj:Oper}(hi:ops[i]? =some oi)(hj:ops[j]? =some oj)(hne:j≠i)(h1:bf (dW ops.toList []) i j=false)(h2:bf (dW ops.toList []) j i=false):
 aKA ops oj oi:=by
 refine⟨fun x hx hd=>?_,fun x hx hd=>?_,fun a hd he=>hne (S.dst1 j i oj oi a hj hi hd he)⟩
 ·rcases S.see i oi hi x hx j oj hj hd with h|h|h
  ·exact hne h
  ·rw[h2] at h;cases h
  ·rw[h1] at h;cases h
 ·rcases S.see j oj hj x hx i oi hi hd with h|h|h
  ·exact hne h.symm
  ·rw[h1] at h;cases h
  ·rw[h2] at h;cases h
def dO(M:aC)(id:Nat):Option hY→aC
 | none=>M
 | some r=>M.put id r
def aD4(T:bQ)(ops:Array Oper)(id:Nat)(o:Oper)(t:Tr AV)(x:AV)(r:Option hY):Prop:=
 ∀ (n:Nat) (t':Tr AV) (M:aC) (K:St→Prop),Ag ops o t' t→(stepX T ops id o ⟨n,t',M⟩ K↔K (fV ⟨n,t',M⟩ o.dst x (dO M id r)))
theorem aD4.ag{id:Nat}{o:Oper}{t t2:Tr AV}{x:AV}{r:Option hY}(h:aD4 T ops id o t x r)(ha:Ag ops o t2 t):aD4 T ops id o t2 x r:=
 fun n t' M K h'=>h n t' M K (h'.trans ha)
theorem aJy{id:Nat}{o:Oper}{st:St}(hc:eE T o= .pure∨eE T o= .flt)(h:stepX T ops id o st K):
 ∃ x r,aD4 T ops id o st.t x r∧(eE T o= .pure→r=none)∧(r≠none→eE T o= .flt∧wK ops st.t o=some true∧∃ row,r=some row∧yR T st.t o id=some (x,row))∧
   (r=none→(wK ops st.t o=some false∧x=eY)∨(eE T o= .pure∧wK ops st.t o=some true∧∀ M,bX T st.t o M=some (x,M))):=by
 unfold stepX at h
 obtain⟨b,hw,h⟩:=lU h
 cases b with
 | false=>
   refine⟨eY,none,fun n t' M K ha=>?_,fun _=>rfl,fun h=>absurd rfl h,fun _=> .inl ⟨hw,rfl⟩⟩
   unfold stepX
   rw[ha.wanted,hw,eM,fG]
   rfl
 | true=>
   rw[jF] at h
   rcases hc with hc|hc <;> rw[hc] at h
   ·rw[fB] at h
    obtain⟨y,hy,h⟩:=lU h
    have hp:=uQ hc hy
    refine⟨y.1,none,fun n t' M K ha=>?_,fun _=>rfl,fun h=>absurd rfl h,fun _=> .inr ⟨hc,hw,hp⟩⟩
    unfold stepX
    rw[ha.wanted,hw,eM,jF,hc,fB,ha.eval,hp M,eM]
    rfl
   ·rw[iR] at h
    obtain⟨y,hy,h⟩:=lU h
    refine⟨y.1,some y.2,fun n t' M K ha=>?_,(fun h=>by rw[hc] at h;cases h),fun _=>⟨hc,hw,y.2,rfl,hy⟩,(fun h=>by cases h)⟩
    unfold stepX
    rw[ha.wanted,hw,eM,jF,hc,iR,ha.fl,hy,eM]
    rfl
theorem aEm{M:aC}{id:Nat}{r:Option hY}(h:r=none∨M.get id=none):∀ b s,M.get b=some s→(dO M id r).get b=some s:=fun b s hb=>by
 cases r with
 | none=>exact hb
 | some r=>
   rcases h with h|h
   ·cases h
   ·show (M.put id r).get b=some s
    rw[aC.get_put,if_neg (fun he=>by subst he;rw[h] at hb;cases hb)]
    exact hb
theorem aHS{ok oi:Oper}{k:Nat}{s:St}{id:Nat}{x:AV}{r:Option hY}(hk:ops[k]? =some ok)(hc:eE T ok= .read)(hl:∀ y∈mW ops ok,oi.dst≠some y)(hd:∀ a,oi.dst=some a→ok.dst≠some a)
 (hm:r=none∨s.m.get id=none) (h:aIy T ops s k):aIy T ops (fV s oi.dst x (dO s.m id r)) k:=by
 intro o ho hw
 rw[hk] at ho;injection ho with ho;subst ho
 have ha:Ag ops ok (setd s.t oi.dst x) s.t:=Ag.setd s.t x hl
 have hw':wK ops s.t ok=some true:=by rw[← ha.wanted];exact hw
 obtain⟨y,M',h1,h2⟩:=h ok hk hw'
 refine⟨y,dO s.m id r,?_,fun d hdd=>?_⟩
 ·show bX T (setd s.t oi.dst x) ok (dO s.m id r)=_
  rw[ha.eval]
  exact aB6 hc (aEm hm) h1
 ·show (setd s.t oi.dst x).get d=some y
  rw[vE _ _ (fun he=>hd d he hdd)]
  exact h2 d hdd
theorem aDD{oi oj:Oper}{st:St}{idi idj:Nat}{x:AV}{r:Option hY}(A:aKA ops oj oi)(hr:r=none∨(st.m.get idi=none∧idi<st.m.next∧(eE T oj= .flt→idi≠idj)∧(eE T oj= .eff→(aDb oj||aGq oj)=true)))
 {G:St→Prop} (h:stepX T ops idj oj st K) (hk:∀ s,K s→(r=none∨(s.m.get idi=none∧idi<s.m.next))→Ag ops oi s.t st.t→G (fV s oi.dst x (dO s.m idi r))):
 stepX T ops idj oj (fV st oi.dst x (dO st.m idi r)) G:=by
 have ha:Ag ops oj (setd st.t oi.dst x) st.t:=Ag.setd st.t x A.ji
 have hai:∀ y,Ag ops oi (setd st.t oj.dst y) st.t:=fun y=>Ag.setd st.t y A.ij
 have hsub:=aEm (M:=st.m) (id:=idi) (r:=r) (hr.imp id fun h=>h.1)
 have hrm:r=none∨(st.m.get idi=none∧idi<st.m.next):=hr.imp id fun h=>⟨h.1,h.2.1⟩
 unfold stepX at h ⊢
 obtain⟨b,hw,h⟩:=lU h
 have hw':wK ops (fV st oi.dst x (dO st.m idi r)).t oj=some b:=by rw[← hw];exact ha.wanted
 rw[hw',eM]
 have comm:∀ y N,fV (fV st oj.dst y N) oi.dst x (dO N idi r)=fV (fV st oi.dst x (dO st.m idi r)) oj.dst y (dO N idi r):=fun y N=>by
  unfold fV;simp only[aB8 st.t y x A.dd]
 cases b with
 | false=>
   rw[fG] at h ⊢
   have:=hk _ h hrm (hai _)
   rw[show (fV st oj.dst eY st.m).m=st.m from rfl,comm] at this
   exact this
 | true=>
   rw[jF] at h ⊢
   cases hc:eE T oj <;> rw[hc] at h <;> simp only[lS,iR,fB,gH] at h ⊢
   case pure=>
    obtain⟨y,hy,h⟩:=lU h
    have hp:=uQ hc (show bX T st.t oj st.m=some (y.1,y.2) from hy)
    have e:bX T (fV st oi.dst x (dO st.m idi r)).t oj (fV st oi.dst x (dO st.m idi r)).m=some (y.1,dO st.m idi r):=by
     show bX T (setd st.t oi.dst x) oj (dO st.m idi r)=_
     rw[ha.eval];exact hp _
    rw[e,eM]
    have:=hk _ h hrm (hai _)
    rw[show (fV st oj.dst y.1 st.m).m=st.m from rfl,comm] at this
    exact this
   case read=>
    obtain⟨y,hy,h⟩:=lU h
    have hp:=aB6 hc hsub (show bX T st.t oj st.m=some (y.1,y.2) from hy)
    have e:bX T (fV st oi.dst x (dO st.m idi r)).t oj (fV st oi.dst x (dO st.m idi r)).m=some (y.1,dO st.m idi r):=by
     show bX T (setd st.t oi.dst x) oj (dO st.m idi r)=_
     rw[ha.eval];exact hp
    rw[e,eM]
    have:=hk _ h hrm (hai _)
    rw[show (fV st oj.dst y.1 st.m).m=st.m from rfl,comm] at this
    exact this
   case flt=>
    obtain⟨y,hy,h⟩:=lU h
    have e:yR T (fV st oi.dst x (dO st.m idi r)).t oj idj=some y:=by
     rw[← hy];exact ha.fl T idj
    rw[e,eM]
    have:=hk _ h (hr.imp id fun h=>⟨by
     show (st.m.put idj y.2).get idi=none
     rw[aC.get_put,if_neg (h.2.2.1 hc)];exact h.1,h.2.1⟩) (hai _)
    rw[show (fV st oj.dst y.1 (st.m.put idj y.2)).m=st.m.put idj y.2 from rfl,comm] at this
    have e2:dO (st.m.put idj y.2) idi r=(dO st.m idi r).put idj y.2:=by
     cases r with
     | none=>rfl
     | some row=>
       rcases hr with hr|hr
       ·cases hr
       ·exact aC.put_comm _ _ _ (hr.2.2.1 hc).symm
    rw[e2] at this
    exact this
   case eff=>
    unfold wO at h ⊢
    have e:dP (fV st oi.dst x (dO st.m idi r)).t oj=dP st.t oj:=ha.callee
    rw[e]
    cases hcal:dP st.t oj with
    | some c=>
      rw[hcal,dA] at h
      rw[dA]
      obtain⟨F,hF,h⟩:=lU h
      rw[hF,eM]
      cases r with
      | none=>
        refine h.mono fun y N hy=>?_
        have:=hk _ hy (.inl rfl) (hai _)
        rw[show (fV st oj.dst y N).m=N from rfl,comm] at this
        exact this
      | some row=>
        rcases hr with hr|hr
        ·cases hr
        ·refine (h.frame1 (b:=idi) (r:=row) hr.1).mono ?_
         rintro y N ⟨N0,hy,h0,h1,rfl⟩
         have:=hk _ hy (.inr ⟨h0,by have:=hr.2.1;show idi<N0.next;omega⟩) (hai _)
         rw[show (fV st oj.dst y N0).m=N0 from rfl,comm] at this
         exact this
    | none=>
      rw[hcal,fL] at h
      rw[fL]
      obtain⟨y,hy,h⟩:=lU h
      cases r with
      | none=>
        have e:bX T (fV st oi.dst x (dO st.m idi none)).t oj (fV st oi.dst x (dO st.m idi none)).m=some y:=by
         rw[← hy];exact ha.eval T st.m
        rw[e,eM]
        have:=hk _ h (.inl rfl) (hai _)
        rw[show (fV st oj.dst y.1 y.2).m=y.2 from rfl,comm] at this
        exact this
      | some row=>
        rcases hr with hr|hr
        ·cases hr
        ·have hca:=hr.2.2.2 hc
         cases hcall:aDb oj with
         | true=>
           exfalso
           unfold aDb at hcall
           split at hcall
           ·rename_i c hop
            split at hcall
            ·rename_i f hcf
             unfold bX at hy
             rw[hop] at hy
             simp only[hcf] at hy
             cases hy
            ·cases hcall
           ·cases hcall
         | false=>
           rw[hcall,Bool.false_or] at hca
           obtain⟨g1,g2,g3⟩:=aOi (r:=row) hca (show bX T st.t oj st.m=some (y.1,y.2) from hy) hr.1 hr.2.1
           have e:bX T (fV st oi.dst x (dO st.m idi (some row))).t oj (fV st oi.dst x (dO st.m idi (some row))).m=some (y.1,y.2.put idi row):=by
            rw[← g1];exact ha.eval T _
           rw[e,eM]
           have:=hk _ h (.inr ⟨g2,by have:=hr.2.1;show idi<y.2.next;omega⟩) (hai _)
           rw[show (fV st oj.dst y.1 y.2).m=y.2 from rfl,comm] at this
           exact this
theorem aJK{nt c:Nat}(S:sO T nt ops){perm:List Nat}(hp:aAD T ops perm rk ob c){i:Nat}{oi:Oper}(hi:ops[i]? =some oi){x:AV}{r:Option hY}(hrf:r≠none→eE T oi= .flt):
 ∀ {pre post acc:List Nat} {st:St},(∀ j∈pre,Rl T ops ob j i∧bf (dW ops.toList []) j i=false)→(∀ k∈acc,k≠i∧bf (dW ops.toList []) i k=false)→
   aD4 T ops (base+rk.getD i 0) oi st.t x r→(r=none∨(st.m.get (base+rk.getD i 0)=none∧base+rk.getD i 0<st.m.next))→
   wX T ops base rk ob (pre++i::post) acc st K→wX T ops base rk ob (pre++post) acc (fV st oi.dst x (dO st.m (base+rk.getD i 0) r)) K:=by
 intro pre
 induction pre with
 | nil=>
   intro post acc st _ _ hE hr h
   simp only[List.nil_append] at h ⊢
   unfold wX at h
   rw[hi,eM] at h
   exact aGm (fun x hx=>by simp[hx]) ((hE st.n st.t st.m _ (Ag.refl _)).1 h).2
 | cons j pre ih=>
   intro post acc st hpre hacc hE hr h
   simp only[List.cons_append] at h ⊢
   unfold wX at h ⊢
   obtain⟨oj,hj,h⟩:=lU h
   rw[hj,eM]
   obtain⟨R,hnb⟩:=hpre j (by simp)
   have A:=aAB S hi hj R.ne R.nb hnb
   have hcok:=R.ok.resolve_left (by rw[hnb];simp) oj oi hj hi
   have hr':r=none∨(r≠none∧st.m.get (base+rk.getD i 0)=none∧base+rk.getD i 0<st.m.next):=by
    by_cases hrn:r=none
    ·exact .inl hrn
    ·exact .inr ⟨hrn,(hr.resolve_left hrn)⟩
   refine aDD A (hr'.imp id fun hh=>⟨hh.2.1,hh.2.2,fun hcj he=>?_,fun hcj=>?_⟩) h ?_
   ·exact R.ne (hp.fin i j oi oj hi hj (hrf hh.1) hcj (by omega)).symm
   ·unfold cok at hcok
    rw[hcj,hrf hh.1] at hcok
    exact hcok
   ·rintro s ⟨h1,h2⟩ hs hag
    refine⟨fun k hk=>?_,ih (fun j' hj'=>hpre j' (by simp[hj'])) (fun k hk=>?_) (hE.ag hag) hs h2⟩
    ·have hk':=hk
     unfold obs at hk'
     rw[List.mem_filter] at hk'
     obtain⟨ok,hok,hck,hlk⟩:=hp.obr j oj k hj hk'.1
     have hka:k∈acc:=by simpa using hk'.2
     obtain⟨g1,g2⟩:=hacc k hka
     refine aHS hok hck (fun y hy hd=>?_) (fun a ha hb=>g1 (S.dst1 k i ok oi a hok hi hb ha)) (hs.imp id fun h=>h.1) (h1 k hk)
     rw[hlk y hy i oi hi hd] at g2;cases g2
    ·simp only[List.mem_cons] at hk
     rcases hk with rfl|hk
     ·exact⟨R.ne,R.nb⟩
     ·exact hacc k hk
end
section
variable {T:bQ} {ops:Array Oper} {base:Nat} {rk:List Nat} {ob:List (List Nat)} {K:St→Prop}
def aM3(T:bQ)(ops:Array Oper)(o:Oper)(t:Tr AV)(M:aC)(x:AV):Prop:=
 (wK ops t o=some false∧x=eY)∨(wK ops t o=some true∧∃ M',bX T t o M=some (x,M'))
theorem aBV{id:Nat}{o:Oper}{st:St}(hc:eE T o= .pure∨eE T o= .read):stepX T ops id o st K↔∃ x,aM3 T ops o st.t st.m x∧K (fV st o.dst x st.m):=by
 unfold stepX aM3
 constructor
 ·intro h
  obtain⟨b,hw,h⟩:=lU h
  cases b with
  | false=>exact⟨eY,.inl ⟨hw,rfl⟩,h⟩
  | true=>
    rw[jF] at h
    rcases hc with hc|hc <;> rw[hc] at h <;> simp only[fB,gH] at h <;> obtain⟨y,hy,h⟩:=lU h <;> exact⟨y.1,.inr ⟨hw,y.2,hy⟩,h⟩
 ·rintro⟨x,(⟨hw,rfl⟩|⟨hw,M',he⟩),h⟩
  ·rw[hw,eM,fG];exact h
  ·rw[hw,eM,jF]
   rcases hc with hc|hc <;> rw[hc] <;> simp only[fB,gH] <;> rw[he,eM] <;> exact h
theorem aDX{id:Nat}{o:Oper}{n:Nat}{t1 t2:Tr AV}{M:aC}{G G':St→Prop}(ha:Ag ops o t2 t1)(h:stepX T ops id o ⟨n,t1,M⟩ G)
 (hk:∀ y N,(eE T o= .read→N=M)→G (fV ⟨n,t1,M⟩ o.dst y N)→G' (fV ⟨n,t2,M⟩ o.dst y N)):stepX T ops id o ⟨n,t2,M⟩ G':=by
 unfold stepX at h ⊢
 obtain⟨b,hw,h⟩:=lU h
 rw[show wK ops (St.mk n t2 M).t o=some b from by rw[← hw];exact ha.wanted,eM]
 cases b with
 | false=>exact hk _ _ (fun _=>rfl) h
 | true=>
   rw[jF] at h ⊢
   cases hc:eE T o <;> rw[hc] at h <;> simp only[lS,iR,fB,gH] at h ⊢
   case eff=>
    unfold wO at h ⊢
    rw[show dP (St.mk n t2 M).t o=dP t1 o from ha.callee]
    cases hcal:dP t1 o with
    | some c=>
      rw[show dP (St.mk n t1 M).t o=some c from hcal,dA] at h
      rw[dA]
      obtain⟨F,hF,h⟩:=lU h
      rw[hF,eM]
      exact h.mono fun x M' hx=>hk _ _ (fun h=>by rw[hc] at h;cases h) hx
    | none=>
      rw[show dP (St.mk n t1 M).t o=none from hcal,fL] at h
      rw[fL]
      obtain⟨y,hy,h⟩:=lU h
      rw[show bX T (St.mk n t2 M).t o (St.mk n t2 M).m=some y from by rw[← hy];exact ha.eval T M,eM]
      exact hk _ _ (fun h=>by rw[hc] at h;cases h) h
   case flt=>
    obtain⟨y,hy,h⟩:=lU h
    rw[show yR T (St.mk n t2 M).t o id=some y from by rw[← hy];exact ha.fl T id,eM]
    exact hk _ _ (fun h=>by rw[hc] at h;cases h) h
   all_goals
    obtain⟨y,hy,h⟩:=lU h
    rw[show bX T (St.mk n t2 M).t o (St.mk n t2 M).m=some y from by rw[← hy];exact ha.eval T M,eM]
    exact hk _ _ (fun _=>rfl) h
theorem aFM{id:Nat}{o:Oper}{st:St}(h:stepX T ops id o st K):stepX T ops id o st fun s=>K s∧∃ y N,s=fV st o.dst y N:=
 aDX (n:=st.n) (t1:=st.t) (M:=st.m) (Ag.refl _) h fun y N _ hs=>⟨hs,y,N,rfl⟩
theorem aJw{ok oj:Oper}{k:Nat}{s:St}{x:AV}(hk:ops[k]? =some ok)(hl:∀ y∈mW ops ok,oj.dst≠some y)(hd:∀ a,oj.dst=some a→ok.dst≠some a)
 (h:aIy T ops (fV s oj.dst x s.m) k):aIy T ops s k:=by
 intro o ho hw
 rw[hk] at ho;injection ho with ho;subst ho
 have ha:Ag ops ok (setd s.t oj.dst x) s.t:=Ag.setd s.t x hl
 obtain⟨y,M',h1,h2⟩:=h ok hk (by show wK ops (setd s.t oj.dst x) ok=some true;rw[ha.wanted];exact hw)
 refine⟨y,M',by rw[← ha.eval];exact h1,fun d hdd=>?_⟩
 rw[← h2 d hdd]
 exact (vE _ _ (fun he=>hd d he hdd)).symm
theorem aDJ{nt c:Nat}(S:sO T nt ops){perm:List Nat}(hp:aAD T ops perm rk ob c){i:Nat}{oi:Oper}(hi:ops[i]? =some oi)(hci:eE T oi= .read∨eE T oi= .eff):
 ∀ {pre post acc:List Nat} {st:St},(∀ j∈pre,Rl T ops ob j i∧bf (dW ops.toList []) j i=false)→(∀ k∈acc,∀ j∈pre,k≠j∧bf (dW ops.toList []) j k=false)→pre.Pairwise (Rl T ops ob)→
   wX T ops base rk ob (pre++i::post) acc st K→stepX T ops (base+rk.getD i 0) oi st fun s=>aIs T ops (obs ob i acc) s∧wX T ops base rk ob (pre++post) acc s K:=by
 intro pre
 induction pre with
 | nil=>
   intro post acc st _ _ _ h
   simp only[List.nil_append] at h ⊢
   unfold wX at h
   rw[hi,eM] at h
   exact kR (fun s hs=>⟨hs.1,aGm (fun x hx=>by simp[hx]) hs.2⟩) h
 | cons j pre ih=>
   intro post acc st hpre hacc hpw h
   simp only[List.cons_append] at h ⊢
   unfold wX at h
   obtain⟨oj,hj,h⟩:=lU h
   obtain⟨R,hnb⟩:=hpre j (by simp)
   have A:=aAB S hi hj R.ne R.nb hnb
   have hcok:=R.ok.resolve_left (by rw[hnb];simp) oj oi hj hi
   have hdj:eE T oj= .pure∨(eE T oj= .read∧(eE T oi= .read∨(eE T oi= .eff∧j∈ob.getD i []))):=by
    unfold cok at hcok
    rcases hci with hci|hci <;> rw[hci] at hcok <;> cases hcj:eE T oj <;> rw[hcj] at hcok <;> simp only at hcok <;> first
     | exact .inl rfl
     | exact .inr ⟨rfl,.inl hci⟩
     | exact .inr ⟨rfl,.inr ⟨hci,by simpa using hcok⟩⟩
     | cases hcok
   have hdj':eE T oj= .pure∨eE T oj= .read:=hdj.imp id fun h=>h.1
   obtain⟨x,hx,h1,h2⟩:=(aBV hdj').1 h
   have hob:obs ob j acc=[]:=by
    unfold obs
    rw[hp.obe j oj hj (by rcases hdj' with h|h <;> rw[h] <;> simp)]
    rfl
   obtain⟨hpj,hpw⟩:=List.pairwise_cons.1 hpw
   have h3:=ih (fun j' hj'=>hpre j' (by simp[hj'])) (fun k hk j' hj'=>by
    simp only[List.mem_cons] at hk
    rcases hk with rfl|hk
    ·exact⟨(hpj j' hj').ne,(hpj j' hj').nb⟩
    ·exact hacc k hk j' (by simp[hj'])) hpw h2
   refine aDX (n:=st.n) (t1:=setd st.t oj.dst x) (t2:=st.t) (M:=st.m) (Ag.setd st.t x A.ij).symm h3 ?_
   rintro y N hN ⟨g1,g2⟩
   have comm:fV (fV st oj.dst x st.m) oi.dst y N=fV (fV st oi.dst y N) oj.dst x N:=by
    unfold fV;simp only[aB8 st.t x y A.dd]
   change aIs T ops (obs ob i (j::acc)) (fV (fV st oj.dst x st.m) oi.dst y N) at g1
   change wX T ops base rk ob (pre++post) (j::acc) (fV (fV st oj.dst x st.m) oi.dst y N) K at g2
   show aIs T ops (obs ob i acc) (fV st oi.dst y N)∧wX T ops base rk ob (j::(pre++post)) acc (fV st oi.dst y N) K
   rw[comm] at g1 g2
   refine⟨fun k hk=>?_,?_⟩
   ·have hk':=hk
    unfold obs at hk'
    rw[List.mem_filter] at hk'
    obtain⟨ok,hok,hck,hlk⟩:=hp.obr i oi k hi hk'.1
    have hka:k∈acc:=by simpa using hk'.2
    obtain⟨q1,q2⟩:=hacc k hka j (by simp)
    refine aJw (oj:=oj) (x:=x) hok (fun y hy hd=>?_) (fun a ha hb=>q1 (S.dst1 k j ok oj a hok hj hb ha)) (g1 k (aHa (fun x hx=>by simp[hx]) hk))
    rw[hlk y hy j oj hj hd] at q2;cases q2
   ·unfold wX
    rw[hj,eM,hob]
    rw[aBV hdj']
    have haj:Ag ops oj (setd st.t oi.dst y) st.t:=Ag.setd st.t y A.ji
    have fin:∀ x',aM3 T ops oj (setd st.t oi.dst y) N x'→(∀ d,oj.dst=some d→x'=x)→∃ x,aM3 T ops oj (fV st oi.dst y N).t (fV st oi.dst y N).m x∧
     (fun s=>aIs T ops [] s∧wX T ops base rk ob (pre++post) (j::acc) s K) (fV (fV st oi.dst y N) oj.dst x (fV st oi.dst y N).m):=fun x' hx' he=>by
     refine⟨x',hx',(fun j hj=>by simp at hj),?_⟩
     have:fV (fV st oi.dst y N) oj.dst x' (fV st oi.dst y N).m=fV (fV st oi.dst y N) oj.dst x N:=by
      show fV (fV st oi.dst y N) oj.dst x' N=_
      cases hd:oj.dst with
      | none=>rfl
      | some d=>rw[he d hd]
     rw[this]
     exact g2
    rcases hx with⟨hw,rfl⟩|⟨hw,M',he⟩
    ·exact fin eY (.inl ⟨by rw[haj.wanted];exact hw,rfl⟩) (fun _ _=>rfl)
    ·rcases hdj with hc|⟨hc,hc2⟩
     ·exact fin x (.inr ⟨by rw[haj.wanted];exact hw,N,by rw[haj.eval];exact uQ hc he N⟩) (fun _ _=>rfl)
     ·rcases hc2 with hc2|⟨hc2,hob2⟩
      ·refine fin x (.inr ⟨by rw[haj.wanted];exact hw,M',?_⟩) (fun _ _=>rfl)
       rw[haj.eval,hN hc2];exact he
      ·obtain⟨ok,hok,hck,hlk⟩:=hp.obr i oi j hi hob2
       rw[hj] at hok;injection hok with hok;subst hok
       have hself:∀ y∈mW ops oj,oj.dst≠some y:=fun y hy hd=>by
        have:=aRW S.back (by simpa using hj) (hlk y hy j oj hj hd)
        omega
       have hag2:Ag ops oj (setd (setd st.t oi.dst y) oj.dst x) (setd st.t oi.dst y):=Ag.setd _ x hself
       obtain⟨x',M2,q1,q2⟩:=g1 j (by unfold obs;rw[List.mem_filter];exact⟨hob2,by simp⟩) oj hj (by
        show wK ops (setd (setd st.t oi.dst y) oj.dst x) oj=some true
        rw[hag2.wanted,haj.wanted];exact hw)
       refine fin x' (.inr ⟨by rw[haj.wanted];exact hw,M2,by rw[← hag2.eval];exact q1⟩) fun d hd=>?_
       have:=q2 d hd
       change (setd (setd st.t oi.dst y) oj.dst x).get d=some x' at this
       rw[hd] at this
       simp only[setd,Tr.get_set_eq,Option.some.injEq] at this
       exact this.symm
end
theorem bR.float{ι0 ι:bS}{M0 M:aC}{w0 w:World}(S:bR ι0 M0 w0 ι M w){id:Nat}(h0:M0.next≤id)(hid:id<M.next)(hn:ι id=none){l:wB}{row:hY}{obj:Obj}(hb:l.blk=w.heap.size)
 (hr:vA (upd ι id l) l row (some obj)) (hz:l.base=0:=by rfl):bR ι0 M0 w0 (upd ι id l) (M.put id row) { w with heap:=w.heap.push obj }:=by
 have R:=S.rel
 have hext:=rQ (l:=l) hn
 have hup:(upd ι id l) id=some l:=by simp[upd]
 have hne:∀ b,b≠id→(upd ι id l) b=ι b:=fun b h=>by simp[upd,h]
 have hlt:∀ b r l',M.get b=some r→ι b=some l'→l'.blk<w.heap.size:=fun b r l' h hl=>by
  obtain⟨l2,h2,hrow⟩:=R.live b r h
  rw[hl] at h2;injection h2 with h2;subst h2
  exact vS hrow
 refine⟨⟨fun b l' h=>?_,fun b r' h=>?_,fun b b' r1 r2 l1 l2 h1 h2 hl1 hl2 he=>?_,fun b l' h=>by
  by_cases hb':b=id
  ·subst hb';rw[hup] at h;injection h with h;rw[← h];exact hz
  ·rw[hne b hb'] at h;exact R.bas b l' h⟩,S.ext.trans hext,S.nxt,fun b l' h=>?_,?_,fun k hk hnr=>?_,?_,?_,S.os,S.tape,S.output⟩
 ·by_cases hb':b=id
  ·subst hb';exact hid
  ·rw[hne b hb'] at h;exact R.dom b l' h
 ·rw[aC.get_put] at h
  by_cases hb':b=id
  ·subst hb'
   rw[if_pos rfl] at h
   injection h with h;subst h
   refine⟨l,hup,?_⟩
   simp only[hb,Array.getElem?_push_size]
   exact hr
  ·rw[if_neg hb'] at h
   obtain⟨l',hl,hrow⟩:=R.live b r' h
   refine⟨l',by rw[hne b hb'];exact hl,?_⟩
   have:=hlt b r' l' h hl
   simp only
   rw[Array.getElem?_push,if_neg (by omega)]
   exact hrow.mono hext
 ·rw[aC.get_put] at h1 h2
  by_cases hb1:b=id <;> by_cases hb2:b'=id
  ·omega
  ·rw[if_neg hb2] at h2
   rw[hb1,hup] at hl1;injection hl1 with hl1;subst hl1
   rw[hne b' hb2] at hl2
   have:=hlt b' r2 l2 h2 hl2
   omega
  ·rw[if_neg hb1] at h1
   rw[hb2,hup] at hl2;injection hl2 with hl2;subst hl2
   rw[hne b hb1] at hl1
   have:=hlt b r1 l1 h1 hl1
   omega
  ·rw[if_neg hb1] at h1
   rw[if_neg hb2] at h2
   rw[hne b hb1] at hl1
   rw[hne b' hb2] at hl2
   exact R.inj b b' r1 r2 l1 l2 h1 h2 hl1 hl2 he
 ·by_cases hb':b=id
  ·subst hb';exact .inr h0
  ·rw[hne b hb'] at h;exact S.new b l' h
 ·simp only[Array.size_push]
  have:=S.size;omega
 ·simp only
  have:=S.size
  rw[Array.getElem?_push,if_neg (by omega)]
  exact S.frame k hk hnr
 ·rintro k ⟨b,r',l',h1,h2,h3,h4⟩
  rw[aC.get_put] at h1
  by_cases hb':b=id
  ·rw[hb',hup] at h3;injection h3 with h3;subst h3
   left;have:=S.size;omega
  ·rw[if_neg hb'] at h1
   rw[hne b hb'] at h3
   exact S.evo k ⟨b,r',l',h1,h2,h3,h4⟩
 ·rintro k ⟨b,r',l',h1,h3,h4⟩
  rw[aC.get_put] at h1
  by_cases hb':b=id
  ·rw[hb',hup] at h3;injection h3 with h3;subst h3
   left;have:=S.size;omega
  ·rw[if_neg hb'] at h1
   rw[hne b hb'] at h3
   exact S.evl k ⟨b,r',l',h1,h3,h4⟩
structure CI (T:bQ) (ops:Array Oper) (base:Nat) (rk:List Nat) (c:Nat) (ι0:bS) (M0:aC) (w0:World) (pend:List Nat) (ι:bS) (st:St) (a:Act) (w:World):Prop where
 str:tF ι st a w
 stp:bR ι0 M0 w0 ι st.m w
 nxt:base+c≤st.m.next
 fl:∀ i∈pend,∀ o,ops[i]? =some o→eE T o= .flt→ι (base+rk.getD i 0)=none
section
variable {T:bQ} {ops:Array Oper} {base:Nat} {rk:List Nat} {ob:List (List Nat)} {K:St→Prop} {ι0 ι:bS} {M0:aC} {w0 w:World} {pend:List Nat} {a:Act} {st:St} {nt c:Nat} {perm:List Nat}
theorem aON(ok:T.Ok)(S:sO T nt ops)(hp:aAD T ops perm rk ob c)(hn:nt≤st.n)(hb:M0.next=base)(I:CI T ops base rk c ι0 M0 w0 pend ι st a w){i:Nat}{oi:Oper}(hi:ops[i]? =some oi)(him:i∈pend)
 {rest:List Nat} (hrest:∀ j∈rest,j∈pend∧j≠i) (h:stepX T ops (base+rk.getD i 0) oi st K) {Kc:Act→World→Prop} {Q:Exit→Act→World→Prop}
 (hk:∀ ι' a' w' s,CI T ops base rk c ι0 M0 w0 rest ι' s a' w'→s.n=st.n→K s→Kc a' w'):
 (wK ops st.t oi=some false∧Kc (a.put oi.dst undef) w)∨(wK ops st.t oi=some true∧oi.wp T.P a w Kc Q):=by
 obtain⟨s1,s2,s3,s4⟩:=I.str
 have hd:∀ t,oi.dst=some t→t<st.n:=fun t ht=>Nat.lt_of_lt_of_le (S.dlt i oi t hi ht) hn
 have put:∀ {ι':bS} {x:AV} {v:Value} {M':aC} {w':World},FrR ι' st.t a→VR ι' x v→bR ι0 M0 w0 ι' M' w'→base+c≤M'.next→
  (∀ j∈rest,∀ o,ops[j]? =some o→eE T o= .flt→ι' (base+rk.getD j 0)=none)→K (fV st oi.dst x M')→Kc (a.put oi.dst v) w':=fun {ι' x v M' w'} hf hv hS hnx hfl hK=>by
  obtain⟨q1,q2,q3⟩:=aOg hf s1 hd hv
  exact hk ι' _ w' (fV st oi.dst x M') ⟨⟨q2,q1,by rw[q3];exact s3,hS.rel⟩,hS,hnx,hfl⟩ rfl hK
 have flS:∀ {ι':bS} {M':aC} {w':World},bR ι st.m w ι' M' w'→∀ j∈rest,∀ o,ops[j]? =some o→eE T o= .flt→ι' (base+rk.getD j 0)=none:=fun {ι' M' w'} hS j hj o ho hc=>by
  have h0:=I.fl j (hrest j hj).1 o ho hc
  cases hq:ι' (base+rk.getD j 0) with
  | none=>rfl
  | some l=>
    rcases hS.new _ _ hq with h|h
    ·rw[h0] at h;cases h
    ·have:=hp.fid j o ho hc
     have:=I.nxt
     omega
 have go:∀ {ι':bS} {x:AV} {v:Value} {M':aC} {w':World},VR ι' x v→bR ι st.m w ι' M' w'→K (fV st oi.dst x M')→Kc (a.put oi.dst v) w':=fun {ι' x v M' w'} hv hS hK=>
  put (fun t=>(s2 t).mono hS.ext) hv (I.stp.trans hS) (Nat.le_trans I.nxt hS.nxt) (flS hS) hK
 unfold stepX at h
 obtain⟨b,hw,h⟩:=lU h
 cases b with
 | false=>exact .inl ⟨hw,go (VR.undef ι) (bR.refl s4) h⟩
 | true=>
   refine .inr ⟨hw,?_⟩
   rw[jF] at h
   cases hc:eE T oi <;> rw[hc] at h <;> simp only[lS,iR,fB,gH] at h
   case eff=>
    unfold wO at h
    cases hcal:dP st.t oi with
    | some cc=>
      obtain⟨g,args⟩:=cc
      rw[hcal,dA] at h
      obtain⟨F,hF,h⟩:=lU h
      exact aBL ok s2 s4 hcal hF h fun ι' v x M' w' h1 h2 h3=>go h1 h2 h3
    | none=>
      rw[hcal,fL] at h
      obtain⟨⟨x,M'⟩,hy,h⟩:=lU h
      obtain⟨ι',w',n,v,g1,g2,g3,g4⟩:=wG ok s4 s2 hy
      unfold Oper.wp
      rw[g1]
      rcases g2 with rfl|⟨rfl,rfl⟩
      ·exact go g3 g4 h
      ·exact go g3 g4 h
   case flt=>
    obtain⟨⟨x,row⟩,hy,h⟩:=lU h
    have hnone:=I.fl i him oi hi hc
    have hfid:=hp.fid i oi hi hc
    have hnx:=I.nxt
    obtain⟨v,obj,size,g1,g2,g3⟩:=aLG ok s2 hnone hy (w:=w)
    unfold Oper.wp
    rw[g1]
    refine put (fun t=>(s2 t).mono (rQ hnone)) g2 (I.stp.float (by omega) (by omega) hnone rfl g3) I.nxt (fun j hj o ho hcj=>?_) h
    have h0:=I.fl j (hrest j hj).1 o ho hcj
    have hne:base+rk.getD j 0≠base+rk.getD i 0:=fun he=>(hrest j hj).2 (hp.fin j i o oi ho hi hcj hc (by omega))
    unfold upd;rw[if_neg hne];exact h0
   all_goals
    obtain⟨⟨x,M'⟩,hy,h⟩:=lU h
    have hM:M'=st.m:=by first|exact aGD hc hy|(have:=uQ hc hy st.m;rw[hy] at this;injection this with this;injection this)
    subst hM
    obtain⟨ι',w',n,v,g1,g2,g3,g4⟩:=wG ok s4 s2 hy
    unfold Oper.wp
    rw[g1]
    rcases g2 with rfl|⟨rfl,rfl⟩
    ·exact go g3 g4 h
    ·exact go g3 g4 h
theorem aJ5{P:Program}{o:Oper}{Z:Prop}(h:o.wp P a w (fun _ _=>Z) (fun _ _ _=>Z)):Z:=by
 unfold Oper.wp at h
 generalize (execOp a.eval o).run P w=r at h
 cases r with
 | ok n w'=>
   cases n <;> simp only[Oper.upon] at h <;> first
    | exact h
    | (obtain⟨e,w2,fr,h1,_⟩:=h []
       cases e <;> first|exact h1|(obtain⟨_,_,h2⟩:=h1;exact h2))
    | (obtain⟨v,w2,h1,_⟩:=h (Frame.enter P 0 #[] .normal) [];exact h1)
 | halt x w'=>cases x <;> simp only[Oper.upon] at h <;> exact h
theorem aRK(ok:T.Ok)(S:sO T nt ops)(hp:aAD T ops perm rk ob c)(hb:M0.next=base){i:Nat}{oi:Oper}(hi:ops[i]? =some oi):
 ∀ {pre post acc:List Nat} {ι:bS} {st:St} {a:Act} {w:World},nt≤st.n→CI T ops base rk c ι0 M0 w0 (pre++i::post) ι st a w→(pre++i::post).Pairwise (Rl T ops ob)→(∀ j∈pre,bf (dW ops.toList []) j i=false)→
   wX T ops base rk ob (pre++i::post) acc st K→∃ st' K',Ag ops oi st'.t st.t∧stepX T ops (base+rk.getD i 0) oi st' K':=by
 intro pre
 induction pre with
 | nil=>
   intro post acc ι st a w _ _ _ _ h
   simp only[List.nil_append] at h
   unfold wX at h
   rw[hi,eM] at h
   exact⟨st,_,Ag.refl _,h⟩
 | cons j pre ih=>
   intro post acc ι st a w hn I hpw hnb h
   simp only[List.cons_append] at h hpw I
   unfold wX at h
   obtain⟨oj,hj,h⟩:=lU h
   obtain⟨hpj,hpw⟩:=List.pairwise_cons.1 hpw
   have R:=hpj i (by simp)
   have A:=aAB S hi hj R.ne R.nb (hnb j (by simp))
   have key:=aON (Q:=fun _ _ _=>∃ st' K',Ag ops oi st'.t st.t∧stepX T ops (base+rk.getD i 0) oi st' K') (Kc:=fun _ _=>∃ st' K',Ag ops oi st'.t st.t∧stepX T ops (base+rk.getD i 0) oi st' K')
    ok S hp hn hb I hj (by simp) (rest:=pre++i::post) (fun k hk=>⟨by simp only[List.mem_cons];exact .inr hk,(hpj k hk).ne.symm⟩) (aFM h) (by
     rintro ι' a' w' s I' hsn ⟨⟨_,hs⟩,y,N,rfl⟩
     obtain⟨st',K',h1,h2⟩:=ih (by rw[hsn];exact hn) I' hpw (fun j' hj'=>hnb j' (by simp[hj'])) hs
     exact⟨st',K',h1.trans (Ag.setd st.t y A.ij),h2⟩)
   rcases key with⟨_,h1⟩|⟨_,h1⟩
   ·exact h1
   ·exact aJ5 h1
end
theorem aFC{listed:Array Bool}{i:Nat}(hi:i<listed.size):∀ {l pre post:List Nat},l.Nodup→l.filter (fun j=> !listed.getD j false)=pre++i::post→
 l.filter (fun j=> !(listed.setIfInBounds i true).getD j false)=pre++post:=by
 intro l pre post hnd h
 have e:(fun j=> !(listed.setIfInBounds i true).getD j false)=fun j=>(!listed.getD j false)&&decide (j≠i):=by
  funext j
  rw[aAU listed i j hi]
  by_cases hj:j=i
  ·simp[hj]
  ·simp[hj]
 rw[e]
 have:(l.filter fun j=>(!listed.getD j false)&&decide (j≠i))=(l.filter fun j=> !listed.getD j false).filter fun j=>decide (j≠i):=by
  rw[List.filter_filter]
  congr 1
  funext j
  rw[Bool.and_comm]
 rw[this,h]
 have hnd2:(pre++i::post).Nodup:=h▸hnd.filter _
 rw[List.nodup_append] at hnd2
 obtain⟨_,h2,h3⟩:=hnd2
 rw[List.nodup_cons] at h2
 rw[List.filter_append,List.filter_cons]
 simp only[ne_eq,not_true_eq_false,decide_false,Bool.false_eq_true,if_false]
 rw[List.filter_eq_self.2,List.filter_eq_self.2]
 ·intro a ha
  simp only[decide_eq_true_eq]
  intro he;subst he;exact h2.1 ha
 ·intro a ha
  simp only[decide_eq_true_eq]
  intro he;subst he;exact h3 a ha a (by simp) rfl
theorem aSg{T:bQ}(ok:T.Ok)(hmix:T.P.follows .mixedOrders=true){nt id:Nat}{ops:Array Oper}(S:sO T nt ops){st0:St}(hn:nt≤st0.n){Q:Ex→St→Prop}{perm rk:List Nat}{ob:List (List Nat)}{c:Nat}
 (hpb:aEp T ops perm rk ob c=true) (h:wX T ops st0.m.next rk ob perm [] { n:=st0.n,t:=st0.t,m:={ next:=st0.m.next+c,rows:=st0.m.rows } } (Q .normal)):mL T.P (.region id ops true) st0 Q:=by
 have hp:=aKF hpb
 have hnd:perm.Nodup:=hp.pair.imp fun h=>h.ne
 intro ι0 a0 w0 hs
 refine wp_region_any hmix ?_
 have key:∀ (fuel:Nat) (listed:Array Bool) (a:Act) (w:World) (ι:bS) (st:St),CI T ops st0.m.next rk c ι0 st0.m w0 (perm.filter fun j=> !listed.getD j false) ι st a w→listed.size=ops.size→
  aFB ops.toList (fun j=>listed.getD j false)→unl listed ops.size≤fuel→nt≤st.n→wX T ops st0.m.next rk ob (perm.filter fun j=> !listed.getD j false) [] st (Q .normal)→
  wpAny T.P .any ops (iM ι0 st0.m w0 Q) fuel listed a w:=by
  have fin:∀ (listed:Array Bool) (a:Act) (w:World) (ι:bS) (st:St),CI T ops st0.m.next rk c ι0 st0.m w0 (perm.filter fun j=> !listed.getD j false) ι st a w→(∀ j,j<ops.size→listed.getD j false=true)→
   wX T ops st0.m.next rk ob (perm.filter fun j=> !listed.getD j false) [] st (Q .normal)→iM ι0 st0.m w0 Q .normal a w:=by
   intro listed a w ι st I hall hx
   have:(perm.filter fun j=> !listed.getD j false)=[]:=by
    rw[List.filter_eq_nil_iff]
    intro j hj
    rw[hall j (hp.lt j hj)];simp
   rw[this] at hx
   exact⟨ι,.normal,st,rfl,I.str,I.stp,hx⟩
  intro fuel
  induction fuel with
  | zero=>
    intro listed a w ι st I hsz hcl hun hnst hx
    have hall:=aKl (show unl listed ops.size=0 by omega)
    refine⟨?_,fin listed a w ι st I hall hx⟩
    apply List.eq_nil_iff_forall_not_mem.2
    intro i hrdy
    obtain⟨h0,o,ho,_⟩:=mem_ready.1 hrdy
    have hlt:i<ops.size:=(Array.getElem?_eq_some_iff.1 ho).1
    have:=hall i hlt
    rw[Array.getD_eq_getD_getElem?,Array.getElem?_eq_getElem (by omega)] at h0 this
    simp only[Option.getD_some] at h0 this
    rw[h0] at this;cases this
  | succ fuel ih=>
    intro listed a w ι st I hsz hcl hun hnst hx
    refine⟨fun hnil=>?_,fun i hrdy=>?_⟩
    ·refine fin listed a w ι st I (fun i=>?_) hx
     induction i using Nat.strongRecOn with
     | _ i ihi=>
       intro hi
       cases hL:listed.getD i false with
       | true=>rfl
       | false=>
         exfalso
         have:i∈Region.ready .any ops listed:=by
          refine mem_ready.2 ⟨?_,ops[i],by simp[hi],fun e he hb=>?_⟩
          ·rw[Array.getD_eq_getD_getElem?,Array.getElem?_eq_getElem (by omega)] at hL ⊢
           exact hL
          ·have:=S.back i ops[i] (by simp[hi]) e (by simpa using he) hb
           exact ihi e.on this (by omega)
         rw[hnil] at this
         cases this
    ·obtain⟨h0,o,ho,hedge⟩:=mem_ready.1 hrdy
     have hlt:i<ops.size:=(Array.getElem?_eq_some_iff.1 ho).1
     have hLi:listed.getD i false=false:=by
      rw[Array.getD_eq_getD_getElem?,Array.getElem?_eq_getElem (by omega)] at h0 ⊢
      exact h0
     have hr:∀ e∈o.after.toList,nX e=true→listed.getD e.on false=true:=fun e he hb=>hedge e (by simpa using he) hb
     have hun':unl (listed.setIfInBounds i true) ops.size≤fuel:=by
      have:=aHt listed i (by omega) hLi ops.size
      rw[if_pos hlt] at this
      omega
     have hsz':(listed.setIfInBounds i true).size=ops.size:=by simp[hsz]
     have hgd:=fun j=>aAU listed i j (by omega)
     have hcl':aFB ops.toList (fun j=>(listed.setIfInBounds i true).getD j false):=by
      intro j oj hj hLj e he hb
      simp only at hLj ⊢
      rw[hgd] at hLj ⊢
      by_cases hji:j=i
      ·subst hji
       have:ops.toList[j]? =some o:=by simpa using ho
       rw[this] at hj;injection hj with hj;subst hj
       rw[hr e he hb];simp
      ·simp only[hji,decide_false,Bool.false_or] at hLj
       have:=hcl j oj hj hLj e he hb
       simp only at this
       rw[this];simp
     have him:i∈perm.filter fun j=> !listed.getD j false:=by
      rw[List.mem_filter]
      exact⟨hp.all i hlt,by rw[hLi];rfl⟩
     obtain⟨pre,post,hpp⟩:=List.append_of_mem him
     have hpend':=aFC (by omega) hnd hpp
     have hpw:(pre++i::post).Pairwise (Rl T ops ob):=hpp▸hp.pair.sublist List.filter_sublist
     obtain⟨hpw1,hpw2,hpw3⟩:=List.pairwise_append.1 hpw
     obtain⟨hpw4,hpw5⟩:=List.pairwise_cons.1 hpw2
     have hprenl:∀ j∈pre,listed.getD j false=false:=fun j hj=>by
      have:j∈perm.filter fun j=> !listed.getD j false:=by rw[hpp];simp[hj]
      rw[List.mem_filter] at this
      simpa using this.2
     have hnb:∀ j∈pre,bf (dW ops.toList []) j i=false:=fun j hj=>by
      cases hb:bf (dW ops.toList []) j i with
      | false=>rfl
      | true=>
        have:=aCd S.back hcl i o (by simpa using ho) hr hb
        have h2:=hprenl j hj
        rw[h2] at this;cases this
     have hpre:∀ j∈pre,Rl T ops ob j i∧bf (dW ops.toList []) j i=false:=fun j hj=>⟨hpw3 j hj i (by simp),hnb j hj⟩
     rw[hpp] at hx I
     have hrest:∀ j∈pre++post,j∈pre++i::post∧j≠i:=fun j hj=>by
      rw[List.mem_append] at hj
      rcases hj with hj|hj
      ·exact⟨by simp[hj],(hpw3 j hj i (by simp)).ne⟩
      ·exact⟨by simp[hj],(hpw4 j hj).ne.symm⟩
     have hfirst:stepX T ops (st0.m.next+rk.getD i 0) o st fun s=>wX T ops st0.m.next rk ob (pre++post) [] s (Q .normal):=by
      have early:eE T o= .pure∨eE T o= .flt→stepX T ops (st0.m.next+rk.getD i 0) o st fun s=>wX T ops st0.m.next rk ob (pre++post) [] s (Q .normal):=fun hc=>by
       obtain⟨st',K',hag,hst'⟩:=aRK ok S hp rfl ho hnst I hpw hnb hx
       obtain⟨x,r,hE,h1,h2,h3⟩:=aJy hc hst'
       have hE:=hE.ag hag.symm
       refine (hE st.n st.t st.m _ (Ag.refl _)).2 (aJK S hp ho (fun hne=>(h2 hne).1) hpre (by simp) hE ?_ hx)
       by_cases hrn:r=none
       ·exact .inl hrn
       ·obtain⟨hcf,_⟩:=h2 hrn
        refine .inr ⟨?_,?_⟩
        ·cases hg:st.m.get (st0.m.next+rk.getD i 0) with
         | none=>rfl
         | some row=>
           obtain⟨l,hl,_⟩:=I.str.2.2.2.live _ _ hg
           have:=I.fl i (by simp) o ho hcf
           rw[this] at hl;cases hl
        ·have:=hp.fid i o ho hcf
         have:=I.nxt
         show st0.m.next+rk.getD i 0<st.m.next
         omega
      cases hc:eE T o with
      | pure=>exact early (.inl hc)
      | flt=>exact early (.inr hc)
      | read=>exact kR (fun s hs=>hs.2) (aDJ S hp ho (.inl hc) hpre (by simp) hpw1 hx)
      | eff=>exact kR (fun s hs=>hs.2) (aDJ S hp ho (.inr hc) hpre (by simp) hpw1 hx)
     have key:=aON (Q:=iM ι0 st0.m w0 Q) (Kc:=wpAny T.P .any ops (iM ι0 st0.m w0 Q) fuel (listed.setIfInBounds i true)) ok S hp hnst rfl I ho (by simp) hrest hfirst (by
      intro ι' a' w' s I' hsn hs
      exact ih _ a' w' ι' s (by rw[hpend'];exact I') hsz' hcl' hun' (by rw[hsn];exact hnst) (by rw[hpend'];exact hs))
     unfold wpOp
     rw[ho]
     simp only
     rcases key with⟨hw,h1⟩|⟨hw,h1⟩
     ·rw[mU I.str.2.1 hw,if_neg (by simp)]
      exact h1
     ·rw[mU I.str.2.1 hw,if_pos rfl]
      exact .inl h1
 have hemp:∀ j,(Array.replicate ops.size false).getD j false=false:=fun j=>by
  simp[Array.getElem?_replicate]
  split <;> simp
 have hpe:(perm.filter fun j=> !(Array.replicate ops.size false).getD j false)=perm:=by
  rw[List.filter_eq_self]
  intro j _
  rw[hemp];rfl
 have h0:bR ι0 st0.m w0 ι0 st0.m { w0 with drawn:=w0.drawn+1 }:=bR.of_heap hs.2.2.2 rfl rfl rfl rfl
 have h1:bR ι0 st0.m w0 ι0 { next:=st0.m.next+c,rows:=st0.m.rows } { w0 with drawn:=w0.drawn+1 }:=h0.forget (Nat.le_add_right _ _) (fun b r h=>h)
 refine key ops.size _ a0 _ ι0 { n:=st0.n,t:=st0.t,m:={ next:=st0.m.next+c,rows:=st0.m.rows } } ⟨⟨hs.1,hs.2.1,hs.2.2.1,h1.rel⟩,h1,Nat.le_refl _,fun i _ o _ _=>?_⟩ (by simp) ?_ ?_ hn ?_
 ·cases hq:ι0 (st0.m.next+rk.getD i 0) with
  | none=>rfl
  | some l=>have:=hs.2.2.2.dom _ _ hq;omega
 ·intro j oj _ hL
  simp only at hL
  rw[hemp] at hL;cases hL
 ·unfold unl
  exact Nat.le_trans (List.countP_le_length) (by simp)
 ·rw[hpe];exact h
def aRI(t:Tr AV):Option Tmp→AV→Prop
 | none,_=>True
 | some d,x=>t.get d=some x
def aQf(T:bQ)(ops:Array Oper)(s:St)(j:Nat):Prop:=
 aA ops[j]? fun o=>aA (wK ops s.t o) fun b=>aE b (aA (bX T s.t o s.m) fun y=>aRI s.t o.dst y.1) True
theorem aMC{T:bQ}{ops:Array Oper}{s:St}{j:Nat}(h:aQf T ops s j):aIy T ops s j:=by
 intro o ho hw
 unfold aQf at h
 rw[ho,eM,hw,eM,jF] at h
 obtain⟨⟨x,M'⟩,hx,h⟩:=lU h
 refine⟨x,M',hx,fun d hd=>?_⟩
 rw[hd] at h
 exact h
def aEP(T:bQ)(ops:Array Oper):List Nat→St→(St→Prop)→Prop
 | [],s,K=>K s
 | k::ks,s,K=>aQf T ops s k∧aEP T ops ks s K
theorem aGx{T:bQ}{ops:Array Oper}{s:St}{K:St→Prop}:∀ {ks:List Nat},aEP T ops ks s K→aIs T ops ks s∧K s
 | [],h=>⟨fun j hj=>by simp at hj,h⟩
 | k::ks,h=>by
   obtain⟨h1,h2⟩:=aGx h.2
   refine⟨fun j hj=>?_,h2⟩
   simp only[List.mem_cons] at hj
   rcases hj with rfl|hj
   ·exact aMC h.1
   ·exact h1 j hj
def wY(T:bQ)(ops:Array Oper)(base:Nat)(rk:List Nat):List (Nat×List Nat)→St→(St→Prop)→Prop
 | [],st,K=>K st
 | i::is,st,K=>aA ops[i.1]? fun o=>stepX T ops (base+rk.getD i.1 0) o st fun s=>aEP T ops i.2 s fun s=>wY T ops base rk is s K
def uW(ob:List (List Nat)):List Nat→List Nat→List (Nat×List Nat)
 | [],_=>[]
 | i::is,acc=>(i,obs ob i acc)::uW ob is (i::acc)
theorem aOS{T:bQ}{ops:Array Oper}{base:Nat}{rk:List Nat}{ob:List (List Nat)}{K:St→Prop}:∀ {perm acc:List Nat} {st:St},wY T ops base rk (uW ob perm acc) st K→wX T ops base rk ob perm acc st K
 | [],_,_,h=>h
 | i::is,acc,st,h=>by
   unfold uW wY at h
   unfold wX
   obtain⟨o,ho,h⟩:=lU h
   simp only at ho h
   rw[ho,eM]
   refine kR (fun s hs=>?_) h
   obtain⟨h1,h2⟩:=aGx hs
   exact⟨h1,aOS h2⟩
theorem aRM{T:bQ}(ok:T.Ok)(hmix:T.P.follows .mixedOrders=true)(nt:Nat){id:Nat}{ops:Array Oper}(S:aDn T nt ops=true){st0:St}(hn:nt≤st0.n){Q:Ex→St→Prop}(steps:List (Nat×List Nat))(rk:List Nat)(ob:List (List Nat))(c:Nat)
 (hpb:aEp T ops (steps.map (·.1)) rk ob c=true) (hst:uW ob (steps.map (·.1)) []=steps)
 (h:wY T ops st0.m.next rk steps { n:=st0.n,t:=st0.t,m:={ next:=st0.m.next+c,rows:=st0.m.rows } } (Q .normal)):mL T.P (.region id ops true) st0 Q:=
 aSg ok hmix (aFb S) hn hpb (aOS (by rw[hst];exact h))
section
variable {T:bQ} {ops:Array Oper} {base:Nat} {rk:List Nat} {st:St} {K:St→Prop}
end
inductive LK where
 | any
 | int (k:IntKind)
 | bool
inductive CK where
 | l (x:LK)
 | a (xs:List LK)
inductive SK where
 | non
 | int (k:IntKind)
 | bool
 | spl
 | ptr
 | agg (ls:List LK)
 | tup (cs:List CK)
def zI(k:IntKind)(v:AV)(K:Int→Prop):Prop:=
 match v with
 | .val (.int k' z)=>aE (lX k' k) (K z) False
 | _=>False
def zB(v:AV)(K:Bool→Prop):Prop:=
 match v with
 | .val (.bool b)=>K b
 | _=>False
def zSB(v:AV)(p q:Prop):Prop:=
 match v with
 | .val (.bool b)=>aE b p q
 | _=>False
def zP(v:AV)(K:Nat→Nat→Prop):Prop:=
 match v with
 | .ptr b o=>K b o
 | _=>False
def zL(k:LK)(v:AV)(K:AV→Prop):Prop:=
 match k with
 | .any=>K v
 | .int k=>zI k v fun z=>K (.val (.int k z))
 | .bool=>zB v fun b=>K (.val (.bool b))
def aDy:List LK→(List AV→Prop)→Prop
 | [],f=>f []
 | .any::r,f=>∃ v:AV,aDy r fun vs=>f (v::vs)
 | .int k::r,f=>∃ z:Int,aDy r fun vs=>f (.val (.int k z)::vs)
 | .bool::r,f=>∃ b:Bool,aDy r fun vs=>f (.val (.bool b)::vs)
def aBu:List CK→(List AV→Prop)→Prop
 | [],f=>f []
 | .l .any::r,f=>∃ v:AV,aBu r fun vs=>f (v::vs)
 | .l (.int k)::r,f=>∃ z:Int,aBu r fun vs=>f (.val (.int k z)::vs)
 | .l .bool::r,f=>∃ b:Bool,aBu r fun vs=>f (.val (.bool b)::vs)
 | .a xs::r,f=>aDy xs fun us=>aBu r fun vs=>f (.agg us::vs)
def zA(ls:List LK)(v:AV)(K:List AV→Prop):Prop:=aDy ls fun vs=>v= .agg vs∧K vs
def zC(k:CK)(v:AV)(K:AV→Prop):Prop:=
 match k with
 | .l x=>zL x v K
 | .a xs=>zA xs v fun vs=>K (.agg vs)
def zCs:List CK→List AV→(List AV→Prop)→Prop
 | [],[],K=>K []
 | c::cs,v::vs,K=>zC c v fun v'=>zCs cs vs fun vs'=>K (v'::vs')
 | _,_,_=>False
def zT(cs:List CK)(v:AV)(K:List AV→Prop):Prop:=aBu cs fun vs=>v= .tup vs∧K vs
def asK(k:SK)(v:AV)(K:AV→Prop):Prop:=
 match k with
 | .non=>K v
 | .int k=>zI k v fun z=>K (.val (.int k z))
 | .bool=>zB v fun b=>K (.val (.bool b))
 | .spl=>zSB v (K (.val (.bool true))) (K (.val (.bool false)))
 | .ptr=>zP v fun b o=>K (.ptr b o)
 | .agg ls=>zA ls v fun vs=>K (.agg vs)
 | .tup cs=>zT cs v fun vs=>K (.tup vs)
theorem aDr{k:IntKind}{v:AV}{K:Int→Prop}(h:zI k v K):∃ z,v= .val (.int k z)∧K z:=by
 unfold zI at h
 split at h
 ·rename_i k' z
  cases hk:lX k' k with
  | true=>rw[hk] at h;rw[tG hk];exact⟨z,rfl,h⟩
  | false=>rw[hk] at h;exact h.elim
 ·exact h.elim
theorem rM{v:AV}{K:Bool→Prop}(h:zB v K):∃ z,v= .val (.bool z)∧K z:=by
 unfold zB at h
 split at h
 ·exact⟨_,rfl,h⟩
 ·exact h.elim
theorem aJG{v:AV}{p q:Prop}(h:zSB v p q):(v= .val (.bool true)∧p)∨(v= .val (.bool false)∧q):=by
 unfold zSB at h
 split at h
 ·rename_i b
  cases b with
  | true=>exact .inl ⟨rfl,h⟩
  | false=>exact .inr ⟨rfl,h⟩
 ·exact h.elim
theorem aLR{v:AV}{K:Nat→Nat→Prop}(h:zP v K):∃ b o,v= .ptr b o∧K b o:=by
 unfold zP at h
 split at h
 ·exact⟨_,_,rfl,h⟩
 ·exact h.elim
theorem aNk{k:LK}{v:AV}{K:AV→Prop}(h:zL k v K):K v:=by
 cases k with
 | any=>exact h
 | int k=>obtain⟨z,rfl,h'⟩:=aDr h;exact h'
 | bool=>obtain⟨z,rfl,h'⟩:=rM h;exact h'
theorem oI:∀ {ls:List LK} {f:List AV→Prop},aDy ls f→∃ vs,f vs
 | [],_,h=>⟨[],h⟩
 | .any::r,f,⟨v,h⟩=>(oI (ls:=r) h).elim fun vs hv=>⟨_,hv⟩
 | .int k::r,f,⟨v,h⟩=>(oI (ls:=r) h).elim fun vs hv=>⟨_,hv⟩
 | .bool::r,f,⟨v,h⟩=>(oI (ls:=r) h).elim fun vs hv=>⟨_,hv⟩
theorem oR:∀ {ls:List CK} {f:List AV→Prop},aBu ls f→∃ vs,f vs
 | [],_,h=>⟨[],h⟩
 | .l .any::r,f,⟨v,h⟩=>(oR (ls:=r) h).elim fun vs hv=>⟨_,hv⟩
 | .l (.int k)::r,f,⟨v,h⟩=>(oR (ls:=r) h).elim fun vs hv=>⟨_,hv⟩
 | .l .bool::r,f,⟨v,h⟩=>(oR (ls:=r) h).elim fun vs hv=>⟨_,hv⟩
 | .a xs::r,f,h=>by
   obtain⟨us,h⟩:=oI (ls:=xs) h
   obtain⟨vs,h⟩:=oR (ls:=r) h
   exact⟨_,h⟩
theorem oJ:∀ {ls:List LK} {f g:List AV→Prop},(∀ vs,f vs→g vs)→aDy ls f→aDy ls g
 | [],_,_,hk,h=>hk _ h
 | .any::r,_,_,hk,⟨v,h⟩=>⟨v,oJ (ls:=r) (fun vs hv=>hk _ hv) h⟩
 | .int k::r,_,_,hk,⟨v,h⟩=>⟨v,oJ (ls:=r) (fun vs hv=>hk _ hv) h⟩
 | .bool::r,_,_,hk,⟨v,h⟩=>⟨v,oJ (ls:=r) (fun vs hv=>hk _ hv) h⟩
theorem oP:∀ {ls:List CK} {f g:List AV→Prop},(∀ vs,f vs→g vs)→aBu ls f→aBu ls g
 | [],_,_,hk,h=>hk _ h
 | .l .any::r,_,_,hk,⟨v,h⟩=>⟨v,oP (ls:=r) (fun vs hv=>hk _ hv) h⟩
 | .l (.int k)::r,_,_,hk,⟨v,h⟩=>⟨v,oP (ls:=r) (fun vs hv=>hk _ hv) h⟩
 | .l .bool::r,_,_,hk,⟨v,h⟩=>⟨v,oP (ls:=r) (fun vs hv=>hk _ hv) h⟩
 | .a xs::r,f,g,hk,h=>oJ (ls:=xs) (f:=fun us=>aBu r fun vs=>f (.agg us::vs)) (g:=fun us=>aBu r fun vs=>g (.agg us::vs)) (fun us hu=>oP (ls:=r) (fun vs hv=>hk _ hv) hu) h
theorem aHm{ls:List LK}{v:AV}{K:List AV→Prop}(h:zA ls v K):∃ vs,v= .agg vs∧K vs:=oI h
theorem aOn{k:CK}{v:AV}{K:AV→Prop}(h:zC k v K):K v:=by
 cases k with
 | l x=>exact aNk h
 | a xs=>obtain⟨vs,rfl,h'⟩:=aHm h;exact h'
theorem aDG:∀ {ls:List CK} {vs:List AV} {K:List AV→Prop},zCs ls vs K→K vs
 | [],[],_,h=>h
 | [],_::_,_,h=>h.elim
 | _::_,[],_,h=>h.elim
 | _::ls,v::vs,K,h=>aDG (ls:=ls) (vs:=vs) (K:=fun vs'=>K (v::vs')) (aOn (K:=fun v'=>zCs ls vs fun vs'=>K (v'::vs')) h)
theorem aMY{ls:List CK}{v:AV}{K:List AV→Prop}(h:zT ls v K):∃ vs,v= .tup vs∧K vs:=oR h
theorem qY{k:SK}{v:AV}{K:AV→Prop}(h:asK k v K):K v:=by
 cases k with
 | non=>exact h
 | int k=>obtain⟨z,rfl,h'⟩:=aDr h;exact h'
 | bool=>obtain⟨z,rfl,h'⟩:=rM h;exact h'
 | spl=>rcases aJG (p:=K (.val (.bool true))) (q:=K (.val (.bool false))) h with⟨rfl,h'⟩|⟨rfl,h'⟩ <;> exact h'
 | ptr=>obtain⟨b,o,rfl,h'⟩:=aLR (K:=fun b o=>K (.ptr b o)) h;exact h'
 | agg ls=>obtain⟨vs,rfl,h'⟩:=aHm (K:=fun vs=>K (.agg vs)) h;exact h'
 | tup cs=>obtain⟨vs,rfl,h'⟩:=aMY (K:=fun vs=>K (.tup vs)) h;exact h'
def JT:List LK→Type
 | []=>Nat→aC→Prop
 | .any::r=>AV→JT r
 | .int _::r=>Int→JT r
 | .bool::r=>Bool→JT r
def yX:(ks:List LK)→JT ks→List AV→Nat→aC→Prop
 | [],J,[],n,m=>J n m
 | .any::r,J,v::vs,n,m=>yX r (J v) vs n m
 | .int k::r,J,v::vs,n,m=>zI k v fun z=>yX r (J z) vs n m
 | .bool::r,J,v::vs,n,m=>zB v fun b=>yX r (J b) vs n m
 | _,_,_,_,_=>False
def aAv:(ks:List LK)→(List AV→Prop)→Prop
 | [],f=>f []
 | .any::r,f=>∀ v:AV,aAv r fun vs=>f (v::vs)
 | .int k::r,f=>∀ z:Int,aAv r fun vs=>f (.val (.int k z)::vs)
 | .bool::r,f=>∀ b:Bool,aAv r fun vs=>f (.val (.bool b)::vs)
theorem kH:∀ {ks:List LK} {J:JT ks} {vs:List AV} {n:Nat} {m:aC} {f:List AV→Prop},aAv ks f→yX ks J vs n m→f vs
 | [],_,[],_,_,_,h,_=>h
 | [],_,_::_,_,_,_,_,hj=>hj.elim
 | .any::r,J,[],_,_,_,_,hj=>hj.elim
 | .int k::r,J,[],_,_,_,_,hj=>hj.elim
 | .bool::r,J,[],_,_,_,_,hj=>hj.elim
 | .any::r,J,v::vs,n,m,f,h,hj=>kH (ks:=r) (J:=J v) (f:=fun vs=>f (v::vs)) (h v) hj
 | .int k::r,J,v::vs,n,m,f,h,hj=>by
   obtain⟨z,rfl,hj'⟩:=aDr hj
   exact kH (ks:=r) (J:=J z) (f:=fun vs=>f (.val (.int k z)::vs)) (h z) hj'
 | .bool::r,J,v::vs,n,m,f,h,hj=>by
   obtain⟨z,rfl,hj'⟩:=rM hj
   exact kH (ks:=r) (J:=J z) (f:=fun vs=>f (.val (.bool z)::vs)) (h z) hj'
inductive An where
 | z
 | reg (ks:List SK)
 | opn (steps:List (Nat×List Nat)) (rk:List Nat) (ob:List (List Nat)) (c:Nat) (ks:List SK)
 | seq (a b:An)
 | cnd (a b:An)
 | blk (a:An)
 | lop (sl:List (Tmp×LK)) (junk:List Tmp) (a:An)
 | mlp (ks:List SK) (sl:List (Tmp×LK)) (junk:List Tmp) (ke:List SK) (a:An)
 | scp (L F:Nat) (ap:An) (sl:List (Tmp×LK)) (junk:List Tmp) (ar aF:An)
def sR(L:Nat):Code→Option (Code×Code)
 | .seq a b=>match a with
   | .label l=>cond (Nat.beq l L) (some (.skip,b)) (match sR L b with
     | some (p,r)=>some (.seq (.label l) p,r)
     | none=>none)
   | a=>match findLabel a L with
     | some _=>none
     | none=>match sR L b with
       | some (p,r)=>some (.seq a p,r)
       | none=>none
 | _=>none
def aC5(L F:Nat)(B K:St→Prop)(Q:Ex→St→Prop):Ex→St→Prop
 | .goto l,s=>cond (Nat.beq l L) (B s) (cond (Nat.beq l F) (K s) False)
 | ex,s=>Q ex s
def aCZ(L:Nat)(B:St→Prop)(Q:Ex→St→Prop):Ex→St→Prop
 | .goto l,s=>cond (Nat.beq l L) (B s) False
 | ex,s=>Q ex s
def aCz(K:St→Prop)(Q:Ex→St→Prop):Ex→St→Prop
 | .normal,s=>K s
 | .goto _,_=>False
 | ex,s=>Q ex s
def aCh(T:bQ)(ops:Array Oper)(id:Nat)(o:Oper)(k:SK)(st:St)(K:St→Prop):Prop:=
 aA (wK ops st.t o) fun b=>aE b
  (aFN (eE T o)
   (wO T o st fun x M'=>asK k x fun x=>K (fV st o.dst x M'))
   (aA (yR T st.t o id) fun y=>asK k y.1 fun x=>K (fV st o.dst x (st.m.put id y.2)))
   (aA (bX T st.t o st.m) fun y=>asK k y.1 fun x=>K (fV st o.dst x st.m)))
  (K (fV st o.dst eY st.m))
def aG3:List SK→SK
 | []=> .non
 | k::_=>k
def zO(T:bQ)(ops:Array Oper):List Oper→List SK→St→(St→Prop)→Prop
 | [],_,st,K=>K st
 | o::r,ks,st,K=>aA (wK ops st.t o) fun b=>aE b
    (aFN (eE T o)
     (wO T o st fun x M'=>asK (aG3 ks) x fun x=>zO T ops r ks.tail (fV st o.dst x M') K)
     (aA (bX T st.t o st.m) fun y=>asK (aG3 ks) y.1 fun x=>zO T ops r ks.tail (fV st o.dst x y.2) K)
     (aA (bX T st.t o st.m) fun y=>asK (aG3 ks) y.1 fun x=>zO T ops r ks.tail (fV st o.dst x st.m) K))
    (zO T ops r ks.tail (fV st o.dst eY st.m) K)
def zY(T:bQ)(ops:Array Oper)(base:Nat)(rk:List Nat):List (Nat×List Nat)→List SK→St→(St→Prop)→Prop
 | [],_,st,K=>K st
 | i::is,ks,st,K=>aA ops[i.1]? fun o=>aCh T ops (base+rk.getD i.1 0) o (aG3 ks) st fun s=>aEP T ops i.2 s fun s=>zY T ops base rk is ks.tail s K
def setS:List (Tmp×LK)→List AV→Tr AV→Tr AV
 | s::sl,v::vs,t=>setS sl vs (t.set s.1 (some v))
 | _,_,t=>t
def iN(js:Nat→Option AV):List Tmp→Tr AV→Tr AV
 | [],t=>t
 | j::r,t=>iN js r (t.set j (js j))
def cI(t:Tr AV)(sl:List (Tmp×LK)):List AV:=sl.map fun s=>(t.get s.1).getD eY
def jH(M:aC)(x:AV):Option (Option Nat×List (AV×AV)):=match x with
 | .val (.map none)=>some (none,[])
 | .map b=>match M.get b with
   | some (.map es)=>some (some b,es)
   | _=>none
 | _=>none
def lP(M:aC):Option Nat→aC
 | none=>M
 | some b=>M.kill b
def lT(M:aC)(e:Option Nat×List (AV×AV)):aC:=match e.1 with
 | none=>M
 | some b=>M.put b (.map e.2)
def uS(o:Oper):Option (TypeId×Operand×Tmp):=match o.op,o.dst,o.guard with
 | .range t x,some d,none=>some (t,x,d)
 | _,_,_=>none
def aAr(o:Oper):Option (Tmp×Tmp):=match o.op,o.dst,o.guard with
 | .next (.tmp t) false,some d,none=>some (t,d)
 | _,_,_=>none
def aAT(o:Oper):Option (Tmp×Tmp):=match o.op,o.dst,o.guard with
 | .extract (.tmp t) 0,some d,none=>some (t,d)
 | _,_,_=>none
def tM(o:Oper):Option (Tmp×Tmp):=match o.op,o.dst,o.guard with
 | .entry (.tmp t),some d,none=>some (t,d)
 | _,_,_=>none
theorem aBl{o:Oper}{t x d}(h:uS o=some (t,x,d)):o.op= .range t x∧o.dst=some d∧o.guard=none:=by
 unfold uS at h
 split at h
 ·rename_i h1 h2 h3
  simp only[Option.some.injEq,Prod.mk.injEq] at h
  obtain⟨rfl,rfl,rfl⟩:=h
  exact⟨h1,h2,h3⟩
 ·cases h
theorem aBY{o:Oper}{t d}(h:aAr o=some (t,d)):o.op= .next (.tmp t) false∧o.dst=some d∧o.guard=none:=by
 unfold aAr at h
 split at h
 ·rename_i h1 h2 h3
  simp only[Option.some.injEq,Prod.mk.injEq] at h
  obtain⟨rfl,rfl⟩:=h
  exact⟨h1,h2,h3⟩
 ·cases h
theorem aB1{o:Oper}{t d}(h:aAT o=some (t,d)):o.op= .extract (.tmp t) 0∧o.dst=some d∧o.guard=none:=by
 unfold aAT at h
 split at h
 ·rename_i h1 h2 h3
  simp only[Option.some.injEq,Prod.mk.injEq] at h
  obtain⟨rfl,rfl⟩:=h
  exact⟨h1,h2,h3⟩
 ·cases h
theorem aAG{o:Oper}{t d}(h:tM o=some (t,d)):o.op= .entry (.tmp t)∧o.dst=some d∧o.guard=none:=by
 unfold tM at h
 split at h
 ·rename_i h1 h2 h3
  simp only[Option.some.injEq,Prod.mk.injEq] at h
  obtain⟨rfl,rfl⟩:=h
  exact⟨h1,h2,h3⟩
 ·cases h
def oK{α:Type}:List α→Option (List α×α)
 | []=>none
 | [x]=>some ([],x)
 | x::y::l=>match oK (y::l) with
   | some q=>some (x::q.1,q.2)
   | none=>none
theorem uG{α:Type}:∀ {l p:List α} {x:α},oK l=some (p,x)→l=p++[x]
 | [],_,_,h=>by cases h
 | [y],p,x,h=>by
   simp only[oK,Option.some.injEq,Prod.mk.injEq] at h
   obtain⟨rfl,rfl⟩:=h
   rfl
 | y::z::l,p,x,h=>by
   unfold oK at h
   split at h
   ·rename_i q hq
    simp only[Option.some.injEq,Prod.mk.injEq] at h
    obtain⟨rfl,rfl⟩:=h
    rw[uG (p:=q.1) (x:=q.2) hq]
    rfl
   ·cases h
structure ML where
 ops:Array Oper
 pre:List Oper
 ro:Oper
 xt:TypeId
 xo:Operand
 it:Tmp
 sops:Array Oper
 n1:Oper
 n2:Oper
 ntm:Tmp
 more:Tmp
 eops:Array Oper
 e1:Oper
 rest:List Oper
 pair:Tmp
 nx:Nat
 out:Nat
 body:Code
def jM(c:Code):Option ML:=
 match c with
 | .seq (.region _ ops false) (.block out (.loop (.seq (.region _ sops false) (.seq (.cond (.tmp more) .skip (.exit out')) (.block nx (.seq (.region _ eops false) body))))))=>
   match oK ops.toList with
   | none=>none
   | some (pre,ro)=>match sops.toList with
     | [n1,n2]=>match eops.toList with
       | e1::rest=>match uS ro with
         | none=>none
         | some (xt,xo,it)=>match aAr n1 with
           | none=>none
           | some (it1,ntm)=>match aAT n2 with
             | none=>none
             | some (nt1,more1)=>match tM e1 with
               | none=>none
               | some (it2,pair)=>cond (Nat.beq out out'&&(Nat.beq it it1&&(Nat.beq it it2&&(Nat.beq ntm nt1&&(Nat.beq more more1&&(!Nat.beq it ntm&&(!Nat.beq it more&& !Nat.beq it pair)))))))
                 (some ⟨ops,pre,ro,xt,xo,it,sops,n1,n2,ntm,more,eops,e1,rest,pair,nx,out,body⟩) none
       | _=>none
     | _=>none
 | _=>none
theorem aBf{c:Code}{p:ML}(h:jM c=some p):(∃ i1 i2 i3,c= .seq (.region i1 p.ops false) (.block p.out (.loop (.seq (.region i2 p.sops false) (.seq (.cond (.tmp p.more) .skip (.exit p.out)) (.block p.nx (.seq (.region i3 p.eops false) p.body)))))))∧
 p.ops.toList=p.pre++[p.ro]∧uS p.ro=some (p.xt,p.xo,p.it)∧p.sops.toList=[p.n1,p.n2]∧aAr p.n1=some (p.it,p.ntm)∧aAT p.n2=some (p.ntm,p.more)∧p.eops.toList=p.e1::p.rest∧tM p.e1=some (p.it,p.pair)∧p.it≠p.ntm∧p.it≠p.more∧p.it≠p.pair:=by
 unfold jM at h
 split at h
 ·split at h
  ·cases h
  ·rename_i pre ro hsp
   split at h
   ·rename_i n1 n2 hs
    split at h
    ·rename_i e1 rest he
     split at h
     ·cases h
     ·rename_i xt xo it hr
      split at h
      ·cases h
      ·rename_i it1 ntm hn1
       split at h
       ·cases h
       ·rename_i nt1 more1 hn2
        split at h
        ·cases h
        ·rename_i it2 pair he1
         rw[cond_eq_ite] at h
         split at h
         ·rename_i hc
          simp only[Bool.and_eq_true,Nat.beq_eq,Bool.not_eq_true'] at hc
          obtain⟨rfl,rfl,rfl,rfl,rfl,h1,h2,h3⟩:=hc
          injection h with h
          subst h
          have ne:∀ {a b:Nat},Nat.beq a b=false→a≠b:=fun h e=>by subst e;simp at h
          exact⟨⟨_,_,_,rfl⟩,uG hsp,hr,hs,hn1,hn2,he,he1,ne h1,ne h2,ne h3⟩
         ·cases h
    ·cases h
   ·cases h
 ·cases h
def mlK(T:bQ)(sl:List (Tmp×LK))(junk:List Tmp)(xo:Operand)(pair:Tmp)(eops:Array Oper)(rest:List Oper)(ke:List SK)(W:St→(Ex→St→Prop)→Prop)(out nx:Nat)(Q:Ex→St→Prop)(s:St):Prop:=
 aA (jH s.m (opnd s.t xo)) fun eb=>∃ J:List (AV×AV)→JT (sl.map (·.2)),yX (sl.map (·.2)) (J eb.2) (cI s.t sl) 0 (lP s.m eb.1)∧
  ∀ js:Nat→Option AV,aAv (sl.map (·.2)) fun vs=>∀ (rem:List (AV×AV)) (m:aC),yX (sl.map (·.2)) (J rem) vs 0 m→
    (rem=[]→Q .normal { n:=s.n,t:=iN js junk (setS sl vs s.t),m:=lT m eb })∧
    ∀ (i:Nat) (k v:AV),rem[i]? =some (k,v)→zO T eops rest ke { n:=s.n,t:=(iN js junk (setS sl vs s.t)).set pair (some (.tup [k,v])),m:=m } fun s2=>
      W s2 (nV nx (andThen (fun s3=>yX (sl.map (·.2)) (J (rem.eraseIdx i)) (cI s3.t sl) 0 s3.m) (nV out fun ex s3=>Q ex { n:=s3.n,t:=s3.t,m:=lT s3.m eb })))
def wZ(T:bQ):An→Code→St→(Ex→St→Prop)→Prop
 | .z,c,st,Q=>match c with
   | .skip=>Q .normal st
   | .label _=>Q .normal st
   | .exit i=>Q (.exit i) st
   | .goto l=>Q (.goto l) st
   | .ret=>Q .ret st
   | _=>False
 | .reg ks,c,st,Q=>match c with
   | .region _ ops d=>aE d False (zO T ops ops.toList ks st (Q .normal))
   | _=>False
 | .opn steps rk _ n ks,c,st,Q=>match c with
   | .region _ ops d=>aE d (zY T ops st.m.next rk steps ks { n:=st.n,t:=st.t,m:={ next:=st.m.next+n,rows:=st.m.rows } } (Q .normal)) False
   | _=>False
 | .seq a b,c,st,Q=>match c with
   | .seq x y=>wZ T a x st (andThen (fun s=>wZ T b y s Q) Q)
   | _=>False
 | .cnd a b,c,st,Q=>match c with
   | .cond o x y=>zB (opnd st.t o) fun v=>aE v (wZ T a x st Q) (wZ T b y st Q)
   | _=>False
 | .blk a,c,st,Q=>match c with
   | .block id x=>wZ T a x st (nV id Q)
   | _=>False
 | .lop sl junk a,c,st,Q=>match c with
   | .loop x=>∃ J:JT (sl.map (·.2)),(∃ n,yX (sl.map (·.2)) J (cI st.t sl) n st.m)∧
    ∀ js:Nat→Option AV,aAv (sl.map (·.2)) fun vs=>∀ (n:Nat) (m:aC),yX (sl.map (·.2)) J vs n m→
      wZ T a x { n:=st.n,t:=iN js junk (setS sl vs st.t),m:=m } (andThen (fun s=>∃ k,k<n∧yX (sl.map (·.2)) J (cI s.t sl) k s.m) Q)
   | _=>False
 | .mlp ks sl junk ke a,c,st,Q=>match jM c with
   | some p=>zO T p.ops p.pre ks st (mlK T sl junk p.xo p.pair p.eops p.rest ke (fun s2 Q2=>wZ T a p.body s2 Q2) p.out p.nx Q)
   | none=>False
 | .scp L F ap sl junk ar aF,c,st,Q=>match c with
   | .scope x=>match sR L x,sR F x with
     | some (p,r),some (_,f)=>wZ T ap p st (aCz (fun s=>∃ J:JT (sl.map (·.2)),(∃ n,yX (sl.map (·.2)) J (cI s.t sl) n s.m)∧
      ∀ js:Nat→Option AV,aAv (sl.map (·.2)) fun vs=>∀ (n:Nat) (m:aC),yX (sl.map (·.2)) J vs n m→
        wZ T ar r { n:=s.n,t:=iN js junk (setS sl vs s.t),m:=m }
         (aC5 L F (fun s=>∃ k,k<n∧yX (sl.map (·.2)) J (cI s.t sl) k s.m)
          (fun s=>wZ T aF f s (aCZ L (fun s=>∃ k,k<n∧yX (sl.map (·.2)) J (cI s.t sl) k s.m) Q)) Q)) Q)
     | _,_=>False
   | _=>False
def dstsOf:List Oper→List Tmp
 | []=>[]
 | o::r=>match o.dst with
   | some d=>d::dstsOf r
   | none=>dstsOf r
def asgOf:An→Code→List Tmp
 | .reg _,c=>match c with| .region _ ops _=>dstsOf ops.toList|_=>[]
 | .opn ..,c=>match c with| .region _ ops _=>dstsOf ops.toList|_=>[]
 | .seq a b,c=>match c with| .seq x y=>asgOf a x++asgOf b y|_=>[]
 | .cnd a b,c=>match c with| .cond _ x y=>asgOf a x++asgOf b y|_=>[]
 | .blk a,c=>match c with| .block _ x=>asgOf a x|_=>[]
 | .lop sl junk _,c=>match c with| .loop _=>sl.map (·.1)++junk|_=>[]
 | .mlp _ sl junk _ _,c=>match jM c with|some p=>dstsOf p.pre++(sl.map (·.1)++junk)|none=>[]
 | .scp L _ ap sl junk _ _,c=>match c with
   | .scope x=>match sR L x with
     | some (p,_)=>asgOf ap p++(sl.map (·.1)++junk)
     | none=>[]
   | _=>[]
 | .z,_=>[]
def tX(i:Nat):List Nat→Bool
 | []=>false
 | j::r=>Nat.beq i j||tX i r
theorem iD{i:Nat}:∀ {l:List Nat},tX i l=true↔i∈l
 | []=>by simp[tX]
 | j::r=>by simp[tX,iD (l:=r)]
def aGS:List Nat→List Nat→Bool
 | [],[]=>true
 | a::x,b::y=>Nat.beq a b&&aGS x y
 | _,_=>false
theorem aEe:∀ {x y:List Nat},aGS x y=true→x=y
 | [],[],_=>rfl
 | a::x,b::y,h=>by
   simp only[aGS,Bool.and_eq_true,Nat.beq_eq] at h
   rw[h.1,aEe h.2]
 | [],_::_,h=>by cases h
 | _::_,[],h=>by cases h
def aCW:List (Nat×List Nat)→List (Nat×List Nat)→Bool
 | [],[]=>true
 | a::x,b::y=>(Nat.beq a.1 b.1&&aGS a.2 b.2)&&aCW x y
 | _,_=>false
theorem aBJ:∀ {x y:List (Nat×List Nat)},aCW x y=true→x=y
 | [],[],_=>rfl
 | (a,k)::x,(b,l)::y,h=>by
   simp only[aCW,Bool.and_eq_true,Nat.beq_eq] at h
   rw[h.1.1,aEe h.1.2,aBJ h.2]
 | [],_::_,h=>by cases h
 | _::_,[],h=>by cases h
def aQa(T:bQ)(t:TypeId):Bool:=match T.ty.get t with
 | some ti=>match ti.k with
   | .mp _ _=>true
   | _=>false
 | none=>false
theorem aNm{T:bQ}{t:TypeId}(h:aQa T t=true):∃ te kt vt,T.ty.get t=some te∧te.k= .mp kt vt:=by
 unfold aQa at h
 split at h
 ·rename_i ti ht
  split at h
  ·rename_i kt vt hk
   exact⟨ti,kt,vt,ht,hk⟩
  ·cases h
 ·cases h
def aLW:An→Bool
 | .mlp .. =>false
 | .seq _ b=>aLW b
 | _=>true
def mY(T:bQ)(nt:Nat):An→Code→Bool
 | .reg _,c=>match c with| .region _ ops _=>(dstsOf ops.toList).all fun d=>Nat.blt d nt|_=>false
 | .opn steps rk ob n _,c=>match c with
   | .region _ ops _=>aDn T nt ops&&(aEp T ops (steps.map (·.1)) rk ob n&&(aCW (uW ob (steps.map (·.1)) []) steps&&(dstsOf ops.toList).all fun d=>Nat.blt d nt))
   | _=>false
 | .seq a b,c=>match c with| .seq x y=>mY T nt a x&&mY T nt b y|_=>false
 | .cnd a b,c=>match c with| .cond _ x y=>mY T nt a x&&mY T nt b y|_=>false
 | .blk a,c=>match c with| .block _ x=>mY T nt a x|_=>false
 | .lop sl junk a,c=>match c with| .loop x=>mY T nt a x&&(asgOf a x).all fun d=>tX d (sl.map (·.1)++junk)|_=>false
 | .mlp _ sl junk _ a,c=>match jM c with
   | some p=>mY T nt a p.body&&(aQa T p.xt&&((dstsOf p.pre).all (fun d=>Nat.blt d nt)&&((dstsOf p.rest).all (fun d=>Nat.blt d nt)&&((Nat.blt p.it nt&&(Nat.blt p.ntm nt&&(Nat.blt p.more nt&&Nat.blt p.pair nt)))&&
    ((tX p.it junk&&(tX p.ntm junk&&(tX p.more junk&&tX p.pair junk)))&&(!tX p.it (sl.map (·.1))&&(((dstsOf p.rest++asgOf a p.body).all fun d=>tX d (sl.map (·.1)++junk))&& !tX p.it (dstsOf p.rest++asgOf a p.body))))))))
   | none=>false
 | .scp L F ap sl junk ar aF,c=>match c with
   | .scope x=>match sR L x,sR F x with
     | some (p,r),some (_,f)=>aLW ap&&(mY T nt ap p&&(mY T nt ar r&&(mY T nt aF f&&((asgOf ar r++asgOf aF f).all fun d=>tX d (sl.map (·.1)++junk)))))
     | _,_=>false
   | _=>false
 | .z,_=>true
section
variable {T:bQ} {ops:Array Oper}
theorem tC:∀ {l:List Oper} {o:Oper} {d:Tmp},o∈l→o.dst=some d→d∈dstsOf l
 | [],_,_,h,_=>by simp at h
 | p::l,o,d,h,hd=>by
   simp only[List.mem_cons] at h
   unfold dstsOf
   rcases h with rfl|h
   ·rw[hd];simp
   ·have:=tC h hd
    split
    ·simp[this]
    ·exact this
def oW(t t':Tr AV)(l:List Tmp):Prop:=∀ i,i∉l→t'.get i=t.get i
theorem aEs{t:Tr AV}{d:Option Tmp}{x:AV}{l:List Tmp}(h:∀ a,d=some a→a∈l):oW t (setd t d x) l:=fun i hi=>vE t x (fun he=>hi (h i he))
theorem oW.trans{t t' t'':Tr AV}{l:List Tmp}(h:oW t t' l)(k:oW t' t'' l):oW t t'' l:=fun i hi=>(k i hi).trans (h i hi)
theorem oW.refl{t:Tr AV}{l:List Tmp}:oW t t l:=fun _ _=>rfl
theorem oW.sub{t t':Tr AV}{l l':List Tmp}(h:oW t t' l)(hs:∀ i∈l,i∈l'):oW t t' l':=fun i hi=>h i fun hm=>hi (hs i hm)
theorem uJ{k:SK}{v:AV}{K K':AV→Prop}(h:asK k v K)(hk:∀ x,K x→K' x):asK k v K':=by
 have hI:∀ {k:IntKind} {v:AV} {K K':Int→Prop},zI k v K→(∀ x,K x→K' x)→zI k v K':=fun {k v K K'} h hk=>by
  unfold zI at h ⊢
  split at h
  ·rename_i k' z
   cases hb:lX k' k with
   | true=>rw[hb] at h;exact hk _ h
   | false=>rw[hb] at h;exact h.elim
  ·exact h.elim
 have hB:∀ {v:AV} {K K':Bool→Prop},zB v K→(∀ x,K x→K' x)→zB v K':=fun {v K K'} h hk=>by
  unfold zB at h ⊢
  split at h
  ·exact hk _ h
  ·exact h.elim
 have hL:∀ {k:LK} {v:AV} {K K':AV→Prop},zL k v K→(∀ x,K x→K' x)→zL k v K':=fun {k v K K'} h hk=>by
  cases k with
  | any=>exact hk _ h
  | int k=>exact hI h fun z hz=>hk _ hz
  | bool=>exact hB h fun z hz=>hk _ hz
 cases k with
 | non=>exact hk _ h
 | int k=>exact hI h fun z hz=>hk _ hz
 | bool=>exact hB h fun z hz=>hk _ hz
 | spl=>
   unfold asK zSB at h ⊢
   simp only at h ⊢
   split at h
   ·rename_i b
    cases b with
    | true=>exact hk _ h
    | false=>exact hk _ h
   ·exact h.elim
 | ptr=>
   unfold asK zP at h ⊢
   simp only at h ⊢
   split at h
   ·exact hk _ h
   ·exact h.elim
 | agg ls=>exact oJ (fun vs hvs=>⟨hvs.1,hk _ hvs.2⟩) h
 | tup cs=>exact oP (fun vs hvs=>⟨hvs.1,hk _ hvs.2⟩) h
theorem aCL{o:Oper}{st:St}{K K':AV→aC→Prop}(h:wO T o st K)(hk:∀ x M,K x M→K' x M):wO T o st K':=by
 unfold wO at h ⊢
 cases hcal:dP st.t o with
 | some c=>
   rw[hcal,dA] at h
   rw[dA]
   obtain⟨F,hF,h⟩:=lU h
   rw[hF,eM]
   exact h.mono hk
 | none=>
   rw[hcal,fL] at h
   rw[fL]
   obtain⟨y,hy,h⟩:=lU h
   rw[hy,eM]
   exact hk _ _ h
theorem aFj{id:Nat}{o:Oper}{k:SK}{st:St}{K:St→Prop}(h:aCh T ops id o k st K):stepX T ops id o st K:=by
 unfold aCh at h
 unfold stepX
 obtain⟨b,hw,h⟩:=lU h
 rw[hw,eM]
 cases b with
 | false=>exact h
 | true=>
   rw[jF] at h ⊢
   cases hc:eE T o <;> rw[hc] at h <;> simp only[lS,iR,fB,gH] at h ⊢
   case eff=>exact aCL h fun x M hx=>qY hx
   all_goals
    obtain⟨y,hy,h⟩:=lU h
    rw[hy,eM]
    exact qY h
theorem aOE{base:Nat}{rk:List Nat}{K:St→Prop}:∀ {l:List (Nat×List Nat)} {ks:List SK} {st:St},zY T ops base rk l ks st K→wY T ops base rk l st K
 | [],_,_,h=>h
 | i::is,ks,st,h=>by
   unfold zY at h
   unfold wY
   obtain⟨o,ho,h⟩:=lU h
   rw[ho,eM]
   have h:=aFj h
   refine kR (fun s hs=>?_) h
   have cm:∀ {l:List Nat} {s:St} {K K':St→Prop},(∀ s,K s→K' s)→aEP T ops l s K→aEP T ops l s K':=fun {l}=>by
    induction l with
    | nil=>intro s K K' hk h;exact hk _ h
    | cons k l ih=>intro s K K' hk h;exact⟨h.1,ih hk h.2⟩
   exact cm (fun s hs=>aOE hs) hs
theorem rH(ok:T.Ok){nt:Nat}{Q:Ex→St→Prop}:∀ {l:List Oper} {ks:List SK} {st:St},(∀ d∈dstsOf l,d<nt)→nt≤st.n→zO T ops l ks st (Q .normal)→yN T.P ops l st Q
 | [],_,_,_,_,h=>aLt h
 | o::r,ks,st,hd,hn,h=>by
   have hdr:∀ d∈dstsOf r,d<nt:=fun d hm=>hd d (by
    unfold dstsOf
    split
    ·simp[hm]
    ·exact hm)
   have hput:∀ (x:AV) (M:aC),aBh { st with m:=M } o.dst x=some (fV st o.dst x M):=fun x M=>by
    unfold aBh fV setd
    cases ho:o.dst with
    | none=>rfl
    | some d=>
      have:d<nt:=hd d (tC (by simp) ho)
      have:Nat.blt d st.n=true:=by rw[Nat.blt_eq];exact Nat.lt_of_lt_of_le this hn
      simp only[this,cond_true]
   unfold zO at h
   obtain⟨b,hw,h⟩:=lU h
   cases b with
   | false=>exact aKx hw (hput eY st.m) (rH ok (Q:=Q) hdr hn h)
   | true=>
     rw[jF] at h
     have eff:∀ {K:AV→aC→Prop},(∀ x M,K x M→yN T.P ops r (fV st o.dst x M) Q)→wO T o st K→yN T.P ops (o::r) st Q:=fun {K} hk h=>by
      unfold wO at h
      cases hcal:dP st.t o with
      | some c=>
        obtain⟨g,args⟩:=c
        rw[hcal,dA] at h
        obtain⟨F,hF,h⟩:=lU h
        exact aJ7 ok hw hcal hF (h.mono fun x M' hx=>⟨_,hput x M',hk _ _ hx⟩)
      | none=>
        rw[hcal,fL] at h
        obtain⟨⟨x,M'⟩,hx,h⟩:=lU h
        exact aGn ok hw hx (hput x M') (hk _ _ h)
     cases hc:eE T o <;> rw[hc] at h <;> simp only[lS,iR,fB,gH] at h
     case eff=>exact eff (fun x M hx=>rH ok (Q:=Q) (st:=fV st o.dst x M) hdr hn (qY hx)) h
     case flt=>
      obtain⟨⟨x,M'⟩,hx,h⟩:=lU h
      exact aGn ok hw hx (hput x M') (rH ok (Q:=Q) (st:=fV st o.dst x M') hdr hn (qY h))
     all_goals
      obtain⟨⟨x,M'⟩,hx,h⟩:=lU h
      have hM:M'=st.m:=by first|exact aGD hc hx|(have:=uQ hc hx st.m;rw[hx] at this;injection this with this;injection this)
      subst hM
      exact aGn ok hw hx (hput x st.m) (rH ok (Q:=Q) (st:=fV st o.dst x st.m) hdr hn (qY h))
end
open Go.ChangeMaps
section
variable {T:bQ}
theorem vW{ops:Array Oper}:∀ {l:List Oper} {ks:List SK} {st:St} {K K':St→Prop},zO T ops l ks st K→(∀ s,s.n=st.n→oW st.t s.t (dstsOf l)→K s→K' s)→zO T ops l ks st K'
 | [],_,st,_,_,h,hk=>hk st rfl oW.refl h
 | o::r,ks,st,K,K',h,hk=>by
   have hstep:∀ (x:AV) (M:aC) {ks:List SK},zO T ops r ks (fV st o.dst x M) K→zO T ops r ks (fV st o.dst x M) K':=fun x M ks h=>vW h fun s hn ha hs=>hk s hn (by
    refine oW.trans (aEs (x:=x) (d:=o.dst) fun a ha=>?_) (ha.sub fun i hi=>?_)
    ·unfold dstsOf;rw[ha];simp
    ·unfold dstsOf;split <;> simp[hi]) hs
   unfold zO at h ⊢
   obtain⟨b,hw,h⟩:=lU h
   rw[hw,eM]
   cases b with
   | false=>exact hstep _ _ h
   | true=>
     rw[jF] at h ⊢
     cases hc:eE T o <;> rw[hc] at h <;> simp only[lS,iR,fB,gH] at h ⊢
     case eff=>exact aCL h fun x M hx=>uJ hx fun x' hx'=>hstep _ _ hx'
     all_goals
      obtain⟨y,hy,h⟩:=lU h
      rw[hy,eM]
      exact uJ h fun x' hx'=>hstep _ _ hx'
theorem aFE{ops:Array Oper}{id:Nat}{o:Oper}{k:SK}{st:St}{K K':St→Prop}(h:aCh T ops id o k st K)(hk:∀ x M,K (fV st o.dst x M)→K' (fV st o.dst x M)):aCh T ops id o k st K':=by
 unfold aCh at h ⊢
 obtain⟨b,hw,h⟩:=lU h
 rw[hw,eM]
 cases b with
 | false=>exact hk _ _ h
 | true=>
   rw[jF] at h ⊢
   cases hc:eE T o <;> rw[hc] at h <;> simp only[lS,iR,fB,gH] at h ⊢
   case eff=>exact aCL h fun x M hx=>uJ hx fun x' hx'=>hk _ _ hx'
   all_goals
    obtain⟨y,hy,h⟩:=lU h
    rw[hy,eM]
    exact uJ h fun x' hx'=>hk _ _ hx'
theorem aBD{ops:Array Oper}{s:St}{K K':St→Prop}(hk:K s→K' s):∀ {l:List Nat},aEP T ops l s K→aEP T ops l s K'
 | [],h=>hk h
 | _::_,h=>⟨h.1,aBD hk h.2⟩
theorem aI9{ops:Array Oper}{base:Nat}{rk:List Nat}:∀ {l:List (Nat×List Nat)} {ks:List SK} {st:St} {K K':St→Prop},zY T ops base rk l ks st K→
 (∀ s,s.n=st.n→oW st.t s.t (dstsOf ops.toList)→K s→K' s)→zY T ops base rk l ks st K'
 | [],_,st,_,_,h,hk=>hk st rfl oW.refl h
 | i::is,ks,st,K,K',h,hk=>by
   unfold zY at h ⊢
   obtain⟨o,ho,h⟩:=lU h
   rw[ho,eM]
   refine aFE h fun x M hs=>aBD (fun hs=>aI9 (ops:=ops) (st:=fV st o.dst x M) (K':=K') hs fun s hn (ha:oW (setd st.t o.dst x) s.t (dstsOf ops.toList)) hs=>hk s hn (oW.trans (aEs (l:=dstsOf ops.toList) (x:=x) (d:=o.dst) fun a ha=>?_) ha) hs) hs
   have:o∈ops.toList:=by
    obtain⟨hlt,he⟩:=Array.getElem?_eq_some_iff.1 ho
    rw[← he];simp
   exact tC this ha
theorem mM{sl:List (Tmp×LK)}:∀ {vs:List AV} {t:Tr AV} {i:Nat},i∉sl.map (·.1)→(setS sl vs t).get i=t.get i:=by
 induction sl with
 | nil=>intro vs t i _;cases vs <;> rfl
 | cons s sl ih=>
   intro vs t i hi
   simp only[List.map_cons,List.mem_cons,not_or] at hi
   cases vs with
   | nil=>rfl
   | cons v vs=>
     show (setS sl vs (t.set s.1 (some v))).get i=t.get i
     rw[ih hi.2,Tr.get_set_ne _ _ _ _ hi.1]
theorem jS{js:Nat→Option AV}:∀ {junk:List Tmp} {t:Tr AV} {i:Nat},i∉junk→(iN js junk t).get i=t.get i
 | [],_,_,_=>rfl
 | j::r,t,i,hi=>by
   simp only[List.mem_cons,not_or] at hi
   show (iN js r (t.set j (js j))).get i=t.get i
   rw[jS hi.2,Tr.get_set_ne _ _ _ _ hi.1]
def yF(t t':Tr AV):Prop:=∀ i,(t.get i).getD eY=(t'.get i).getD eY
theorem aDE{P:Program}{c:Code}{n:Nat}{t t':Tr AV}{m:aC}{Q:Ex→St→Prop}(h:mL P c ⟨n,t,m⟩ Q)(hs:yF t t'):mL P c ⟨n,t',m⟩ Q:=fun ι a w hst=>
 h ι a w ⟨hst.1,fun i=>by rw[hs i];exact hst.2.1 i,hst.2.2⟩
theorem rK{t':Tr AV}:∀ {sl:List (Tmp×LK)} {t:Tr AV} {P:Nat→Prop},(∀ i,¬ P i→(t.get i).getD eY=(t'.get i).getD eY)→
 ∀ i,¬ (P i∧i∉sl.map (·.1))→((setS sl (cI t' sl) t).get i).getD eY=(t'.get i).getD eY
 | [],t,P,h,i,hi=>h i fun hp=>hi ⟨hp,by simp⟩
 | s::sl,t,P,h,i,hi=>by
   show ((setS sl (cI t' sl) (t.set s.1 (some ((t'.get s.1).getD eY)))).get i).getD eY=_
   refine rK (P:=fun i=>P i∧i≠s.1) (fun j hj=>?_) i fun hp=>hi ⟨hp.1.1,?_⟩
   ·rw[Tr.get_set]
    by_cases hjs:j=s.1
    ·rw[if_pos hjs,hjs];rfl
    ·rw[if_neg hjs]
     exact h j fun hp=>hj ⟨hp,hjs⟩
   ·simp only[List.map_cons,List.mem_cons,not_or]
    exact⟨hp.1.2,hp.2⟩
theorem oN{t':Tr AV}:∀ {junk:List Tmp} {t:Tr AV} {P:Nat→Prop},(∀ i,¬ P i→(t.get i).getD eY=(t'.get i).getD eY)→
 ∀ i,¬ (P i∧i∉junk)→((iN (fun j=>t'.get j) junk t).get i).getD eY=(t'.get i).getD eY
 | [],t,P,h,i,hi=>h i fun hp=>hi ⟨hp,by simp⟩
 | s::r,t,P,h,i,hi=>by
   show ((iN (fun j=>t'.get j) r (t.set s (t'.get s))).get i).getD eY=_
   refine oN (P:=fun i=>P i∧i≠s) (fun j hj=>?_) i fun hp=>hi ⟨hp.1.1,?_⟩
   ·rw[Tr.get_set]
    by_cases hjs:j=s
    ·rw[if_pos hjs,hjs]
    ·rw[if_neg hjs]
     exact h j fun hp=>hj ⟨hp,hjs⟩
   ·simp only[List.mem_cons,not_or]
    exact⟨hp.1.2,hp.2⟩
theorem aB0{ks:List LK}{f g:List AV→Prop}(hfg:∀ vs,f vs→g vs)(h:aAv ks f):aAv ks g:=by
 induction ks generalizing f g with
 | nil=>exact hfg _ h
 | cons k ks ih=>
   cases k with
   | any=>exact fun v=>ih (fun vs hvs=>hfg _ hvs) (h v)
   | int k=>exact fun v=>ih (fun vs hvs=>hfg _ hvs) (h v)
   | bool=>exact fun v=>ih (fun vs hvs=>hfg _ hvs) (h v)
end
theorem iV{P:Program}{ops:Array Oper}{Q R:Exit→Act→World→Prop}{tl:List Oper}(hn:∀ a w,Q .normal a w→wpList P ops R tl a w)(ho:∀ e a w,e≠ .normal→Q e a w→R e a w):
 ∀ (l:List Oper) (a:Act) (w:World),wpList P ops Q l a w→wpList P ops R (l++tl) a w
 | [],a,w,h=>hn _ _ h
 | o::l,a,w,h=>by
   rw[List.cons_append]
   unfold wpList at h ⊢
   split
   ·rename_i hw
    rw[if_pos hw] at h
    rcases h with h|⟨h1,a',w',h2⟩
    ·refine .inl ?_
     unfold Oper.wp at h ⊢
     generalize (execOp a.eval o).run P w=r at h ⊢
     cases r with
     | ok n w'=>
       cases n <;> simp only[Oper.upon] at h ⊢ <;> first
        | exact iV hn ho l _ _ h
        | exact Calls.mono h fun e w'' he=>by cases e <;> first|exact iV hn ho l _ _ he|exact ho _ _ _ (fun h=>by cases h) he|(obtain⟨a0,w0,h0⟩:=he;exact⟨a0,w0,ho _ _ _ (fun h=>by cases h) h0⟩)
        | exact Rows.mono h fun _ _ he=>iV hn ho l _ _ he
     | halt x w'=>cases x <;> simp only[Oper.upon] at h ⊢ <;> first|exact ho _ _ _ (fun h=>by cases h) h|exact h
    ·exact .inr ⟨h1,a',w',ho _ _ _ (fun h=>by cases h) h2⟩
   ·rename_i hw
    rw[if_neg hw] at h
    exact iV hn ho l _ _ h
theorem aI4{T:bQ}(ok:T.Ok){ops:Array Oper}{nt:Nat}{K:St→Prop}{R:Exit→Act→World→Prop}{tl l:List Oper}{ks:List SK}{st:St}(hd:∀ d∈dstsOf l,d<nt)(hn:nt≤st.n)(h:zO T ops l ks st K){ι:bS}{a:Act}{w:World}(hs:tF ι st a w)
 (hk:∀ s ι' a' w',K s→s.n=st.n→oW st.t s.t (dstsOf l)→tF ι' s a' w'→bR ι st.m w ι' s.m w'→wpList T.P ops R tl a' w'):wpList T.P ops R (l++tl) a w:=by
 have h1:zO T ops l ks st ((fun ex s=>ex=Ex.normal∧K s∧s.n=st.n∧oW st.t s.t (dstsOf l)) Ex.normal):=vW h fun s hn ha hs=>⟨rfl,hs,hn,ha⟩
 refine iV ?_ ?_ _ _ _ (rH ok (Q:=fun ex s=>ex=Ex.normal∧K s∧s.n=st.n∧oW st.t s.t (dstsOf l)) hd hn h1 ι a w hs)
 ·rintro a' w' ⟨ι',ex,st',he,hs',S,rfl,h2,h3,h4⟩
  exact hk st' ι' a' w' h2 h3 h4 hs' S
 ·rintro e a' w' hne ⟨ι',ex,st',he,hs',S,rfl,h2,h3,h4⟩
  exact absurd he hne
theorem bR.side{ι0 ι:bS}{M0 M:aC}{w0 w w':World}(S:bR ι0 M0 w0 ι M w){r:Nat}(hr0:w0.heap.size≤r)(hr:¬ lJ ι M r)(hs:w.heap.size≤w'.heap.size)(hh:∀ k,k<w.heap.size→k≠r→w'.heap[k]? =w.heap[k]?)
 (ho:w'.os=w.os) (ht:w'.tape=w.tape) (hu:w'.output=w.output):bR ι0 M0 w0 ι M w':=by
 refine⟨⟨S.rel.dom,fun b row hb=>?_,S.rel.inj,S.rel.bas⟩,S.ext,S.nxt,S.new,Nat.le_trans S.size hs,fun k hk hn=>?_,S.evo,S.evl,ho.trans S.os,ht.trans S.tape,hu.trans S.output⟩
 ·obtain⟨l,h1,h2⟩:=S.rel.live b row hb
  refine⟨l,h1,?_⟩
  rw[hh l.blk (vS h2) (fun e=>hr ⟨b,row,l,hb,h1,e⟩)]
  exact h2
 ·rw[hh k (Nat.lt_of_lt_of_le hk S.size) (by omega)]
  exact S.frame k hk hn
theorem lJ.lt{ι:bS}{M:aC}{w:World}(R:fZ ι M w){k:Nat}(h:lJ ι M k):k<w.heap.size:=by
 obtain⟨b,row,l,h1,h2,rfl⟩:=h
 obtain⟨l',h3,h4⟩:=R.live b row h1
 rw[h2] at h3;injection h3 with h3;subst h3
 exact vS h4
theorem pC:∀ {L:List MapEntry} {i:Nat} {e:MapEntry},(L.map (·.born)).Nodup→L[i]? =some e→L.filter (fun x=> !(x.born==e.born))=L.eraseIdx i
 | [],i,e,_,h=>by simp at h
 | x::L,0,e,hn,h=>by
   simp only[List.getElem?_cons_zero,Option.some.injEq] at h
   subst h
   simp only[List.map_cons,List.nodup_cons] at hn
   rw[List.eraseIdx_cons_zero,List.filter_cons,if_neg (by simp)]
   rw[List.filter_eq_self]
   intro y hy
   have:y.born≠x.born:=fun e=>hn.1 (e▸List.mem_map.2 ⟨y,hy,rfl⟩)
   simpa using this
 | x::L,i+1,e,hn,h=>by
   simp only[List.getElem?_cons_succ] at h
   simp only[List.map_cons,List.nodup_cons] at hn
   have hm:e∈L:=List.mem_of_getElem? h
   have:x.born≠e.born:=fun he=>hn.1 (he▸List.mem_map.2 ⟨e,hm,rfl⟩)
   rw[List.eraseIdx_cons_succ,List.filter_cons,if_pos (by simpa using this),pC hn.2 h]
def ItR(w:World)(r:Nat)(mb:Option Nat)(left:List MapEntry):Prop:=match mb with
 | none=>w.heap[r]? =some (.mapIter none 0 #[] 0)∧left=[]
 | some lb=>∃ ms clock since seen last,w.heap[r]? =some (.mapIter (some lb) since seen last)∧w.heap[lb]? =some (.map ms clock)∧(∀ x∈ms.toList,x.born<since)∧since≤last∧since≤clock∧(ms.toList.map (·.born)).Nodup∧left=(leftOf ms seen).toList
theorem ItR.kept{w w':World}{r:Nat}{mb:Option Nat}{left:List MapEntry}(h:ItR w r mb left)(hr:w'.heap[r]? =w.heap[r]?)(hb:∀ b,mb=some b→w'.heap[b]? =w.heap[b]?):ItR w' r mb left:=by
 cases mb with
 | none=>exact⟨hr.trans h.1,h.2⟩
 | some lb=>
   obtain⟨ms,clock,since,seen,last,h1,h2,h3⟩:=h
   exact⟨ms,clock,since,seen,last,hr.trans h1,(hb lb rfl).trans h2,h3⟩
theorem ItR.next{P:Program}{w:World}{r:Nat}{mb:Option Nat}{left:List MapEntry}(h:ItR w r mb left)(ty:TypeId):
 (left=[]∧(Instr.next (.pointer (some ⟨r,0,none⟩)) false ty).run P w= .ok (.tuple #[.bool false]) w)∨
 ∃ i e w',left[i]? =some e∧(Instr.next (.pointer (some ⟨r,0,none⟩)) false ty).run P w= .ok (.tuple #[.bool true,e.key,e.val]) w'∧(Instr.entry (.pointer (some ⟨r,0,none⟩))).run P w'= .ok (.tuple #[e.key,e.val]) w'∧
   ItR w' r mb (left.eraseIdx i)∧w'.heap.size=w.heap.size∧(∀ k,k≠r→w'.heap[k]? =w.heap[k]?)∧w'.os=w.os∧w'.tape=w.tape∧w'.output=w.output:=by
 cases mb with
 | none=>
   refine .inl ⟨h.2,?_⟩
   simp only[Instr.next,getObj,Sem.run_bind,Sem.run,h.1,Result.andThen]
   rfl
 | some lb=>
   obtain⟨ms,clock,since,seen,last,h1,h2,h3,h4,h5,h6,rfl⟩:=h
   rcases run_next_at (P:=P) w ty r lb since last seen ms clock h1 h2 h3 h4 with⟨h0,hrun⟩|⟨e,he,w1,hal,hrun⟩
   ·exact .inl ⟨List.eq_nil_of_length_eq_zero (by simpa using h0),hrun⟩
   ·obtain⟨i,hi,hie⟩:=List.getElem_of_mem he
    have hie':(leftOf ms seen).toList[i]? =some e:=by rw[List.getElem?_eq_getElem hi,hie]
    have hme:e∈ms.toList:=by
     have:=he
     unfold leftOf at this
     simp at this
     exact Array.mem_toList_iff.2 this.1
    have hr1:w1.heap[r]? =some (.mapIter (some lb) since seen last):=by rcases hal with rfl|rfl <;> exact h1
    have hb1:w1.heap[lb]? =some (.map ms clock):=by rcases hal with rfl|rfl <;> exact h2
    have hne:r≠lb:=fun e=>by rw[e,h2] at h1;cases h1
    have hrl:r<w1.heap.size:=(Array.getElem?_eq_some_iff.1 hr1).1
    have hset:(setBlock w1 r (.mapIter (some lb) since (seen.push e.born) clock)).heap[r]? =some (.mapIter (some lb) since (seen.push e.born) clock):=by
     show (w1.heap.setIfInBounds r _)[r]? =_
     rw[Array.getElem?_setIfInBounds_self_of_lt hrl]
    have hoth:∀ k,k≠r→(setBlock w1 r (.mapIter (some lb) since (seen.push e.born) clock)).heap[k]? =w1.heap[k]? :=fun k hk=>by
     show (w1.heap.setIfInBounds r _)[k]? =_
     rw[Array.getElem?_setIfInBounds_ne (fun e=>hk e.symm)]
    have hw1:w1.heap=w.heap∧w1.os=w.os∧w1.tape=w.tape∧w1.output=w.output:=by rcases hal with rfl|rfl <;> exact⟨rfl,rfl,rfl,rfl⟩
    refine .inr ⟨i,e,_,hie',hrun,run_entry_at _ r lb since seen ms clock e hset ((hoth lb hne.symm).trans hb1) hme h6,?_,?_,fun k hk=>by rw[hoth k hk,hw1.1],hw1.2.1,hw1.2.2.1,hw1.2.2.2⟩
    ·refine⟨ms,clock,since,seen.push e.born,clock,hset,(hoth lb hne.symm).trans hb1,h3,h5,h5,h6,?_⟩
     have hsub:((leftOf ms seen).toList.map (·.born)).Nodup:=by
      refine h6.sublist (List.Sublist.map _ ?_)
      unfold leftOf
      rw[Array.toList_filter]
      exact List.filter_sublist
     rw[← pC hsub hie']
     unfold leftOf
     rw[Array.toList_filter,Array.toList_filter,List.filter_filter]
     apply List.filter_congr
     intro x _
     rw[Array.contains_push]
     cases seen.contains x.born <;> cases x.born==e.born <;> rfl
    ·show (w1.heap.setIfInBounds r _).size=_
     rw[Array.size_setIfInBounds,hw1.1]
theorem eO.get{ι:bS}:∀ {es:List (AV×AV)} {ms:List MapEntry},eO ι es ms→∀ {i:Nat} {e:MapEntry},ms[i]? =some e→∃ k x,es[i]? =some (k,x)∧VR ι k e.key∧VR ι x e.val
 | _,_,.nil,i,e,h=>by simp at h
 | _,_,.cons k x m es ms hk hv hs,0,e,h=>by
   simp only[List.getElem?_cons_zero,Option.some.injEq] at h
   subst h
   exact⟨k,x,rfl,hk,hv⟩
 | _,_,.cons k x m es ms hk hv hs,i+1,e,h=>by
   simp only[List.getElem?_cons_succ] at h ⊢
   exact eO.get hs h
theorem tF.put{ι:bS}{st:St}{a:Act}{w:World}(hs:tF ι st a w){d:Tmp}{x:AV}{v:Value}(hv:VR ι x v)(hd:d<st.n):tF ι { n:=st.n,t:=st.t.set d (some x),m:=st.m } (a.put (some d) v) w:=
 zM hs hv (dst:=some d) (st':={ n:=st.n,t:=st.t.set d (some x),m:=st.m }) (by
  unfold aBh
  have:Nat.blt d st.n=true:=by rw[Nat.blt_eq];exact hd
  simp only[this,cond_true])
theorem lQ{a:Act}{d:Tmp}{v:Value}(hd:d<a.tmps.size):(a.put (some d) v).tmps.getD d undef=v:=by
 simp[Act.put,hd]
theorem aBg{a:Act}{d i:Tmp}{v:Value}(h:i≠d):(a.put (some d) v).tmps.getD i undef=a.tmps.getD i undef:=by
 simp[Act.put,Array.getElem?_setIfInBounds_ne (fun e=>h e.symm)]
theorem lA{a:Act}{d:Tmp}{v:Value}:(a.put (some d) v).tmps.size=a.tmps.size:=by
 simp[Act.put]
theorem aFR{ι1 ι':bS}{M M':aC}{w1 w':World}{x:AV}{eb:Option Nat×List (AV×AV)}(R:fZ ι1 M w1)(he:jH M x=some eb)(S:bR ι1 (lP M eb.1) w1 ι' M' w'):bR ι1 M w1 ι' (lT M' eb) w':=by
 unfold jH at he
 split at he
 ·injection he with he;subst he;exact S
 ·rename_i b
  split at he
  ·rename_i es hg
   injection he with he;subst he
   have hM:∀ c r,(M.kill b).get c=some r→M.get c=some r:=fun c r h=>by
    rw[aC.get_kill] at h
    split at h
    ·cases h
    ·exact h
   have h0:(M.kill b).get b=none:=by rw[aC.get_kill,if_pos rfl]
   refine bR.over (M:=M.kill b) (N:=M') R hM rfl S (fun c r h=>?_) (Nat.le_refl _)
   have h:(M'.put b (.map es)).get c=some r:=h
   rw[aC.get_put] at h
   by_cases hcb:c=b
   ·rw[if_pos hcb] at h
    injection h with h;subst h;subst hcb
    exact .inr ⟨h0,hg⟩
   ·rw[if_neg hcb] at h
    exact .inl h
  ·cases he
 ·cases he
theorem aQ1{T:bQ}(ok:T.Ok){nt:Nat}{ops sops eops:Array Oper}{id1 id2 id3 out nx:Nat}{pre rest:List Oper}{ro n1 n2 e1:Oper}{xt:TypeId}{xo:Operand}{it ntm more pair:Tmp}{body:Code}{sl:List (Tmp×LK)}
 (hops:ops.toList=pre++[ro]) (hro:uS ro=some (xt,xo,it)) (hsops:sops.toList=[n1,n2]) (hn1:aAr n1=some (it,ntm)) (hn2:aAT n2=some (ntm,more)) (heops:eops.toList=e1::rest) (he1:tM e1=some (it,pair))
 (hsl:it∉sl.map (·.1)) (d1:it≠ntm) (d2:it≠more) (d3:it≠pair) {te:TI} (hxt:T.ty.get xt=some te) {kt vt:TypeId} (hmp:te.k= .mp kt vt)
 {junk asg:List Tmp} (j1:it∈junk) (j2:ntm∈junk) (j3:more∈junk) (j4:pair∈junk) (hasg:∀ d,d∈dstsOf rest∨d∈asg→d∈sl.map (·.1)++junk) (hit1:it∉dstsOf rest) (hit2:it∉asg)
 (hdp:∀ d∈dstsOf pre,d<nt) (b1:it<nt) (b2:ntm<nt) (b3:more<nt) (b4:pair<nt) (hdr:∀ d∈dstsOf rest,d<nt)
 {ks ke:List SK} {W:St→(Ex→St→Prop)→Prop} (hW:∀ s Q',nt≤s.n→W s Q'→mL T.P body s fun ex s'=>Q' ex s'∧s'.n=s.n∧oW s.t s'.t asg) {st:St} {Q:Ex→St→Prop} (hn:nt≤st.n)
 (hz:zO T ops pre ks st (mlK T sl junk xo pair eops rest ke W out nx Q)):
 mL T.P (.seq (.region id1 ops false) (.block out (.loop (.seq (.region id2 sops false) (.seq (.cond (.tmp more) .skip (.exit out)) (.block nx (.seq (.region id3 eops false) body))))))) st Q:=by
 intro ι a w hs
 refine wp_seq (wp_region_list ?_)
 rw[hops]
 refine aI4 ok hdp hn hz hs (fun s ι1 a1 w1 hK hsn _ hs1 S1=>?_)
 obtain⟨hr1,hr2,hr3⟩:=aBl hro
 obtain⟨p1,p2,p3⟩:=aBY hn1
 obtain⟨q1,q2,q3⟩:=aB1 hn2
 obtain⟨g1,g2,g3⟩:=aAG he1
 unfold mlK at hK
 obtain⟨⟨mb,es⟩,heb,J,h0,hJ⟩:=lU hK
 have R1:fZ ι1 s.m w1:=hs1.2.2.2
 have Rh:fZ ι1 (lP s.m mb) w1:=by
  cases mb with
  | none=>exact R1
  | some b=>
    refine R1.forget (Nat.le_refl _) fun c r h=>?_
    have h:(s.m.kill b).get c=some r:=h
    rw[aC.get_kill] at h
    split at h
    ·cases h
    ·exact h
 have hx:=gO hs1.2.1 xo
 have hr:¬ lJ ι1 (lP s.m mb) w1.heap.size:=fun h=>absurd (h.lt Rh) (Nat.lt_irrefl _)
 obtain⟨lb,left,o,hrun,hI,hE,hlb⟩:∃ (lb:Option Nat) (left:List MapEntry) (o:Obj),(execOp a1.eval ro).run T.P w1= .ok (.value (.pointer (some ⟨w1.heap.size,0,none⟩))) (w1.alloc o)∧ItR (w1.alloc o) w1.heap.size lb left∧eO ι1 es left∧∀ b,lb=some b→b<w1.heap.size∧¬ lJ ι1 (lP s.m mb) b:=by
  unfold jH at heb
  split at heb
  ·rename_i hop
   injection heb with heb
   injection heb with e1 e2
   subst e1 e2
   rw[hop] at hx
   generalize hev:a1.eval xo=v at hx
   cases hx
   refine⟨none,[],.mapIter none 0 #[] 0,?_,⟨heap_alloc_new _ _,rfl⟩,.nil,fun b h=>by cases h⟩
   unfold execOp
   simp only[hr1,hev,Instr.range,Sem.run_bind,iQ ok hxt hmp,Result.andThen_ok,Sem.run_pure]
   simp
  ·rename_i b hop
   split at heb
   ·rename_i es' hg
    injection heb with heb
    injection heb with e1 e2
    subst e1 e2
    rw[hop] at hx
    generalize hev:a1.eval xo=v at hx
    cases hx with
    | map _ l hl=>
      obtain⟨ms,clock,hob,he,hbo⟩:=R1.obj hg hl
      have hlt:l.blk<w1.heap.size:=(Array.getElem?_eq_some_iff.1 hob).1
      refine⟨some l.blk,ms.toList,.mapIter (some l.blk) clock #[] clock,?_,⟨ms,clock,clock, #[],clock,heap_alloc_new _ _,by rw[heap_alloc_old _ _ hlt];exact hob,hbo.1,Nat.le_refl _,Nat.le_refl _,hbo.2,by unfold leftOf;rw[Array.toList_filter];exact (List.filter_eq_self.2 (fun _ _=>by simp)).symm⟩,he,fun b' h=>?_⟩
      ·unfold execOp
       simp only[hr1,hev,Instr.range,Sem.run_bind,iQ ok hxt hmp,eP hob,Result.andThen_ok,Sem.run_pure]
       simp
      ·injection h with h;subst h
       refine⟨hlt,fun⟨c,r,l2,k1,k2,k3⟩=>?_⟩
       have k1:(s.m.kill b).get c=some r:=k1
       rw[aC.get_kill] at k1
       split at k1
       ·cases k1
       ·rename_i hcb
        exact hcb (R1.inj c b r _ l2 l k1 hg k2 hl k3)
   ·cases heb
  ·cases heb
 unfold wpList
 rw[if_pos (by simp[Region.wanted,hr3])]
 refine .inl ?_
 unfold Oper.wp
 rw[hrun,Oper.upon_value,hr2]
 show Code.wp T.P (.block out _) (iM ι st.m w Q) (a1.put (some it) _) (w1.alloc o)
 have Sb:bR ι1 (lP s.m mb) w1 ι1 (lP s.m mb) (w1.alloc o):=(bR.refl Rh).side (r:=w1.heap.size) (Nat.le_refl _) hr (by show _≤(w1.heap.push o).size;simp) (fun k hk _=>heap_alloc_old _ _ hk) rfl rfl rfl
 have hsize:a1.tmps.size=s.n:=hs1.1
 have hns:nt≤s.n:=by rw[hsn];exact hn
 have fin:∀ (ι':bS) (s':St) (a':Act) (w':World) (ex:Ex),tF ι' s' a' w'→bR ι1 (lP s.m mb) w1 ι' s'.m w'→Q ex { n:=s'.n,t:=s'.t,m:=lT s'.m (mb,es) }→iM ι st.m w Q ex.c a' w':=fun ι' s' a' w' ex hs' S' hq=>by
  have S2:=aFR R1 heb S'
  exact⟨ι',ex,⟨s'.n,s'.t,lT s'.m (mb,es)⟩,rfl,⟨hs'.1,hs'.2.1,hs'.2.2.1,S2.rel⟩,S1.trans S2,hq⟩
 refine wp_block (wp_loop_rounds (es.length+1) ?_)
 have key:∀ (n:Nat) (rem:List (AV×AV)) (left:List MapEntry) (s':St) (ι':bS) (a':Act) (w':World),rem.length=n→tF ι' s' a' w'→(∀ i,i∉sl.map (·.1)++junk→(s'.t.get i).getD eY=(s.t.get i).getD eY)→s'.n=s.n→
  (s'.t.get it).getD eY= .val (.pointer (some ⟨w1.heap.size,0,none⟩))→yX (sl.map (·.2)) (J rem) (cI s'.t sl) 0 s'.m→bR ι1 (lP s.m mb) w1 ι' s'.m w'→ItR w' w1.heap.size lb left→eO ι' rem left→
  Code.rounds T.P (.seq (.region id2 sops false) (.seq (.cond (.tmp more) .skip (.exit out)) (.block nx (.seq (.region id3 eops false) body)))) (Exit.inBlock out (iM ι st.m w Q)) (n+1) a' w':=by
  intro n
  induction n using Nat.strongRecOn with
  | _ n ih=>
    intro rem left s' ι' a' w' hlen hs' hout hn' hitA hJr S' hI' hE'
    have hitv:a'.tmps.getD it undef= .pointer (some ⟨w1.heap.size,0,none⟩):=by
     have:=hs'.2.1 it
     rw[hitA] at this
     generalize a'.tmps.getD it undef=u at this
     cases this
     rfl
    show Code.wp T.P _ _ a' w'
    refine wp_seq (wp_region_list ?_)
    rw[hsops]
    have hsz:a'.tmps.size=s.n:=hs'.1.trans hn'
    have hev1:a'.eval (.tmp it)= .pointer (some ⟨w1.heap.size,0,none⟩):=hitv
    have hlv:¬ lJ ι' s'.m w1.heap.size:=fun h=>by
     rcases S'.evl _ h with h1|h1
     ·obtain⟨b,row,l,k1,k2,k3⟩:=h
      obtain⟨l',k4,k5⟩:=S'.rel.live b row k1
      rw[k2] at k4;injection k4 with k4;subst k4
      have hh:w'.heap[w1.heap.size]? =some (.mapIter none 0 #[] 0)∨∃ m si se la,w'.heap[w1.heap.size]? =some (.mapIter m si se la):=by
       cases lb with
       | none=>exact .inl hI'.1
       | some lb=>obtain⟨_,_,_,_,_,k6,_⟩:=hI';exact .inr ⟨_,_,_,_,k6⟩
      rw[k3] at k5
      rcases hh with hh|⟨_,_,_,_,hh⟩ <;> rw[hh] at k5 <;> cases row <;> exact k5.elim
     ·exact hr h1
    have hfr:∀ (t2:Tr AV),(∀ i,i∉junk→(t2.get i).getD eY=(s'.t.get i).getD eY)→yF (iN (fun j=>t2.get j) junk (setS sl (cI s'.t sl) s.t)) t2:=fun t2 ht2 i=>by
     refine oN (P:=fun i=>i∈junk) (fun j hj=>?_) i (fun hp=>hp.2 hp.1)
     by_cases hjs:j∈sl.map (·.1)
     ·rw[ht2 j hj]
      exact rK (t':=s'.t) (P:=fun i=>i∈sl.map (·.1)++junk) (fun k hk=>(hout k hk).symm) j (fun hp=>hp.2 hjs)
     ·rw[ht2 j hj,mM hjs]
      exact (hout j (by simp only[List.mem_append,not_or];exact⟨hjs,hj⟩)).symm
    unfold wpList
    rw[if_pos (by simp[Region.wanted,p3])]
    refine .inl ?_
    unfold Oper.wp
    rcases hI'.next (P:=T.P) n1.type with⟨hl,hrn⟩|⟨i,e,w3,hle,hrn,hren,hI3,hsz3,hh3,ho3,ht3,hu3⟩
    ·
     subst hl
     cases hE'
     have hrun1:(execOp a'.eval n1).run T.P w'= .ok (.value (.tuple #[.bool false])) w':=by
      unfold execOp
      simp only[p1,hev1,Sem.run_bind,hrn,Result.andThen_ok,Sem.run_pure]
     rw[hrun1,Oper.upon_value,p2]
     show wpList T.P sops _ [n2] (a'.put (some ntm) (.tuple #[.bool false])) w'
     have hs2:=hs'.put (d:=ntm) (x:= .tup [.val (.bool false)]) (.tup [.val (.bool false)] #[.bool false] (.cons _ _ _ _ (.val _ rfl) .nil)) (by rw[hn'];exact Nat.lt_of_lt_of_le b2 hns)
     unfold wpList
     rw[if_pos (by simp[Region.wanted,q3])]
     refine .inl ?_
     unfold Oper.wp
     have hev2:(a'.put (some ntm) (.tuple #[.bool false])).eval (.tmp ntm)= .tuple #[.bool false]:=lQ (by rw[hsz];exact Nat.lt_of_lt_of_le b2 hns)
     have hrun2:(execOp (a'.put (some ntm) (.tuple #[.bool false])).eval n2).run T.P w'= .ok (.value (.bool false)) w':=by
      unfold execOp
      simp only[q1,hev2]
      rfl
     rw[hrun2,Oper.upon_value,q2]
     have hs3:=hs2.put (d:=more) (x:= .val (.bool false)) (.val _ rfl) (by show more<s'.n;rw[hn'];exact Nat.lt_of_lt_of_le b3 hns)
     show Code.wp T.P _ _ ((a'.put (some ntm) (.tuple #[.bool false])).put (some more) (.bool false)) w'
     have hev3:((a'.put (some ntm) (.tuple #[.bool false])).put (some more) (.bool false)).eval (.tmp more)= .bool false:=lQ (by rw[lA,hsz];exact Nat.lt_of_lt_of_le b3 hns)
     refine wp_seq (wp_cond hev3 (wp_exit ?_))
     show Exit.inBlock out (iM ι st.m w Q) (.exit out) _ _
     simp only[Exit.inBlock,if_true]
     have hsame:=hfr ((s'.t.set ntm (some (.tup [.val (.bool false)]))).set more (some (.val (.bool false)))) (fun i hi=>by
      rw[Tr.get_set_ne _ _ _ _ (fun e=>hi (by rw[e];exact j3)),Tr.get_set_ne _ _ _ _ (fun e=>hi (by rw[e];exact j2))])
     have hq:=(kH (hJ fun j=>((s'.t.set ntm (some (.tup [.val (.bool false)]))).set more (some (.val (.bool false)))).get j) hJr [] s'.m hJr).1 rfl
     refine fin ι' ⟨s.n,_,s'.m⟩ _ w' .normal ⟨?_,fun i=>?_,hs3.2.2.1,hs3.2.2.2⟩ S' hq
     ·rw[lA,lA];exact hsz
     ·rw[hsame i];exact hs3.2.1 i
    ·
     obtain⟨k,v,hki,hk,hv⟩:=hE'.get hle
     have hrun1:(execOp a'.eval n1).run T.P w'= .ok (.value (.tuple #[.bool true,e.key,e.val])) w3:=by
      unfold execOp
      simp only[p1,hev1,Sem.run_bind,hrn,Result.andThen_ok,Sem.run_pure]
     rw[hrun1,Oper.upon_value,p2]
     show wpList T.P sops _ [n2] (a'.put (some ntm) (.tuple #[.bool true,e.key,e.val])) w3
     have S3:bR ι1 (lP s.m mb) w1 ι' s'.m w3:=S'.side (r:=w1.heap.size) (Nat.le_refl _) hlv (by rw[hsz3];exact Nat.le_refl _) (fun k _ hk=>hh3 k hk) ho3 ht3 hu3
     have hsA:tF ι' s' a' w3:=⟨hs'.1,hs'.2.1,hs'.2.2.1,S3.rel⟩
     have hs2:=hsA.put (d:=ntm) (x:= .tup [.val (.bool true),k,v]) (.tup [.val (.bool true),k,v] #[.bool true,e.key,e.val] (.cons _ _ _ _ (.val _ rfl) (.cons _ _ _ _ hk (.cons _ _ _ _ hv .nil)))) (by rw[hn'];exact Nat.lt_of_lt_of_le b2 hns)
     unfold wpList
     rw[if_pos (by simp[Region.wanted,q3])]
     refine .inl ?_
     unfold Oper.wp
     have hev2:(a'.put (some ntm) (.tuple #[.bool true,e.key,e.val])).eval (.tmp ntm)= .tuple #[.bool true,e.key,e.val]:=lQ (by rw[hsz];exact Nat.lt_of_lt_of_le b2 hns)
     have hrun2:(execOp (a'.put (some ntm) (.tuple #[.bool true,e.key,e.val])).eval n2).run T.P w3= .ok (.value (.bool true)) w3:=by
      unfold execOp
      simp only[q1,hev2]
      rfl
     rw[hrun2,Oper.upon_value,q2]
     have hs3:=hs2.put (d:=more) (x:= .val (.bool true)) (.val _ rfl) (by show more<s'.n;rw[hn'];exact Nat.lt_of_lt_of_le b3 hns)
     show Code.wp T.P _ _ ((a'.put (some ntm) (.tuple #[.bool true,e.key,e.val])).put (some more) (.bool true)) w3
     have hev3:((a'.put (some ntm) (.tuple #[.bool true,e.key,e.val])).put (some more) (.bool true)).eval (.tmp more)= .bool true:=lQ (by rw[lA,hsz];exact Nat.lt_of_lt_of_le b3 hns)
     refine wp_seq (wp_cond hev3 (wp_skip ?_))
     show Code.wp T.P (.block nx _) _ ((a'.put (some ntm) (.tuple #[.bool true,e.key,e.val])).put (some more) (.bool true)) w3
     generalize ha3:(a'.put (some ntm) (.tuple #[.bool true,e.key,e.val])).put (some more) (.bool true)=a3 at hs3 ⊢
     have hit3:a3.tmps.getD it undef= .pointer (some ⟨w1.heap.size,0,none⟩):=by
      rw[← ha3,aBg d2,aBg d1];exact hitv
     have hsz3a:a3.tmps.size=s.n:=by rw[← ha3,lA,lA];exact hsz
     have hsame:=hfr ((s'.t.set ntm (some (.tup [.val (.bool true),k,v]))).set more (some (.val (.bool true)))) (fun i hi=>by
      rw[Tr.get_set_ne _ _ _ _ (fun e=>hi (by rw[e];exact j3)),Tr.get_set_ne _ _ _ _ (fun e=>hi (by rw[e];exact j2))])
     have hb:=(kH (hJ fun j=>((s'.t.set ntm (some (.tup [.val (.bool true),k,v]))).set more (some (.val (.bool true)))).get j) hJr rem s'.m hJr).2 i k v hki
     generalize hF:iN (fun j=>((s'.t.set ntm (some (.tup [.val (.bool true),k,v]))).set more (some (.val (.bool true)))).get j) junk (setS sl (cI s'.t sl) s.t)=F at hsame hb
     have hFout:∀ i,i∉sl.map (·.1)++junk→F.get i=s.t.get i:=fun i hi=>by
      simp only[List.mem_append,not_or] at hi
      rw[← hF,jS hi.2,mM hi.1]
     have hsF:tF ι' ⟨s.n,F,s'.m⟩ a3 w3:=⟨hsz3a,fun i=>by rw[hsame i];exact hs3.2.1 i,hs3.2.2.1,hs3.2.2.2⟩
     refine wp_block (wp_seq (wp_region_list ?_))
     rw[heops]
     unfold wpList
     rw[if_pos (by simp[Region.wanted,g3])]
     refine .inl ?_
     unfold Oper.wp
     have hev4:a3.eval (.tmp it)= .pointer (some ⟨w1.heap.size,0,none⟩):=hit3
     have hrun3:(execOp a3.eval e1).run T.P w3= .ok (.value (.tuple #[e.key,e.val])) w3:=by
      unfold execOp
      simp only[g1,hev4,Sem.run_bind,hren,Result.andThen_ok,Sem.run_pure]
     rw[hrun3,Oper.upon_value,g2]
     show wpList T.P eops _ rest (a3.put (some pair) (.tuple #[e.key,e.val])) w3
     have hs4:=hsF.put (d:=pair) (x:= .tup [k,v]) (.tup [k,v] #[e.key,e.val] (.cons _ _ _ _ hk (.cons _ _ _ _ hv .nil))) (by show pair<s.n;exact Nat.lt_of_lt_of_le b4 hns)
     have hit4:(a3.put (some pair) (.tuple #[e.key,e.val])).tmps.getD it undef= .pointer (some ⟨w1.heap.size,0,none⟩):=by rw[aBg d3];exact hit3
     generalize a3.put (some pair) (.tuple #[e.key,e.val])=a4 at hs4 hit4 ⊢
     have hFit:((F.set pair (some (.tup [k,v]))).get it).getD eY= .val (.pointer (some ⟨w1.heap.size,0,none⟩)):=by
      rw[Tr.get_set_ne _ _ _ _ d3,hsame it,Tr.get_set_ne _ _ _ _ d2,Tr.get_set_ne _ _ _ _ d1]
      exact hitA
     have hrest:rest=rest++[]:=(List.append_nil rest).symm
     rw[hrest]
     refine aI4 ok hdr (st:=⟨s.n,F.set pair (some (.tup [k,v])),s'.m⟩) hns hb hs4 (fun s2 ι2 a2 w2 hK2 hn2 hag2 hs2' S2=>?_)
     show Code.wp T.P body _ a2 w2
     refine wp_mono (hW s2 _ (by rw[hn2];exact hns) hK2 ι2 a2 w2 hs2') ?_
     rintro e' a5 w5 ⟨ι5,ex,s5,rfl,hs5,S5,hQ5,hn5,hag5⟩
     have S25:=S2.trans S5
     have S15:=S3.trans S25
     have hn5':s5.n=s.n:=hn5.trans hn2
     have hit5:(s5.t.get it).getD eY= .val (.pointer (some ⟨w1.heap.size,0,none⟩)):=by
      rw[hag5 it hit2,hag2 it hit1];exact hFit
     have hout5:∀ i,i∉sl.map (·.1)++junk→(s5.t.get i).getD eY=(s.t.get i).getD eY:=fun j hj=>by
      have hj2:j∉junk:=fun hm=>hj (by simp[hm])
      rw[hag5 j (fun hm=>hj (hasg j (.inr hm))),hag2 j (fun hm=>hj (hasg j (.inl hm)))]
      show ((F.set pair (some (.tup [k,v]))).get j).getD eY=_
      rw[Tr.get_set_ne _ _ _ _ (fun e=>hj2 (by rw[e];exact j4)),hFout j hj]
     have hkeep:∀ q,q<w3.heap.size→¬ lJ ι' s'.m q→w5.heap[q]? =w3.heap[q]? :=fun q hq hnl=>S25.frame q hq fun⟨c,r,l,k1,_,k3,k4⟩=>hnl ⟨c,r,l,k1,k3,k4⟩
     have hI5:ItR w5 w1.heap.size lb (left.eraseIdx i):=hI3.kept (hkeep _ (by
      rcases lb with _|lb
      ·exact (Array.getElem?_eq_some_iff.1 hI3.1).1
      ·obtain⟨_,_,_,_,_,k6,_⟩:=hI3;exact (Array.getElem?_eq_some_iff.1 k6).1) hlv) (fun b hb'=>by
      obtain⟨h1,h2⟩:=hlb b hb'
      refine hkeep b (by have:=S3.size;omega) (fun h=>?_)
      rcases S'.evl b h with h3|h3
      ·omega
      ·exact h2 h3)
     have hE5:eO ι5 (rem.eraseIdx i) (left.eraseIdx i):=(hE'.mono S25.ext).erase i
     have hri:i<rem.length:=(List.getElem?_eq_some_iff.1 hki).1
     have again:yX (sl.map (·.2)) (J (rem.eraseIdx i)) (cI s5.t sl) 0 s5.m→Code.rounds T.P (.seq (.region id2 sops false) (.seq (.cond (.tmp more) .skip (.exit out)) (.block nx (.seq (.region id3 eops false) body)))) (Exit.inBlock out (iM ι st.m w Q)) n a5 w5:=fun hJ5=>by
      obtain⟨m,rfl⟩:∃ m,n=m+1:=⟨n-1,by omega⟩
      exact ih m (by omega) (rem.eraseIdx i) (left.eraseIdx i) s5 ι5 a5 w5 (by rw[List.length_eraseIdx,if_pos hri];omega) hs5 hout5 hn5' hit5 hJ5 S15 hI5 hE5
     cases ex with
     | normal=>exact again hQ5
     | exit j=>
       simp only[nV] at hQ5
       show Exit.inBlock nx _ (.exit j) a5 w5
       simp only[Exit.inBlock]
       by_cases hj:j=nx
       ·rw[if_pos hj] at hQ5 ⊢
        exact again hQ5
       ·rw[if_neg hj] at hQ5 ⊢
        show Exit.inBlock out (iM ι st.m w Q) (.exit j) a5 w5
        simp only[Exit.inBlock]
        simp only[andThen,nV] at hQ5
        by_cases hjo:j=out
        ·rw[if_pos hjo] at hQ5 ⊢
         exact fin ι5 s5 a5 w5 .normal hs5 S15 hQ5
        ·rw[if_neg hjo] at hQ5 ⊢
         exact fin ι5 s5 a5 w5 (.exit j) hs5 S15 hQ5
     | goto l=>exact fin ι5 s5 a5 w5 (.goto l) hs5 S15 hQ5
     | ret=>exact fin ι5 s5 a5 w5 .ret hs5 S15 hQ5
 have hsI:tF ι1 ⟨s.n,s.t,lP s.m mb⟩ a1 (w1.alloc o):=⟨hs1.1,hs1.2.1,hs1.2.2.1,Sb.rel⟩
 have hsJ:=hsI.put (d:=it) (x:= .val (.pointer (some ⟨w1.heap.size,0,none⟩))) (.val _ rfl) (by show it<s.n;exact Nat.lt_of_lt_of_le b1 hns)
 refine key es.length es left _ ι1 _ _ rfl hsJ (fun i hi=>?_) rfl ?_ ?_ Sb hI hE
 ·show ((s.t.set it _).get i).getD eY=_
  rw[Tr.get_set_ne _ _ _ _ (fun e=>hi (by rw[e];simp[j1]))]
 ·show ((s.t.set it _).get it).getD eY=_
  rw[Tr.get_set_eq];rfl
 ·have:cI (s.t.set it (some (.val (.pointer (some ⟨w1.heap.size,0,none⟩))))) sl=cI s.t sl:=by
   unfold cI
   apply List.map_congr_left
   intro x hx
   rw[Tr.get_set_ne _ _ _ _ (fun e=>hsl (by rw[← e];exact List.mem_map.2 ⟨x,hx,rfl⟩))]
  show yX _ _ (cI (s.t.set it _) sl) 0 _
  rw[this];exact h0
section
variable {T:bQ}
theorem wH{L:Nat}:∀ {x p r:Code},sR L x=some (p,r)→findLabel x L=some (.seq .skip r)
 | .seq a b,p,r,hp=>by
   have gen:findLabel a L=none→(match sR L b with|some (p,r)=>some (Code.seq a p,r)|none=>none)=some (p,r)→findLabel (.seq a b) L=some (.seq .skip r):=by
    intro ha hp
    unfold findLabel
    rw[ha]
    cases hb:sR L b with
    | none=>rw[hb] at hp;cases hp
    | some q=>
      obtain⟨q1,q2⟩:=q
      rw[hb] at hp
      simp only[Option.some.injEq,Prod.mk.injEq] at hp
      rw[← hp.2]
      exact wH hb
   unfold sR at hp
   split at hp
   ·rename_i l
    cases hl:Nat.beq l L with
    | true=>
      rw[hl,cond_true] at hp
      simp only[Option.some.injEq,Prod.mk.injEq] at hp
      have hlL:l=L:=Nat.eq_of_beq_eq_true hl
      subst hlL
      rw[← hp.2]
      unfold findLabel
      have:findLabel (.label l) l=some .skip:=by unfold findLabel;simp
      rw[this]
    | false=>
      rw[hl,cond_false] at hp
      refine gen ?_ hp
      unfold findLabel
      have hne:¬ l=L:=fun e=>by rw[e] at hl;simp at hl
      simp[hne]
   ·split at hp
    ·cases hp
    ·rename_i ha
     exact gen ha hp
 | .skip,_,_,hp=>by cases hp
 | .region ..,_,_,hp=>by cases hp
 | .cond ..,_,_,hp=>by cases hp
 | .block ..,_,_,hp=>by cases hp
 | .loop _,_,_,hp=>by cases hp
 | .rangeFunc ..,_,_,hp=>by cases hp
 | .exit _,_,_,hp=>by cases hp
 | .scope _,_,_,hp=>by cases hp
 | .label _,_,_,hp=>by cases hp
 | .goto _,_,_,hp=>by cases hp
 | .ret,_,_,hp=>by cases hp
 | .refuse _,_,_,hp=>by cases hp
theorem gZ{nt:Nat}:∀ {an:An} {c:Code} {st:St} {Q Q':Ex→St→Prop},mY T nt an c=true→wZ T an c st Q→(∀ ex s,s.n=st.n→oW st.t s.t (asgOf an c)→Q ex s→Q' ex s)→wZ T an c st Q'
 | .z,c,st,Q,Q',_,h,hk=>by
   cases c <;> simp only[wZ] at h ⊢ <;> exact hk _ st rfl oW.refl h
 | .reg ks,c,st,Q,Q',hB,h,hk=>by
   cases c <;> simp only[wZ] at h ⊢
   rename_i id ops d
   cases d with
   | true=>exact h.elim
   | false=>exact vW h fun s hn ha hs=>hk _ s hn ha hs
 | .opn steps rk ob n ks,c,st,Q,Q',hB,h,hk=>by
   cases c <;> simp only[wZ] at h ⊢
   rename_i id ops d
   cases d with
   | true=>exact aI9 h fun s hn ha hs=>hk _ s hn ha hs
   | false=>exact h.elim
 | .seq a b,c,st,Q,Q',hB,h,hk=>by
   cases c <;> simp only[wZ] at h ⊢
   rename_i x y
   simp only[mY,Bool.and_eq_true] at hB
   refine gZ hB.1 h fun ex s hn ha hs=>?_
   cases ex with
   | normal=>exact gZ hB.2 hs fun ex s' hn' ha' hs'=>hk ex s' (hn'.trans hn) ((ha.sub fun i hi=>by simp[asgOf,hi]).trans (ha'.sub fun i hi=>by simp[asgOf,hi])) hs'
   | _=>exact hk _ s hn (ha.sub fun i hi=>by simp[asgOf,hi]) hs
 | .cnd a b,c,st,Q,Q',hB,h,hk=>by
   cases c <;> simp only[wZ] at h ⊢
   rename_i o x y
   simp only[mY,Bool.and_eq_true] at hB
   obtain⟨v,hv,h⟩:=rM h
   rw[hv]
   show aE v _ _
   cases v with
   | true=>exact gZ hB.1 h fun ex s hn ha hs=>hk ex s hn (ha.sub fun i hi=>by simp[asgOf,hi]) hs
   | false=>exact gZ hB.2 h fun ex s hn ha hs=>hk ex s hn (ha.sub fun i hi=>by simp[asgOf,hi]) hs
 | .blk a,c,st,Q,Q',hB,h,hk=>by
   cases c <;> simp only[wZ] at h ⊢
   rename_i id x
   simp only[mY] at hB
   refine gZ hB h fun ex s hn ha hs=>?_
   have hk':∀ ex,Q ex s→Q' ex s:=fun ex hq=>hk ex s hn ha hq
   cases ex with
   | exit i=>
     simp only[nV] at hs ⊢
     split
     ·rename_i he;rw[if_pos he] at hs;exact hk' _ hs
     ·rename_i he;rw[if_neg he] at hs;exact hk' _ hs
   | _=>exact hk' _ hs
 | .lop sl junk a,c,st,Q,Q',hB,h,hk=>by
   cases c <;> simp only[wZ] at h ⊢
   rename_i x
   simp only[mY,Bool.and_eq_true,List.all_eq_true] at hB
   obtain⟨J,h0,h⟩:=h
   refine⟨J,h0,fun js=>?_⟩
   have hA:∀ {ks:List LK} {f g:List AV→Prop},(∀ vs,f vs→g vs)→aAv ks f→aAv ks g:=fun {ks}=>by
    induction ks with
    | nil=>intro f g hfg h;exact hfg _ h
    | cons k ks ih=>
      intro f g hfg h
      cases k with
      | any=>exact fun v=>ih (fun vs hvs=>hfg _ hvs) (h v)
      | int k=>exact fun v=>ih (fun vs hvs=>hfg _ hvs) (h v)
      | bool=>exact fun v=>ih (fun vs hvs=>hfg _ hvs) (h v)
   refine hA (fun vs hvs n m hJ=>?_) (h js)
   refine gZ hB.1 (hvs n m hJ) fun ex s hn ha hs=>?_
   cases ex with
   | normal=>exact hs
   | _=>
     refine hk _ s hn (fun i hi=>?_) hs
     have hi':i∉sl.map (·.1)++junk:=hi
     rw[ha i fun hm=>hi' (iD.1 (hB.2 i hm))]
     simp only[List.mem_append,not_or] at hi'
     show (iN js junk (setS sl vs st.t)).get i=st.t.get i
     rw[jS hi'.2,mM hi'.1]
 | .mlp ks sl junk ke a,c,st,Q,Q',hB,h,hk=>by
   simp only[wZ] at h ⊢
   simp only[mY] at hB
   cases hp:jM c with
   | none=>rw[hp] at h;exact h.elim
   | some p=>
     rw[hp] at h hB
     simp only at h hB ⊢
     simp only[Bool.and_eq_true,List.all_eq_true] at hB
     obtain⟨hBa,_,_,_,_,⟨_,_,_,hj4⟩,_,hsub,_⟩:=hB
     have hsub:∀ i,i∈dstsOf p.rest∨i∈asgOf a p.body→i∈sl.map (·.1)++junk:=fun i hi=>iD.1 (hsub i (by simpa using hi))
     have hk2:∀ ex s,s.n=st.n→oW st.t s.t (dstsOf p.pre++(sl.map (·.1)++junk))→Q ex s→Q' ex s:=fun ex s hn ha hq=>hk ex s hn (by
      simp only[asgOf]
      rw[hp]
      exact ha) hq
     refine vW h fun s hn ha hK=>?_
     unfold mlK at hK ⊢
     obtain⟨eb,heb,J,h0,hJ⟩:=lU hK
     rw[heb,eM]
     refine⟨J,h0,fun js=>aB0 (fun vs hvs rem m hJm=>?_) (hJ js)⟩
     obtain⟨hv1,hv2⟩:=hvs rem m hJm
     have hbase:oW st.t (iN js junk (setS sl vs s.t)) (dstsOf p.pre++(sl.map (·.1)++junk)):=fun i hi=>by
      simp only[List.mem_append,not_or] at hi
      rw[jS hi.2.2,mM hi.2.1,ha i hi.1]
     refine⟨fun hr=>hk2 _ _ hn hbase (hv1 hr),fun i k v hi=>?_⟩
     refine vW (hv2 i k v hi) fun s2 hn2 ha2 hW=>?_
     refine gZ hBa hW fun ex s3 hn3 ha3 hq=>?_
     have h3n:s3.n=st.n:=hn3.trans (hn2.trans hn)
     have h3:oW st.t s3.t (dstsOf p.pre++(sl.map (·.1)++junk)):=fun i hi=>by
      have hi2:i∉sl.map (·.1)++junk:=fun hm=>hi (by simp only[List.mem_append] at hm ⊢;exact .inr hm)
      rw[ha3 i (fun hm=>hi2 (hsub i (.inr hm))),ha2 i (fun hm=>hi2 (hsub i (.inl hm)))]
      show ((iN js junk (setS sl vs s.t)).set p.pair _).get i=_
      rw[Tr.get_set_ne _ _ _ _ (fun e=>hi2 (by rw[e];have:=iD.1 hj4;simp[this]))]
      exact hbase i hi
     cases ex with
     | normal=>exact hq
     | exit j=>
       simp only[nV] at hq ⊢
       by_cases hj:j=p.nx
       ·rw[if_pos hj] at hq ⊢;exact hq
       ·rw[if_neg hj] at hq ⊢
        simp only[andThen,nV] at hq ⊢
        by_cases hjo:j=p.out
        ·rw[if_pos hjo] at hq ⊢;exact hk2 _ _ h3n h3 hq
        ·rw[if_neg hjo] at hq ⊢;exact hk2 _ _ h3n h3 hq
     | goto l=>exact hk2 _ _ h3n h3 hq
     | ret=>exact hk2 _ _ h3n h3 hq
 | .scp L F ap sl junk ar aF,c,st,Q,Q',hB,h,hk=>by
   cases c <;> simp only[wZ] at h ⊢
   rename_i x
   simp only[mY] at hB
   split at h
   rotate_left
   ·exact h.elim
   rename_i p r f0 f hp hf
   rw[hp,hf] at hB
   simp only[Bool.and_eq_true,List.all_eq_true] at hB
   replace hB:=hB.2
   have hasg:∀ {t:Tr AV} (vs:List AV) (js:Nat→Option AV),oW t (iN js junk (setS sl vs t)) (sl.map (·.1)++junk):=fun vs js i hi=>by
    simp only[List.mem_append,not_or] at hi
    rw[jS hi.2,mM hi.1]
   have hsub:∀ i,i∈asgOf ar r∨i∈asgOf aF f→i∈sl.map (·.1)++junk:=fun i hi=>iD.1 (hB.2.2.2 i (by simpa using hi))
   have hk2:∀ ex s,s.n=st.n→oW st.t s.t (asgOf ap p++(sl.map (·.1)++junk))→Q ex s→Q' ex s:=fun ex s hn ha hq=>hk ex s hn (by
    simp only[asgOf]
    rw[hp]
    exact ha) hq
   refine gZ hB.1 h fun ex s hn ha hs=>?_
   have hap:oW st.t s.t (asgOf ap p++(sl.map (·.1)++junk)):=ha.sub fun i hi=>by simp[hi]
   cases ex with
   | normal=>
     obtain⟨J,h0,h⟩:=hs
     refine⟨J,h0,fun js=>aB0 (fun vs hvs n m hJ=>?_) (h js)⟩
     have hbase:oW st.t (iN js junk (setS sl vs s.t)) (asgOf ap p++(sl.map (·.1)++junk)):=hap.trans ((hasg vs js).sub fun i hi=>by simp only[List.mem_append] at hi ⊢;exact .inr hi)
     have hfin:∀ {t':Tr AV},oW (iN js junk (setS sl vs s.t)) t' (asgOf ar r)→oW st.t t' (asgOf ap p++(sl.map (·.1)++junk)):=fun h1=>hbase.trans (h1.sub fun i hi=>by have:=hsub i (.inl hi);simp only[List.mem_append] at this ⊢;exact .inr this)
     refine gZ hB.2.1 (hvs n m hJ) fun ex s1 hn1 ha1 hs1=>?_
     have h1:=hfin ha1
     cases ex with
     | goto l=>
       simp only[aC5] at hs1 ⊢
       cases hl:Nat.beq l L with
       | true=>rw[hl] at hs1;exact hs1
       | false=>
         rw[hl,cond_false] at hs1
         rw[cond_false]
         cases hlF:Nat.beq l F with
         | false=>rw[hlF] at hs1;exact hs1
         | true=>
           rw[hlF,cond_true] at hs1
           rw[cond_true]
           refine gZ hB.2.2.1 hs1 fun ex s2 hn2 ha2 hs2=>?_
           have h2:oW st.t s2.t (asgOf ap p++(sl.map (·.1)++junk)):=h1.trans (ha2.sub fun i hi=>by have:=hsub i (.inr hi);simp only[List.mem_append] at this ⊢;exact .inr this)
           cases ex with
           | goto l=>exact hs2
           | normal=>exact hk2 _ s2 (hn2.trans (hn1.trans hn)) h2 hs2
           | exit i=>exact hk2 _ s2 (hn2.trans (hn1.trans hn)) h2 hs2
           | ret=>exact hk2 _ s2 (hn2.trans (hn1.trans hn)) h2 hs2
     | normal=>exact hk2 _ s1 (hn1.trans hn) h1 hs1
     | exit i=>exact hk2 _ s1 (hn1.trans hn) h1 hs1
     | ret=>exact hk2 _ s1 (hn1.trans hn) h1 hs1
   | goto l=>exact hs
   | exit i=>exact hk2 _ s hn hap hs
   | ret=>exact hk2 _ s hn hap hs
theorem aKC{nt B:Nat}(hrec:∀ {a:An} {c:Code} {st:St} {Q:Ex→St→Prop},SizeOf.sizeOf a<B→mY T nt a c=true→nt≤st.n→wZ T a c st Q→mL T.P c st Q){L:Nat}{K:St→Prop}{Q Q':Ex→St→Prop}{r:Code}{N:Nat}
 (hK:∀ s,s.n=N→K s→mL T.P r s Q') (hQ:∀ ex s,(∀ l,ex≠ .goto l)→ex≠ .normal→Q ex s→Q' ex s):
 ∀ {x p:Code} {ap:An} {st:St},sR L x=some (p,r)→aLW ap=true→SizeOf.sizeOf ap<B→mY T nt ap p=true→nt≤st.n→st.n=N→wZ T ap p st (aCz K Q)→mL T.P x st Q'
 | .seq a b,p,ap,st,hp,hnm,hs,hB,hn,hN,h=>by
   have gen:(match sR L b with|some (p,r)=>some (Code.seq a p,r)|none=>none)=some (p,r)→mL T.P (.seq a b) st Q':=by
    intro hp
    cases hb:sR L b with
    | none=>rw[hb] at hp;cases hp
    | some q=>
      obtain⟨q1,q2⟩:=q
      rw[hb] at hp
      simp only[Option.some.injEq,Prod.mk.injEq] at hp
      obtain⟨rfl,rfl⟩:=hp
      cases ap with
      | seq a1 a2=>
        simp only[mY,Bool.and_eq_true] at hB
        simp only[wZ] at h
        have h:=gZ hB.1 h (Q':=fun ex s=>s.n=st.n∧andThen (fun s=>wZ T a2 q1 s (aCz K Q)) (aCz K Q) ex s) fun ex s hn _ hs=>⟨hn,hs⟩
        simp only[An.seq.sizeOf_spec] at hs
        refine tV (jT (hrec (by omega) hB.1 hn h) fun ex s hs'=>?_)
        obtain⟨hsn,hs'⟩:=hs'
        cases ex with
        | normal=>exact aKC hrec hK hQ hb (show aLW a2=true from hnm) (by omega) hB.2 (by omega) (by omega) hs'
        | exit i=>exact hQ _ s (fun l=>by simp) (by simp) hs'
        | goto l=>exact hs'.elim
        | ret=>exact hQ _ s (fun l=>by simp) (by simp) hs'
      | mlp=>cases hnm
      | _=>simp only[wZ] at h
   unfold sR at hp
   split at hp
   ·rename_i l
    cases hl:Nat.beq l L with
    | true=>
      rw[hl,cond_true] at hp
      simp only[Option.some.injEq,Prod.mk.injEq] at hp
      obtain⟨rfl,rfl⟩:=hp
      have hK':K st:=by
       cases ap with
       | z=>simp only[wZ] at h;exact h
       | mlp=>cases hnm
       | _=>simp only[wZ] at h
      exact tV (aBH (hK st hN hK'))
    | false=>
      rw[hl,cond_false] at hp
      exact gen hp
   ·split at hp
    ·cases hp
    ·exact gen hp
 | .skip,_,_,_,hp,_,_,_,_,_,_=>by cases hp
 | .region ..,_,_,_,hp,_,_,_,_,_,_=>by cases hp
 | .cond ..,_,_,_,hp,_,_,_,_,_,_=>by cases hp
 | .block ..,_,_,_,hp,_,_,_,_,_,_=>by cases hp
 | .loop _,_,_,_,hp,_,_,_,_,_,_=>by cases hp
 | .rangeFunc ..,_,_,_,hp,_,_,_,_,_,_=>by cases hp
 | .exit _,_,_,_,hp,_,_,_,_,_,_=>by cases hp
 | .scope _,_,_,_,hp,_,_,_,_,_,_=>by cases hp
 | .label _,_,_,_,hp,_,_,_,_,_,_=>by cases hp
 | .goto _,_,_,_,hp,_,_,_,_,_,_=>by cases hp
 | .ret,_,_,_,hp,_,_,_,_,_,_=>by cases hp
 | .refuse _,_,_,_,hp,_,_,_,_,_,_=>by cases hp
theorem pE(ok:T.Ok)(hmix:T.P.follows .mixedOrders=true){nt:Nat}:∀ (N:Nat) {an:An} {c:Code} {st:St} {Q:Ex→St→Prop},SizeOf.sizeOf an<N→mY T nt an c=true→nt≤st.n→wZ T an c st Q→mL T.P c st Q
 | 0,_,_,_,_,hN,_,_,_=>by omega
 | N+1,.z,c,st,Q,_,_,_,h=>by
   cases c <;> simp only[wZ] at h
   case skip=>exact aA4 h
   case label=>exact aBH h
   case exit=>exact aKT h
   case goto=>exact aKh h
   case ret=>exact aMj h
 | N+1,.reg ks,c,st,Q,hN,hB,hn,h=>by
   have hrec:∀ {a:An} {c:Code} {st:St} {Q:Ex→St→Prop},SizeOf.sizeOf a<N→mY T nt a c=true→nt≤st.n→wZ T a c st Q→mL T.P c st Q:=fun hs=>pE ok hmix N hs
   simp only[An.reg.sizeOf_spec] at hN
   cases c <;> simp only[wZ] at h
   rename_i id ops d
   simp only[mY,List.all_eq_true,Nat.blt_eq] at hB
   cases d with
   | true=>exact h.elim
   | false=>exact aE6 (rH ok hB hn h)
 | N+1,.opn steps rk ob n ks,c,st,Q,hN,hB,hn,h=>by
   have hrec:∀ {a:An} {c:Code} {st:St} {Q:Ex→St→Prop},SizeOf.sizeOf a<N→mY T nt a c=true→nt≤st.n→wZ T a c st Q→mL T.P c st Q:=fun hs=>pE ok hmix N hs
   simp only[An.opn.sizeOf_spec] at hN
   cases c <;> simp only[wZ] at h
   rename_i id ops d
   simp only[mY,Bool.and_eq_true] at hB
   cases d with
   | true=>exact aRM ok hmix nt hB.1 hn steps rk ob n hB.2.1 (aBJ hB.2.2.1) (aOE h)
   | false=>exact h.elim
 | N+1,.seq a b,c,st,Q,hN,hB,hn,h=>by
   have hrec:∀ {a:An} {c:Code} {st:St} {Q:Ex→St→Prop},SizeOf.sizeOf a<N→mY T nt a c=true→nt≤st.n→wZ T a c st Q→mL T.P c st Q:=fun hs=>pE ok hmix N hs
   simp only[An.seq.sizeOf_spec] at hN
   cases c <;> simp only[wZ] at h
   rename_i x y
   simp only[mY,Bool.and_eq_true] at hB
   have h:=gZ hB.1 h (Q':=fun ex s=>s.n=st.n∧andThen (fun s=>wZ T b y s Q) Q ex s) fun ex s hn _ hs=>⟨hn,hs⟩
   refine tV (jT (hrec (by omega) hB.1 hn h) fun ex s hs=>?_)
   cases ex with
   | normal=>exact hrec (by omega) hB.2 (by rw[hs.1];exact hn) hs.2
   | _=>exact hs.2
 | N+1,.cnd a b,c,st,Q,hN,hB,hn,h=>by
   have hrec:∀ {a:An} {c:Code} {st:St} {Q:Ex→St→Prop},SizeOf.sizeOf a<N→mY T nt a c=true→nt≤st.n→wZ T a c st Q→mL T.P c st Q:=fun hs=>pE ok hmix N hs
   simp only[An.cnd.sizeOf_spec] at hN
   cases c <;> simp only[wZ] at h
   rename_i o x y
   simp only[mY,Bool.and_eq_true] at hB
   obtain⟨v,hv,h⟩:=rM h
   refine aKk hv ?_
   cases v with
   | true=>exact hrec (by omega) hB.1 hn h
   | false=>exact hrec (by omega) hB.2 hn h
 | N+1,.blk a,c,st,Q,hN,hB,hn,h=>by
   have hrec:∀ {a:An} {c:Code} {st:St} {Q:Ex→St→Prop},SizeOf.sizeOf a<N→mY T nt a c=true→nt≤st.n→wZ T a c st Q→mL T.P c st Q:=fun hs=>pE ok hmix N hs
   simp only[An.blk.sizeOf_spec] at hN
   cases c <;> simp only[wZ] at h
   rename_i id x
   simp only[mY] at hB
   exact aHJ (hrec (by omega) hB hn h)
 | N+1,.lop sl junk a,c,st,Q,hN,hB,hn,h=>by
   have hrec:∀ {a:An} {c:Code} {st:St} {Q:Ex→St→Prop},SizeOf.sizeOf a<N→mY T nt a c=true→nt≤st.n→wZ T a c st Q→mL T.P c st Q:=fun hs=>pE ok hmix N hs
   simp only[An.lop.sizeOf_spec] at hN
   cases c <;> simp only[wZ] at h
   rename_i x
   simp only[mY,Bool.and_eq_true,List.all_eq_true] at hB
   obtain⟨J,⟨n0,h0⟩,h⟩:=h
   let I:Nat→St→Prop:=fun n s=>s.n=st.n∧(∀ i,i∉sl.map (·.1)++junk→(s.t.get i).getD eY=(st.t.get i).getD eY)∧yX (sl.map (·.2)) J (cI s.t sl) n s.m
   have key:∀ n s,I n s→RdA T.P x Q (n+1) s:=by
    intro n
    induction n using Nat.strongRecOn with
    | _ n ih=>
      rintro⟨sn,t,m⟩ ⟨h1,h2,h3⟩
      simp only at h1 h2 h3
      subst h1
      have hb:=kH (h fun j=>t.get j) h3 n m h3
      have hsame:yF (iN (fun j=>t.get j) junk (setS sl (cI t sl) st.t)) t:=fun i=>by
       refine oN (P:=fun i=>i∈sl.map (·.1)++junk∧i∉sl.map (·.1)) (fun i hi=>rK (P:=fun i=>i∈sl.map (·.1)++junk) (fun j hj=>(h2 j hj).symm) i hi) i fun hp=>?_
       simp only[List.mem_append] at hp
       rcases hp.1.1 with h|h
       ·exact hp.1.2 h
       ·exact hp.2 h
      show mL T.P x ⟨st.n,t,m⟩ (andThen (RdA T.P x Q n) Q)
      refine aDE ?_ hsame
      have hb':=gZ hB.1 hb (Q':=fun ex s=>(s.n=st.n∧oW (iN (fun j=>t.get j) junk (setS sl (cI t sl) st.t)) s.t (asgOf a x))∧(andThen (fun s=>∃ k,k<n∧yX (sl.map (·.2)) J (cI s.t sl) k s.m) Q) ex s)
       fun ex s hn ha hs=>⟨⟨hn,ha⟩,hs⟩
      refine jT (hrec (by omega) hB.1 hn hb') fun ex s hs=>?_
      cases ex with
      | normal=>
        obtain⟨⟨g1,g2⟩,k,hk,g3⟩:=hs
        have hI:I k s:=⟨g1,fun i hi=>by
         have:i∉asgOf a x:=fun hm=>hi (iD.1 (hB.2 i hm))
         rw[g2 i this]
         simp only[List.mem_append,not_or] at hi
         rw[jS hi.2,mM hi.1],g3⟩
        exact (ih k hk s hI).mono (by omega)
      | _=>exact hs.2
   exact aF6 (n0+1) (key n0 st ⟨rfl,fun _ _=>rfl,h0⟩)
 | N+1,.mlp ks sl junk ke a,c,st,Q,hN,hB,hn,h=>by
   have hrec:∀ {a:An} {c:Code} {st:St} {Q:Ex→St→Prop},SizeOf.sizeOf a<N→mY T nt a c=true→nt≤st.n→wZ T a c st Q→mL T.P c st Q:=fun hs=>pE ok hmix N hs
   simp only[An.mlp.sizeOf_spec] at hN
   simp only[wZ] at h
   simp only[mY] at hB
   cases hp:jM c with
   | none=>rw[hp] at h;exact h.elim
   | some p=>
     rw[hp] at h hB
     simp only at h hB
     simp only[Bool.and_eq_true,List.all_eq_true,Nat.blt_eq,Bool.not_eq_true'] at hB
     obtain⟨hBa,hmp,hdp,hdr,⟨b1,b2,b3,b4⟩,⟨j1,j2,j3,j4⟩,hsl,hsub,hit⟩:=hB
     obtain⟨⟨i1,i2,i3,rfl⟩,h1,h2,h3,h4,h5,h6,h7,d1,d2,d3⟩:=aBf hp
     obtain⟨te,kt,vt,hxt,hk⟩:=aNm hmp
     have nin:∀ {i:Nat} {l:List Nat},tX i l=false→i∉l:=fun h hm=>by rw[iD.2 hm] at h;cases h
     have hit:=nin hit
     simp only[List.mem_append,not_or] at hit
     exact aQ1 ok h1 h2 h3 h4 h5 h6 h7 (nin hsl) d1 d2 d3 hxt hk (iD.1 j1) (iD.1 j2) (iD.1 j3) (iD.1 j4)
      (asg:=asgOf a p.body) (fun d hd=>iD.1 (hsub d (by simpa using hd))) hit.1 hit.2 hdp b1 b2 b3 b4 hdr
      (W:=fun s2 Q2=>wZ T a p.body s2 Q2) (fun s Q' hns hw=>hrec (by omega) hBa hns (gZ hBa hw fun ex s' hn' ha hq=>⟨hq,hn',ha⟩)) hn h
 | N+1,.scp L F ap sl junk ar aF,c,st,Q,hN,hB,hn,h=>by
   have hrec:∀ {a:An} {c:Code} {st:St} {Q:Ex→St→Prop},SizeOf.sizeOf a<N→mY T nt a c=true→nt≤st.n→wZ T a c st Q→mL T.P c st Q:=fun hs=>pE ok hmix N hs
   simp only[An.scp.sizeOf_spec] at hN
   cases c <;> simp only[wZ] at h
   rename_i x
   simp only[mY] at hB
   split at h
   rotate_left
   ·exact h.elim
   rename_i p r f0 f hp hf
   rw[hp,hf] at hB
   simp only[Bool.and_eq_true,List.all_eq_true] at hB
   have hnm:=hB.1
   replace hB:=hB.2
   have hfL:=wH hp
   have hfF:=wH hf
   have hsub:∀ i,i∈asgOf ar r∨i∈asgOf aF f→i∈sl.map (·.1)++junk:=fun i hi=>iD.1 (hB.2.2.2 i (by simpa using hi))
   refine aIa (vU ?_)
   refine aKC (T:=T) (B:=N) (nt:=nt) (N:=st.n) hrec (fun s1 hs1 hK=>?_) (fun ex s hg hnn hq=>?_) hp hnm (by omega) hB.1 hn rfl h
   rotate_left
   ·cases ex with
    | normal=>exact absurd rfl hnn
    | goto l=>exact absurd rfl (hg l)
    | exit i=>exact hq
    | ret=>exact hq
   obtain⟨J,⟨n0,h0⟩,h⟩:=hK
   let I:Nat→St→Prop:=fun n s=>s.n=st.n∧(∀ i,i∉sl.map (·.1)++junk→(s.t.get i).getD eY=(s1.t.get i).getD eY)∧yX (sl.map (·.2)) J (cI s.t sl) n s.m
   have key:∀ n s,I n s→mL T.P r s (wW T.P x Q):=by
    intro n
    induction n using Nat.strongRecOn with
    | _ n ih=>
      rintro⟨sn,t,m⟩ ⟨h1,h2,h3⟩
      simp only at h1 h2 h3
      subst h1
      rw[hs1] at h
      have hb:=kH (h fun j=>t.get j) h3 n m h3
      have hsame:yF (iN (fun j=>t.get j) junk (setS sl (cI t sl) s1.t)) t:=fun i=>by
       refine oN (P:=fun i=>i∈sl.map (·.1)++junk∧i∉sl.map (·.1)) (fun i hi=>rK (P:=fun i=>i∈sl.map (·.1)++junk) (fun j hj=>(h2 j hj).symm) i hi) i fun hp=>?_
       simp only[List.mem_append] at hp
       rcases hp.1.1 with h|h
       ·exact hp.1.2 h
       ·exact hp.2 h
      refine aDE ?_ hsame
      have hI:∀ (s:St) (l:List Tmp),s.n=st.n→oW (iN (fun j=>t.get j) junk (setS sl (cI t sl) s1.t)) s.t l→(∀ i∈l,i∈sl.map (·.1)++junk)→(∃ k,k<n∧yX (sl.map (·.2)) J (cI s.t sl) k s.m)→∃ k,k<n∧I k s:=by
       rintro s l g1 g2 g4 ⟨k,hk,g3⟩
       refine⟨k,hk,g1,fun i hi=>?_,g3⟩
       rw[g2 i (fun hm=>hi (g4 i hm))]
       simp only[List.mem_append,not_or] at hi
       rw[jS hi.2,mM hi.1]
      have back:∀ s,(∃ k,k<n∧I k s)→wW T.P x Q (.goto L) s:=by
       rintro s ⟨k,hk,hIk⟩
       simp only[wW]
       rw[hfL]
       exact vU (tV (aA4 (ih k hk s hIk)))
      have hb':=gZ hB.2.1 hb (Q':=fun ex s=>(s.n=st.n∧oW (iN (fun j=>t.get j) junk (setS sl (cI t sl) s1.t)) s.t (asgOf ar r))∧aC5 L F (fun s=>∃ k,k<n∧yX (sl.map (·.2)) J (cI s.t sl) k s.m) (fun s=>wZ T aF f s (aCZ L (fun s=>∃ k,k<n∧yX (sl.map (·.2)) J (cI s.t sl) k s.m) Q)) Q ex s)
       fun ex s hn ha hs=>⟨⟨hn,ha⟩,hs⟩
      refine jT (hrec (by omega) hB.2.1 hn hb') fun ex s hs=>?_
      obtain⟨⟨g1,g2⟩,hs⟩:=hs
      cases ex with
      | normal=>exact hs
      | exit i=>exact hs
      | ret=>exact hs
      | goto l=>
        simp only[aC5] at hs
        cases hl:Nat.beq l L with
        | true=>
          rw[hl,cond_true] at hs
          have hlL:l=L:=Nat.eq_of_beq_eq_true hl
          subst hlL
          exact back s (hI s _ g1 g2 (fun i hi=>hsub i (.inl hi)) hs)
        | false=>
          rw[hl,cond_false] at hs
          cases hlF:Nat.beq l F with
          | false=>rw[hlF] at hs;exact hs.elim
          | true=>
            rw[hlF,cond_true] at hs
            have hlF':l=F:=Nat.eq_of_beq_eq_true hlF
            subst hlF'
            simp only[wW]
            rw[hfF]
            refine vU (tV (aA4 ?_))
            have hf':=gZ hB.2.2.1 hs (Q':=fun ex s2=>(s2.n=s.n∧oW s.t s2.t (asgOf aF f))∧aCZ L (fun s=>∃ k,k<n∧yX (sl.map (·.2)) J (cI s.t sl) k s.m) Q ex s2) fun ex s2 hn ha hs=>⟨⟨hn,ha⟩,hs⟩
            refine jT (hrec (by omega) hB.2.2.1 (by rw[g1];exact hn) hf') fun ex s2 hs2=>?_
            obtain⟨⟨e1,e2⟩,hs2⟩:=hs2
            cases ex with
            | normal=>exact hs2
            | exit i=>exact hs2
            | ret=>exact hs2
            | goto l2=>
              simp only[aCZ] at hs2
              cases hl2:Nat.beq l2 L with
              | false=>rw[hl2] at hs2;exact hs2.elim
              | true=>
                rw[hl2,cond_true] at hs2
                have hl2':l2=L:=Nat.eq_of_beq_eq_true hl2
                subst hl2'
                refine back s2 (hI s2 (asgOf ar r++asgOf aF f) (e1.trans g1) ((g2.sub fun i hi=>by simp[hi]).trans (e2.sub fun i hi=>by simp[hi])) (fun i hi=>hsub i (by simpa using hi)) hs2)
   exact key n0 s1 ⟨hs1,fun _ _=>rfl,h0⟩
theorem aOQ(ok:T.Ok)(hmix:T.P.follows .mixedOrders=true){nt:Nat}{an:An}{c:Code}{st:St}{Q:Ex→St→Prop}(hB:mY T nt an c=true)(hn:nt≤st.n)(h:wZ T an c st Q):mL T.P c st Q:=
 pE ok hmix (SizeOf.sizeOf an+1) (by omega) hB hn h
theorem cZw(ok:T.Ok)(hmix:T.P.follows .mixedOrders=true){f:FuncId}{F:Func}{c:Code}{an:An}(hf:T.fn.get f=some F)(hb:F.body=some c)(hB:mY T F.ntmps an c=true){ks:List CK}{args:List AV}{M:aC}{Q:AV→aC→Prop}
 (h:zCs ks args fun args=>wZ T an c (iI F args M) (aBs T F Q)):aB T.P f args M Q:=by
 have h:=aDG h
 refine aA7 ok hf hb (jT (aOQ ok hmix hB (by simp only[iI];omega) h) ?_)
 intro ex st hq
 cases ex with
 | normal=>
   obtain⟨x,hx,hq⟩:=lU hq
   exact⟨.inl rfl,x,hx,hq⟩
 | ret=>
   obtain⟨x,hx,hq⟩:=lU hq
   exact⟨.inr rfl,x,hx,hq⟩
 | exit i=>exact hq.elim
 | goto i=>exact hq.elim
end
def aK{α:Sort _}(x:α)(f:α→Prop):Prop:=f x
theorem bE{α:Sort _}{x:α}{f:α→Prop}(h:∀ y,y=x→f y):aK x f:=h x rfl
theorem cY{α:Sort _}{x:α}{f:α→Prop}:aK x f=f x:=rfl
def dY(F:Func):Code:=F.body.getD .skip
section
variable (T:bQ)
def aH(t:TypeId)(p:AV)(M:aC):Option (AV×aC):=(aY T t p M).map fun v=>(v,M)
def cL(t:TypeId)(p x:AV)(M:aC):Option (AV×aC):=(gT T t p x M).map fun M'=>(eY,M')
def cZ(op:BinOp)(t:TypeId)(xo yo:Operand)(x y:AV)(M:aC):Option (AV×aC):=(yB T op t xo yo x y).map fun v=>(v,M)
def eUn(op:UnOp)(x:AV)(M:aC):Option (AV×aC):=match x with
 | .val v=>(nT T.P (Op.unary op v)).map fun u=>(ofV u,M)
 | _=>none
def cE(c:Bool)(t:TypeId)(x:AV)(M:aC):Option (AV×aC):=(bD T c t x M).map fun (n:Nat)=>(.val (.int .i64 n),M)
def cG(t:TypeId)(x:AV)(f:Nat)(M:aC):Option (AV×aC):=(eZf T t x f).map fun v=>(v,M)
def bU(t:TypeId)(x i:AV)(M:aC):Option (AV×aC):=(bJ T t x i).map fun v=>(v,M)
def eIx(t:TypeId)(x i:AV)(M:aC):Option (AV×aC):=(tZ T t x i).map fun v=>(v,M)
def pV(t:TypeId)(x i:AV)(ok:Bool)(M:aC):Option (AV×aC):=(fT T t x i ok M).map fun v=>(v,M)
def eMU(t:TypeId)(m k v:AV)(M:aC):Option (AV×aC):=(eJ T t m k v M).map fun M'=>(eY,M')
def xQ(t:TypeId)(x:AV)(lo hi mx:Option AV)(M:aC):Option (AV×aC):=(dN T t x lo hi mx).map fun v=>(v,M)
def eBd(t:TypeId)(ps:List (Nat×AV))(M:aC):Option (AV×aC):=(iA T t ps).map fun v=>(v,M)
def aNM(t:TypeId)(x:AV)(M:aC):Option (AV×aC):=(uF T t x M).map fun M'=>(.tup [],M')
def aL8(t:TypeId)(m k:AV)(M:aC):Option (AV×aC):=(qS T t m k M).map fun M'=>(.tup [],M')
def yM(ts:Array TypeId)(ty:TypeId)(vs:List Value)(M:aC):Option (AV×aC):=(nT T.P (Builtin.min_ ts ty ⟨vs⟩)).map fun v=>(ofV v,M)
def aCK(ts:Array TypeId)(ty:TypeId)(vs:List Value)(M:aC):Option (AV×aC):=(nT T.P (Builtin.max_ ts ty ⟨vs⟩)).map fun v=>(ofV v,M)
end
inductive RV where
 | v (x:AV)
 | c (t:TypeId) (p:AV)
def lF(T:bQ)(M:aC):List RV→Option (List AV)
 | []=>some []
 | .v x::rs=>(lF T M rs).map (x:: ·)
 | .c t p::rs=>match p with
   | .ptr b o=>match aY T t (.ptr b o) M,lF T M rs with
     | some x,some xs=>some (x::xs)
     | _,_=>none
   | _=>none
def fO(T:bQ)(rs:List RV)(M:aC):Option AV:=
 match lF T M rs with
 | some [x]=>some x
 | some xs=>some (.tup xs)
 | none=>none
def aU(x:AV)(M:aC):Option (AV×aC):=match x with
 | .ptr b o=>some (.ptr b o,M)
 | .fn f a b=>some (.fn f a b,M)
 | _=>none
def eD(T:bQ)(f:AV)(args:List AV)(M:aC)(K:AV→aC→Prop):Prop:=
 aBX (match f with
  | .fn g first caps=>some (g,first++args++caps)
  | _=>none) (fun c=>aA (T.fn.get c.1) fun _=>aB T.P c.1 c.2 M K) (aA (none:Option (AV×aC)) fun r=>K r.1 r.2)
abbrev aM(k:IntKind)(a b:Int):Int:=k.wrap (a+b)
abbrev aW(k:IntKind)(a b:Int):Int:=k.wrap (a-b)
abbrev bT(k:IntKind)(a b:Int):Int:=k.wrap (a*b)
abbrev kV(k:IntKind)(a b:Int):Int:=k.wrap (a.tdiv b)
def lI(k:IntKind)(a b:Int):Int:=k.wrap (BitVec.ofInt k.bits a &&& BitVec.ofInt k.bits b).toNat
def iOr(k:IntKind)(a b:Int):Int:=k.wrap (BitVec.ofInt k.bits a ||| BitVec.ofInt k.bits b).toNat
def yQ(k:IntKind)(a b:Int):Int:=k.wrap (BitVec.ofInt k.bits a ^^^ BitVec.ofInt k.bits b).toNat
def aCF(k:IntKind)(a b:Int):Int:=k.wrap (a*2^(min b.toNat k.bits))
def gF(k:IntKind)(a b:Int):Int:=a.fdiv (2^(min b.toNat k.bits))
section
variable {T:bQ} {M:aC}
theorem aS{t:TypeId}{p v:AV}(h:aY T t p M=some v):aH T t p M=some (v,M):=by unfold aH;rw[h];rfl
theorem oF{t:TypeId}{p x:AV}{N:aC}(h:gT T t p x M=some N):cL T t p x M=some (eY,N):=by unfold cL;rw[h];rfl
theorem cB{op:BinOp}{t:TypeId}{xo yo:Operand}{x y v:AV}(h:yB T op t xo yo x y=some v):cZ T op t xo yo x y M=some (v,M):=by unfold cZ;rw[h];rfl
theorem aEV{op:UnOp}{x u:Value}(h:nT T.P (Op.unary op x)=some u):eUn T op (.val x) M=some (ofV u,M):=by unfold eUn;simp only;rw[h];rfl
theorem iO{c:Bool}{t:TypeId}{x:AV}{n:Nat}(h:bD T c t x M=some n):cE T c t x M=some (.val (.int .i64 n),M):=by unfold cE;rw[h];rfl
theorem bW{t:TypeId}{x v:AV}{f:Nat}(h:eZf T t x f=some v):cG T t x f M=some (v,M):=by unfold cG;rw[h];rfl
theorem bH{t:TypeId}{x i v:AV}(h:bJ T t x i=some v):bU T t x i M=some (v,M):=by unfold bU;rw[h];rfl
theorem oU{t:TypeId}{x i v:AV}{ok:Bool}(h:fT T t x i ok M=some v):pV T t x i ok M=some (v,M):=by unfold pV;rw[h];rfl
theorem aBi{t:TypeId}{m k v:AV}{N:aC}(h:eJ T t m k v M=some N):eMU T t m k v M=some (eY,N):=by unfold eMU;rw[h];rfl
theorem fH{t:TypeId}{x v:AV}{lo hi mx:Option AV}(h:dN T t x lo hi mx=some v):xQ T t x lo hi mx M=some (v,M):=by unfold xQ;rw[h];rfl
theorem oC{t:TypeId}{ps:List (Nat×AV)}{v:AV}(h:iA T t ps=some v):eBd T t ps M=some (v,M):=by unfold eBd;rw[h];rfl
theorem dB{b o:Nat}:aU (.ptr b o) M=some (.ptr b o,M):=rfl
theorem aJ{k:IntKind}{z:Int}{K:Int→Prop}:zI k (.val (.int k z)) K=K z:=by
 have:lX k k=true:=by cases k <;> rfl
 unfold zI
 simp only[this,jF]
theorem cO{b:Bool}{K:Bool→Prop}:zB (.val (.bool b)) K=K b:=rfl
theorem bV{b o:Nat}{K:Nat→Nat→Prop}:zP (.ptr b o) K=K b o:=rfl
theorem aG{α:Type}{o:Option α}{x:α}{f:α→Prop}(h:o=some x)(hf:f x):aA o f:=by rw[h];exact hf
theorem aT{b:Bool}{p q:Prop}(hp:b=true→p)(hq:b=false→q):aE b p q:=by
 cases b with
 | true=>exact hp rfl
 | false=>exact hq rfl
end
end Go.AM
