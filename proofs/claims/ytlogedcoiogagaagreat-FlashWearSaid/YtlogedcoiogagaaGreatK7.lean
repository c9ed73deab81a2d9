import Derived.Test.YtlogedcoiogagaaGreatA45
import Derived.Test.YtlogedcoiogagaaGreatB3
import Derived.Test.YtlogedcoiogagaaGreatK6
import Derived.Test.YtlogedcoiogagaaGreatQA
set_option linter.unusedSimpArgs false
set_option linter.unusedVariables false
set_option linter.unusedSectionVars false
namespace Go.Proofs.YtlogedcoiogagaaGreat
open Go.AM
set_option maxRecDepth 100000
def F3(a0 a1 a2 a3:AV)(M:Mem)(Q:AV→Mem→Prop):Prop:=∃ x y z A B:Int,a0=(.agg [x,y,z,A,B])∧zI .i64 a3 fun D0=>letP (M.new (.cells [x,y,z,A,B] true)) fun l=>letP (fun (E0:Bool) (p:Mem)=>condB (E0) (CallA tb.P 10 [] p fun F0 G0=>zB F0 fun H0=>Q H0 G0) (bindO (eLd tb 23 (.ptr M.next 0) p) fun I0=>∃ C D E F G:Int,I0.1=(.agg [C,D,E,F,G])∧(CallA tb.P 11 [(.agg [C,D,E,F,G]),a1] p fun H J0=>CallA tb.P 12 [H] J0 fun K0 m=>∃ (i:AV) (I:Int),K0=(.tup [i,I])∧(letP (fun (L0:Bool)=>condB (L0) (Q false m) (bindO (eLd tb 23 (.ptr M.next 0) m) fun N0=>∃ J K L N O:Int,N0.1=(.agg [J,K,L,N,O])∧(CallA tb.P 13 [(.agg [J,K,L,N,O])] m fun O0 P0=>zI .i64 O0 fun R=>bindO (evMakeSlice tb 25 R R P0) fun c=>∃ r:Int→Nat→Mem→Prop,(∃ R0:Nat,r (0:Int) R0 c.2)∧∀ (_:Nat→Option AV) (n:Int) (S:Nat) (j:Mem),r n S j→(bindO (eLen tb false 25 c.1 j) fun S0=>zI .i64 S0.1 fun T0=>condB (decide (n<T0)) (bindO (eIA tb 25 c.1 n j) fun U0=>zP U0.1 fun V0 W0=>bindO (eSt tb 3 (.ptr V0 W0) (-1:Int) j) fun X0=>∃ T:Nat,T<S∧(r (iAdd .i64 n 1) T X0.2)) (∃ s:Int→Nat→Mem→Prop,(∃ Y0:Nat,s (0:Int) Y0 j)∧∀ (_:Nat→Option AV) (g:Int) (U:Nat) (e:Mem),s g U e→(bindO (eLen tb false 25 a2 e) fun Z0=>zI .i64 Z0.1 fun c1=>condB (decide (g<c1)) (bindO (eIA tb 25 a2 g e) fun d1=>zP d1.1 fun e1 f1=>bindO (eLd tb 3 (.ptr e1 f1) e) fun g1=>zI .i64 g1.1 fun h1=>bindO (eLen tb false 25 c.1 e) fun j1=>zI .i64 j1.1 fun l1=>CallA tb.P 14 [h1,l1] e fun m1 V=>zI .i64 m1 fun W=>bindO (eIA tb 25 c.1 W V) fun n1=>zP n1.1 fun o1 r1=>bindO (eSt tb 3 (.ptr o1 r1) g V) fun X=>bindO (eLd tb 3 (.ptr M.next 2) X.2) fun t1=>zI .i64 t1.1 fun u1=>CallA tb.P 16 [(.val (.int .u8 (IntKind.wrap .u8 g))),u1] X.2 fun v1 w1=>CallA tb.P 15 [i,W,v1] w1 fun x1 Y=>zI .i64 x1 fun y1=>condB (y1 != (0:Int)) (Q false Y) (∃ Z:Nat,Z<U∧(s (iAdd .i64 g 1) Z Y))) (CallA tb.P 17 [i] e fun A1 c0=>zI .i64 A1 fun B1=>condB (B1 != (0:Int)) (Q false c0) (∃ t:AV→Int→Nat→Mem→Prop,(∃ C1:Nat,t i (0:Int) C1 c0)∧∀ (_:Nat→Option AV) (d0:AV) (u:Int) (e0:Nat) (f0:Mem),t d0 u e0 f0→(CallA tb.P 14 [D0,(5:Int)] f0 fun D1 v=>zI .i64 D1 fun E1=>condB (decide (u<E1)) (CallA tb.P 12 [H] v fun F1 k=>∃ (f:AV) (g0:Int),F1=(.tup [f,g0])∧(letP (fun (G1:Bool) (h0:Mem)=>condB (G1) (Q false h0) (∃ w:Int→Nat→Mem→Prop,(∃ H1:Nat,w (0:Int) H1 h0)∧∀ (_:Nat→Option AV) (h:Int) (j0:Nat) (d:Mem),w h j0 d→(bindO (eLen tb false 25 c.1 d) fun I1=>zI .i64 I1.1 fun J1=>condB (decide (h<J1)) (letP (fun (K1:Bool) (l0:Mem)=>condB (K1) (Q false l0) (∃ m0:Nat,m0<j0∧(w (iAdd .i64 h 1) m0 l0))) fun n0=>bindO (eIA tb 25 c.1 h d) fun L1=>zP L1.1 fun N1 O1=>bindO (eLd tb 3 (.ptr N1 O1) d) fun P1=>zI .i64 P1.1 fun R1=>condB (decide (R1≥(0:Int))) (bindO (eIA tb 25 c.1 h d) fun S1=>zP S1.1 fun T1 U1=>bindO (eLd tb 3 (.ptr T1 U1) d) fun V1=>zI .i64 V1.1 fun W1=>bindO (eLd tb 3 (.ptr M.next 2) d) fun X1=>zI .i64 X1.1 fun Y1=>CallA tb.P 16 [(.val (.int .u8 (IntKind.wrap .u8 W1))),Y1] d fun Z1 c2=>CallA tb.P 15 [f,h,Z1] c2 fun d2 e2=>zI .i64 d2 fun f2=>n0 (f2 != (0:Int)) e2) (n0 false d)) (CallA tb.P 17 [f] d fun g2 o0=>zI .i64 g2 fun h2=>condB (h2 != (0:Int)) (Q false o0) (∃ r0:Nat,r0<e0∧(t f (iAdd .i64 u 1) r0 o0)))))) fun o=>condB (g0 != (0:Int)) (o true k) (bindO (eBin tb .eql 30 (.tmp 97) (.const (.pointer none)) f (.val (.pointer none)) k) fun j2=>zB j2.1 fun l2=>condB (l2) (o true k) (bindO (eLd tb 3 (.ptr M.next 2) k) fun m2=>zI .i64 m2.1 fun n2=>CallA tb.P 18 [f,c.1,n2] k fun o2 t0=>zB o2 fun r2=>condB (!r2) (o true t0) (CallA tb.P 17 [f] t0 fun t2 u2=>zI .i64 t2 fun v2=>o (v2 != (0:Int)) u2))))) (letP (fun (w2:Bool) (x2:Mem)=>Q w2 x2) fun u0=>bindO (eLd tb 3 (.ptr M.next 2) v) fun y2=>zI .i64 y2.1 fun A2=>CallA tb.P 18 [d0,c.1,A2] v fun B2 v0=>zB B2 fun C2=>condB (C2) (CallA tb.P 10 [] v0 fun D2 E2=>zB D2 fun F2=>u0 F2 E2) (u0 false v0))))))))))) fun w0=>condB (I != (0:Int)) (w0 true) (bindO (eBin tb .eql 30 (.tmp 39) (.const (.pointer none)) i (.val (.pointer none)) m) fun G2=>zB G2.1 fun H2=>w0 H2))))) fun x0=>bindO (eLen tb false 25 a2 l) fun I2=>zI .i64 I2.1 fun J2=>condB (decide (J2>(8:Int))) (x0 true l) (bindO (eLd tb 23 (.ptr M.next 0) l) fun K2=>∃ y0 z0 A0 B0 C0:Int,K2.1=(.agg [y0,z0,A0,B0,C0])∧(CallA tb.P 9 [(.agg [y0,z0,A0,B0,C0]),a1] l fun L2 N2=>zB L2 fun O2=>x0 (!O2) N2))
section
variable {M0:Mem} {g:Geo} {k n:Int} {A:Adr} {M:Mem} {S:Ps} {P:Int→Option (Option Dat)} {B:Int→Option Dat}
theorem LF.keepM(h:LF M0 g k n A M S P B):Keep M0 M []:=⟨h.wf,h.nx,fun b hb _=>h.low b hb⟩
end
section
variable {N:Mem} {A:Adr} {W:Nat} {ws:List Int}
end
theorem spread_le{S:Ps}(h:Plain0 S):spreadX S≤S.g.tr:=by
 obtain⟨a,b,ha,hB,_,_,es⟩:=spread_is h.fs h.pos
 have:=h.even b a hB ha
 omega
theorem bnd_flush{g:Geo}(hg:mayG g=true){S:Ps}(hS:S.g=g):putK S*((nB S*nG S+1:Nat):Int)+9*nB S≤bndG g∧(nB S:Int)*nG S≤bndG g:=by
 have hm:=mayG_iff.1 hg
 have e1:g.bl=(nB S:Int):=by unfold nB;rw[hS];omega
 have e2:g.pg=(nG S:Int):=by unfold nG;rw[hS];omega
 rw[bnd_is hg,e1,e2]
 have hb:8≤nB S∧nB S≤20:=by omega
 have hp:4≤nG S∧nG S≤8:=by omega
 have hK0:putK S=9*(nB S+1)+1:=rfl
 rw[hK0]
 generalize nB S=b at hb ⊢
 generalize nG S=q at hp ⊢
 have key:(9*(b+1)+1)*(b*q+1)+9*b≤60*b*b*q∧b*q≤60*b*b*q:=by
  have h1:8*(b*q)≤b*(b*q):=Nat.mul_le_mul_right _ hb.1
  have h2:b*4≤b*q:=Nat.mul_le_mul_left _ hp.1
  have e3:60*b*b*q=60*(b*(b*q)):=by simp only[Nat.mul_assoc]
  have e4:(9*(b+1)+1)*(b*q+1)=9*(b*(b*q))+10*(b*q)+9*b+10:=by
   have:9*(b+1)+1=9*b+10:=by omega
   rw[this,Nat.add_mul,Nat.mul_add,Nat.mul_add,Nat.mul_assoc]
   omega
  rw[e3,e4]
  omega
 constructor
 ·have:=key.1
  have h3:(((9*(b+1)+1)*(b*q+1)+9*b:Nat):Int)≤((60*b*b*q:Nat):Int):=by exact_mod_cast this
  push_cast at h3 ⊢
  exact h3
 ·have:=key.2
  have h3:((b*q:Nat):Int)≤((60*b*b*q:Nat):Int):=by exact_mod_cast this
  push_cast at h3 ⊢
  exact h3
section
variable {M0:Mem} {g:Geo} {k n:Int} {A:Adr} {M:Mem} {S:Ps} {P:Int→Option (Option Dat)} {B:Int→Option Dat}
theorem ls_flushE(h:LF M0 g k n A M S P B)(hp:Plain0 S)(hn:n≤900000000)(hk:k≤16777214):
 CallA tb.P 17 [.ptr A.f 0] M fun y N=>y=i64 0∧∃ S',LF M0 g (k+1) (n+31000) A N S' NoP (ovl P B)∧Plain0 S'∧S.ops≤S'.ops∧S'.ops≤S.ops+bndG g:=by
 have hb:=bnd_flush h.may h.g
 have hge:=h.q.inv.geo
 have hK0:putK S=9*(nB S+1)+1:=rfl
 have hops:=h.ops
 have hep:=h.ep
 have hnn:(0:Int)≤(nB S:Int)*nG S:=Int.mul_nonneg (by omega) (by omega)
 refine (ls_flushW h (by rw[hp.fs];have:=hp.sp;rw[h.g] at this;exact this) hn hk).mono ?_
 rintro y N ⟨h1,S',h2,h3,h4,h5⟩
 refine⟨h1,S',h2,?_⟩
 rcases h5 with rfl|⟨rfl,hc⟩
 ·exact⟨hp,Int.le_refl _,by omega⟩
 ·obtain⟨hw,he⟩:=hp.flush hc
  have hfl:=flush_ok (P:=P) (B:=B) h.q h.base h.pend (by omega) (by omega)
  have:=hfl.ops
  exact⟨hp.of hw he,this.1,by omega⟩
end
theorem flash_wear(M:Mem)(hw:M.WF)(g:Geo)(a:AV)(l:List Int)(ha:IntsAt M a l)(hll:l.length≤9223372036854775807):
 CallA tb.P 5 [geoA g,a] M fun y _=>y= .val (.bool true):=by
 refine F5_ok ?_
 unfold F5
 refine⟨_,_,_,_,_,rfl,?_⟩
 refine lZi fun M6 hM6=>?_
 have hM6:M6=M.new (.cells (geoC g) true):=hM6
 have hk6:Keep M M6 []:=by rw[hM6];exact Keep.new hw _
 have hbox:M6.get M.next=some (.cells (geoC g) true):=by rw[hM6];exact get_new _ _
 have ha6:=ha.keep hw hk6
 clear hM6
 refine lZi fun K20 hK20=>?_
 have aw:∀ N:Mem,N.WF→K20 true N:=fun N hN=>by
  rw[hK20]
  dsimp only
  simp only[cZt]
  refine (l_awake N hN).mono ?_
  rintro y N rfl
  simp only[zZb]
 refine bZi (lZl (ha6.len (M':=M6))) ?_
 simp only[zZi]
 refine cZi (fun _=>aw M6 hk6.wf) fun hl40=>?_
 have hl40:l.length≤40:=by
  have:=of_decide_eq_false hl40
  omega
 obtain⟨_,_,_,_,_,l5⟩:=geo_ld hbox
 refine bZi (lZs l5) ?_
 refine⟨_,_,_,_,_,rfl,?_⟩
 refine (l_may22 M6 hk6.wf g).mono ?_
 rintro _ M16 ⟨rfl,hk16⟩
 simp only[zZb]
 cases hg:mayG g with
 | false=>exact aw M16 hk16.wf
 | true=>
 rw[hK20]
 dsimp only
 simp only[Bool.not_true,cZf]
 clear aw hK20
 clear K20
 have hm:=mayG_iff.1 hg
 obtain⟨hlg,hlg2⟩:=logG_le hg
 have hlg3:(g.bl-g.sp-3)*g.pg≤20*8:=Int.mul_le_mul (by omega) (by omega) (by omega) (by omega)
 have hbox:=hk16.get hk6.wf hbox (by simp)
 have hlt:=hk16.wf _ _ hbox
 have ha16:=ha6.keep hk6.wf hk16
 obtain⟨_,_,_,_,_,l5⟩:=geo_ld hbox
 refine bZi (lZs l5) ?_
 refine⟨_,_,_,_,_,rfl,?_⟩
 have hfew:fewF g []=true:=by unfold fewF mayP;simp[hg];omega
 refine (l_beginW M16 hk16.wf g _ [] (SlAt.nil) hfew (by simp)).mono ?_
 rintro _ M31 ⟨p,A,S,q,bu,bw,rfl,hF,hAp,hfs,_,_,hSx⟩
 refine⟨_,_,_,rfl,?_⟩
 refine lZi fun K44 hK44=>?_
 refine bZi nil_eq28 ?_
 simp only[zZb,cZf]
 refine bZi nil_eq42 ?_
 simp only[zZb,cZf]
 refine (ls_logical hF).mono ?_
 rintro _ M40 ⟨rfl,hF,_⟩
 simp only[i64,zZi]
 rw[hK44,decide_eq_false (by omega:¬ logG g<1)]
 dsimp only
 simp only[cZf]
 clear hK44
 clear K44
 have hp0:Plain0 S:=by
  refine⟨hfs,by rw[hF.g];omega,by rw[hF.g];omega,hF.q.inv.len,by have:=hF.q.inv.geo;omega,fun b c hb hc=>?_⟩
  have hz:∀ b,xWear S b=0:=fun b=>by
   unfold xWear
   rw[hSx]
   unfold newPs
   simp only[List.getElem?_replicate]
   split
   ·rename_i X hX
    split at hX
    ·injection hX with hX;subst hX;rfl
    ·cases hX
   ·rfl
  rw[hz,hz,hF.g]
  omega
 refine bZi (lZs (hF.box hbox hlt).2) ?_
 refine⟨_,_,_,_,_,rfl,?_⟩
 refine (l_bound M40 hF.wf g hg).mono ?_
 rintro _ M52 ⟨rfl,hk52⟩
 have hF:=hF.keep hk52
 simp only[i64,zZi]
 have hbd:=bnd_is hg
 have hbb:0≤bndG g∧bndG g≤192000:=by
  rw[hbd]
  have h2:60*g.bl*g.bl≤60*20*20:=Int.mul_le_mul (by omega) (by omega) (by omega) (by omega)
  have h2':0≤60*g.bl*g.bl:=Int.mul_nonneg (by omega) (by omega)
  have h3:60*g.bl*g.bl*g.pg≤60*20*20*8:=Int.mul_le_mul h2 (by omega) (by omega) (by omega)
  have h3':0≤60*g.bl*g.bl*g.pg:=Int.mul_nonneg h2' (by omega)
  omega
 have opsd:∀ x y:Int,0≤x→x≤y→y≤x+bndG g→y≤1000000000→decide (iSub .i64 y x>bndG g)=false:=fun x y h1 h2 h3 h4=>by
  rw[iSub,wrap_i64' (by omega) (by omega)]
  exact decide_eq_false (by omega)
 have ops0:∀ {N:Mem} {k n:Int} {A:Adr} {S:Ps} {P:Int→Option (Option Dat)} {B:Int→Option Dat},LF M16 g k n A N S P B→0≤S.ops:=fun h=>by
  have:=h.q.inv.seq;omega
 refine⟨fun z r Mx=>∃ (i:Nat) (S:Ps) (B:Int→Option Dat),z=(i:Int)∧r=l.length-i∧i≤l.length∧LF M16 g i (160+31000*i) A Mx S NoP B∧Plain0 S,⟨l.length,0,S,_,rfl,rfl,Nat.zero_le _,hF.mono (by omega) (by omega),hp0⟩,?_⟩
 clear hF hp0 hSx hfs
 rintro _ _ _ M58 ⟨i,S,B,rfl,rfl,hi,hF,hp0⟩
 have ha58:=ha16.keep hk16.wf hF.keepM
 refine bZi (lZl (ha58.len (M':=M58))) ?_
 simp only[zZi]
 rw[← hAp]
 refine cZi (fun hli=>?_) (fun hge=>?_)
 ·have hli:i<l.length:=Int.ofNat_lt.1 (of_decide_eq_true hli)
  refine⟨fun z r Mx=>∃ (j:Nat) (P:Int→Option (Option Dat)),z=(j:Int)∧r=3-j∧j≤3∧LF M16 g i (160+31000*i) A Mx S P B,⟨3,0,NoP,rfl,rfl,by omega,hF⟩,?_⟩
  clear hF
  rintro _ _ _ M65 ⟨j,P,rfl,rfl,hj,hF⟩
  refine cZi (fun hlj=>?_) (fun hgj=>?_)
  ·have hlj:j<3:=by have:=of_decide_eq_true hlj;omega
   refine (ls_ops hF).mono ?_
   rintro _ M67 ⟨rfl,rfl⟩
   simp only[i64,zZi]
   refine lZi fun K95 hK95=>?_
   have ha67:=ha16.keep hk16.wf hF.keepM
   obtain⟨b,o,h1,h2⟩:=ha67.at hli
   refine bZi (eIA_some h1) ?_
   simp only[zZp]
   refine bZi (lZs h2) ?_
   simp only[i64,zZi]
   refine bZi (lZs (hF.box hbox hlt).1) ?_
   simp only[i64,zZi]
   refine (ls_logical hF).mono ?_
   rintro _ M77 ⟨rfl,hF7,hk77⟩
   simp only[i64,zZi]
   have h2':evLoad tb 3 (.ptr b o) M77=some (i64 l[i]):=by
    obtain⟨b',o',h1',h2'⟩:=(ha67.keep hF.wf hk77).at hli
    rw[h1] at h1'
    injection h1' with h1'
    injection h1' with e1 e2
    subst e1 e2
    exact h2'
   refine⟨bZi (lZs h2') rfl,bZi (lZs (hF7.box hbox hlt).1) rfl,?_⟩
   refine (l_low' M77 _ (logG g) (by omega) (by omega)).mono ?_
   rintro _ M82 ⟨rfl,rfl⟩
   simp only[i64,zZi]
   refine⟨bZi (lZs (hF7.box hbox hlt).1) rfl,?_⟩
   have hq:=lowOf_lt (iAdd .i64 l[i] (j:Int)) (n:=(logG g).toNat) (by omega)
   generalize lowOf (iAdd .i64 l[i] (j:Int)) (logG g).toNat=w at hq ⊢
   rw[show AV.val (.int .i64 g.by')=i64 ((g.by'.toNat:Nat):Int) from congrArg i64 (by omega)]
   refine (l_data _ hF7.wf _ g.by'.toNat (by omega) (by omega)).mono ?_
   rintro y85 M86 ⟨hk86,hy,_⟩
   refine (ls_write (hF7.keep hk86) (z:=(w:Int)) (by omega) hy (by rw[datF_len];omega)).mono ?_
   rintro _ M88 ⟨rfl,hF8,_⟩
   simp only[i64,zZi]
   refine cZi (fun h=>absurd h (by decide)) fun _=>?_
   refine (ls_ops hF8).mono ?_
   rintro _ M91 ⟨rfl,rfl⟩
   simp only[i64,zZi]
   have o0:=ops0 hF8
   have o1:=hF8.ops
   rw[opsd _ _ o0 (Int.le_refl _) (by omega) (by omega),hK95]
   dsimp only
   simp only[cZf]
   exact⟨3-(j+1),by omega,j+1,_,iInc (by omega),rfl,by omega,hF8⟩
  ·refine (ls_ops hF).mono ?_
   rintro _ M98 ⟨rfl,rfl⟩
   simp only[i64,zZi]
   refine lZi fun K114 hK114=>?_
   refine (ls_flushE hF hp0 (by omega) (by omega)).mono ?_
   rintro _ M101 ⟨rfl,S2,hF2,hp2,o1,o2⟩
   simp only[i64,zZi]
   refine cZi (fun h=>absurd h (by decide)) fun _=>?_
   refine (ls_ops hF2).mono ?_
   rintro _ M104 ⟨rfl,rfl⟩
   simp only[i64,zZi]
   have o0:=ops0 hF
   have o3:=hF2.ops
   rw[opsd _ _ o0 o1 o2 (by omega)]
   rw[cZf]
   refine (ls_spread hF2 (by omega)).mono ?_
   rintro _ M107 ⟨rfl,hk107⟩
   simp only[i64,zZi]
   have hF3:=hF2.keep hk107
   refine (ls_limit hF3).mono ?_
   rintro _ M110 ⟨rfl,hk110⟩
   simp only[i64,zZi]
   have hF4:=hF3.keep hk110
   have hs:=spread_le hp2
   rw[hF2.g] at hs
   rw[hK114,decide_eq_false (by omega:¬ spreadX S2>g.tr+2*g.bl)]
   dsimp only
   simp only[cZf]
   exact⟨l.length-(i+1),by omega,i+1,S2,_,iInc (by omega),rfl,hli,hF4.mono (by omega) (by omega),hp2⟩
 ·refine (ls_ops hF).mono ?_
  rintro _ M117 ⟨rfl,rfl⟩
  simp only[i64,zZi]
  obtain⟨C1,hL1,hft⟩:=hF.left
  refine (ls_mountW hL1 (by omega) (T:=[]) (fun c hc=>by simp at hc)).mono ?_
  rintro _ M120 ⟨A2,S2,rfl,_,hF2,hAp2,_,hfs2,_,_,hx2,hg2,o1,o2⟩
  refine⟨_,_,rfl,?_⟩
  refine lZi fun K137 hK137=>?_
  refine cZi (fun _=>?_) fun h=>absurd h (by decide)
  have hp2:Plain0 S2:=by
   have hnb:nB S2=nB S:=by unfold nB;rw[hg2]
   refine⟨by rw[hfs2];exact hp0.fs,by rw[hg2];exact hp0.sp,by rw[hg2];exact hp0.tr,by rw[hx2,hnb];exact hp0.len,by rw[hnb];exact hp0.pos,fun b c hb hc=>?_⟩
   have hz:∀ b,xWear S2 b=xWear S b:=fun b=>by unfold xWear;rw[hx2]
   rw[hz,hz,hg2]
   rw[hnb] at hb hc
   exact hp0.even b c hb hc
  rw[← hAp2]
  refine (ls_ops hF2).mono ?_
  rintro _ M124 ⟨rfl,rfl⟩
  simp only[i64,zZi]
  have o0:=ops0 hF
  have o3:=hF2.ops
  have ob:=(bnd_flush hg hF.g).2
  have e1:iSub .i64 S2.ops S.ops=S2.ops-S.ops:=by rw[iSub,wrap_i64' (by omega) (by omega)]
  rw[e1,decide_eq_true (by omega:S2.ops-S.ops≤bndG g),cZt]
  refine (ls_spread hF2 (by omega)).mono ?_
  rintro _ M127 ⟨rfl,hk127⟩
  simp only[i64,zZi]
  have hF3:=hF2.keep hk127
  refine (ls_limit hF3).mono ?_
  rintro _ M130 ⟨rfl,hk130⟩
  simp only[i64,zZi]
  have hs:=spread_le hp2
  rw[hF2.g] at hs
  rw[decide_eq_true (by omega:spreadX S2≤g.tr+2*g.bl),cZt]
  refine (l_awake M130 hk130.wf).mono ?_
  rintro y N rfl
  simp only[zZb]
  rw[hK137]
open Go.ChangeShapes Go.WideShapes Go.RowKit
theorem i64s_arg{H:Type}{enc:TypeId×Value→H}{W:World}{t e:TypeId}(ht:Tryz.prog.underlying t=some (.slice e))(he:Tryz.prog.underlying e=some (.int .i64))(hc:Tryz.prog.cellsOf e=1){base:Nat}{v:Value}{d:DataW H}{ps:List MemPlace}
 (hval:Value.okWide Tryz.prog W .any base t v) (hd:DataW.Trod enc Tryz.prog W 0 (fun _=>true) true t v d ps):
 ∃ (x:AV) (l:List Int),VR (injOf W) x v∧Go.Proofs.YtlogedcoiogagaaGreat.IntsAt (memOf W) x l∧l.length≤9223372036854775807:=by
 obtain⟨x,zs,h1,h2,h3,h4⟩:=ints_arg ht he hc hval hd
 have h6:Go.AM.intsA .i64 zs=zs.map i64:=rfl
 refine⟨x,zs,h1,?_,by omega⟩
 refine⟨by simp,?_⟩
 rcases h2 with⟨rfl,rfl⟩|⟨b,o,c,cs,rw',rfl,g1,g2,g3,g4,g5⟩
 ·exact .inl ⟨rfl,rfl⟩
 ·refine .inr ⟨b,o,c,none,rfl,⟨by omega,.inl rfl⟩,?_⟩
  rcases g4 with g4|g4
  ·left;omega
  ·exact .inr ⟨cs,rw',g3,by omega,by rw[Nat.mul_one,g5,h6]⟩
theorem flash_wear_all(M:Mem)(hw:M.WF)(bl pg by' sp tr:Int)(hr:∀ y∈[bl,pg,by',sp,tr], -9223372036854775808≤y∧y≤9223372036854775807)
 (a:AV) (l:List Int) (ha:Go.Proofs.YtlogedcoiogagaaGreat.IntsAt M a l) (hll:l.length≤9223372036854775807):
 CallA tb.P 5 [.agg [.val (.int .i64 bl),.val (.int .i64 pg),.val (.int .i64 by'),.val (.int .i64 sp),.val (.int .i64 tr)],a] M fun y _=>y= .val (.bool true):=
 flash_wear M hw ⟨bl,pg,by',sp,tr⟩ a l ha hll
end Go.Proofs.YtlogedcoiogagaaGreat
