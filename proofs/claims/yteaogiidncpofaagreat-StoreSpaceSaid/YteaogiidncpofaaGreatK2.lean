import Derived.Test.YteaogiidncpofaaGreatA37
import Derived.Test.YteaogiidncpofaaGreatA45
import Derived.Test.YteaogiidncpofaaGreatB3
import Derived.Test.YteaogiidncpofaaGreatK1
import Derived.Test.YteaogiidncpofaaGreatQA
import Derived.Shelf.SlIterI.Nil
import Derived.Shelf.SortM.Plain
import Derived.Shelf.SortM.SortNone
import Derived.Ground.GgzProg
import Derived.Ground.SlgmProg
set_option linter.unusedSimpArgs false
set_option linter.unusedVariables false
set_option linter.unusedSectionVars false
set_option maxRecDepth 100000
namespace Go.Proofs.YteaogiidncpofaaGreat
open Go.AM
theorem aHD(M:aC):cZ tb .eql 24 (.tmp 3) (.const (.slice none 0 0)) (.val (.slice none 0 0)) (.val (.slice none 0 0)) M=some (.val (.bool true),M):=cB (by kernel_rfl)
theorem aKB(M:aC)(b o n c:Nat)(ex:Option Nat):cZ tb .eql 24 (.tmp 3) (.const (.slice none 0 0)) (.sl b o n c ex) (.val (.slice none 0 0)) M=some (.val (.bool false),M):=by
 refine cB ?_
 show (uK .eql (nZ tb 24 (.sl b o n c ex) (.val (.slice none 0 0))))=_
 unfold nZ
 rw[aF3]
 rfl
theorem aKI(M:aC)(hw:M.WF)(x:AV)(fs:List nU)(hx:eG M x fs)(hl:fs.length≤1000):
 aB tb.P 29 [x] M fun y N=>eG N y fs∧aD M N []∧(∀ c,aN y c→M.next≤c)∧(y= .val (.slice none 0 0)∨∃ b o n c ex,y= .sl b o n c ex):=by
 refine aOX ?_
 unfold F29
 rcases hx.2 with⟨rfl,h0⟩|⟨b,o,cp,ex,rfl,_⟩
 ·rw[aHD,eM]
  simp only[cO,jF]
  exact⟨hx,aD.refl hw,fun c h=>h.elim,.inl (by trivial)⟩
 refine aG (aKB _ _ _ _ _ _) ?_
 simp only[cO,fG]
 refine bE fun M3 hM3=>?_
 subst hM3
 have hw3:=hw.new (.cells [] true)
 have hx3:eG (M.new (.cells [] true)) (.sl b o fs.length cp ex) fs:=aO.keep0 hx hw (aD.new hw _)
 by_cases h0:fs.length=0
 ·have hnil:fs=[]:=List.eq_nil_of_length_eq_zero h0
  subst hnil
  have hs:aO 3 (M.new (.cells [] true)) (.sl M.next 0 0 0 none) 0 []:=⟨rfl,.inr ⟨_,_,_,_,rfl,⟨by omega,.inl rfl⟩,.inl rfl⟩⟩
  refine aG (yJ (T:=tb) (k:=3) aF3 rfl aIK rfl hs hx3) ?_
  exact⟨hs,aD.new hw _,fun c hc=>by exact absurd rfl hc.1,.inr ⟨_,_,_,_,_,rfl⟩⟩
 ·have hfl:(fs.flatMap hZ).length=fs.length*3:=cA aAE fs
  have hap:aR tb 24 24 (.sl M.next 0 0 0 none) (.sl b o fs.length cp ex) (M.new (.cells [] true))=some (.sl (M.next+1) 0 fs.length fs.length (some 3),(M.new (.cells [] true)).new (.cells (fs.flatMap hZ) true)):=by
   unfold aR oQ
   rw[aF3]
   simp only[aIK,aO.evLen hx3,aO.evFirst hx3,hfl,AM.beq_self,cond_true,Nat.zero_add,tU (show ¬ fs.length≤0 by omega),cond_false]
   unfold iX sL
   simp only[Nat.zero_add,ble_of (show (3*fs.length+4096)*24≤281474976710656 by omega),ble_of (show fs.length≤1152921504606846976 by omega),cond_true]
   rfl
  refine aG hap ?_
  refine⟨⟨hfl,.inr ⟨_,_,_,_,rfl,⟨Nat.le_refl _,.inr rfl⟩,.inr ⟨fs.flatMap hZ,true,get_new (M.new (.cells [] true)) _,by omega,by rw[List.drop_zero,List.take_of_length_le (by omega)]⟩⟩⟩,(aD.new hw _).trans0 (aD.new hw3 _),fun c hc=>by have:=hc.2;omega,.inr ⟨_,_,_,_,_,rfl⟩⟩
theorem aNF:∀ n:Fin 1000,(aM .u64 (aM .u64 (bT .u64 (gF .u64 1 32) (gF .u64 (n.val:Int) 32)) (gF .u64 (aM .u64 (bT .u64 (gF .u64 1 32) (lI .u64 (n.val:Int) 4294967295)) (gF .u64 (bT .u64 (lI .u64 1 4294967295) (lI .u64 (n.val:Int) 4294967295)) 32)) 32)) (gF .u64 (aM .u64 (lI .u64 (aM .u64 (bT .u64 (gF .u64 1 32) (lI .u64 (n.val:Int) 4294967295)) (gF .u64 (bT .u64 (lI .u64 1 4294967295) (lI .u64 (n.val:Int) 4294967295)) 32)) 4294967295) (bT .u64 (lI .u64 1 4294967295) (gF .u64 (n.val:Int) 32))) 32))=0∧bT .u64 1 (n.val:Int)=n.val:=by decide +kernel
theorem aRv(M:aC)(n:Nat)(hn:n<1000):aB tb.P 59 [.val (.int .u64 1),.val (.int .u64 (n:Int))] M fun y N=>y= .tup [.val (.int .u64 0),.val (.int .u64 (n:Int))]∧N=M:=by
 refine aP1 ?_
 unfold F59
 simp only[aJ]
 have h126:aB tb.P 89 [.val (.int .u64 1),.val (.int .u64 (n:Int))] M fun y N=>y= .tup [.val (.int .u64 0),.val (.int .u64 (n:Int))]∧N=M:=by
  refine aPf ?_
  unfold F89
  simp only[aJ]
  obtain⟨h1,h2⟩:=aNF ⟨n,hn⟩
  simp only at h1 h2
  exact⟨by rw[h1,h2],by trivial⟩
 refine h126.mono ?_
 rintro y N ⟨rfl,rfl⟩
 exact⟨_,_,rfl,rfl,rfl⟩
theorem aFo{M:aC}{b o n c m:Nat}{ex:Option Nat}{cs:List AV}{rw':Bool}(hg:M.get b=some (.cells cs rw'))(hm:m≤n)(h0:m≠0)(hle:o+m≤cs.length):evFirst 1 m (.sl b o n c ex) M=some ((cs.drop o).take m):=by
 unfold evFirst
 simp only[ble_of hm,cond_true,AM.beq_ne h0,cond_false]
 unfold aC.cellsAt
 rw[hg]
 simp only[Nat.mul_one,ble_of hle,cond_true]
theorem aJJ(M:aC)(hw:M.WF)(x:AV)(v:BitVec 8)(hx:aI M x [v])(n:Nat)(h1:1≤n)(hn:n<1000):
 aB tb.P 30 [x,i64 (n:Int)] M fun y N=>y= .sl M.next 0 n n none∧N=M.new (.cells (dH (List.replicate n v)) true):=by
 refine aPG ?_
 unfold F30
 simp only[i64,aJ]
 refine aT (fun h=>by exfalso;simp at h;omega) (fun _=>?_)
 refine aG (iO hx.len) ?_
 simp only[aJ]
 have w1:IntKind.wrap .u64 (([v].length:Nat):Int)=1:=rfl
 have w2:IntKind.wrap .u64 (n:Int)=(n:Int):=by rw[aDQ];omega
 rw[w1,w2]
 refine (aRv M n hn).mono ?_
 rintro y N ⟨rfl,rfl⟩
 refine⟨_,_,rfl,?_⟩
 refine bE fun K hK=>?_
 refine aT (fun h=>by simp at h) (fun _=>?_)
 rw[show decide ((n:Int)>9223372036854775807)=false by rw[decide_eq_false_iff_not];omega,hK]
 simp only[fG]
 have w3:IntKind.wrap .i64 (n:Int)=(n:Int):=aL (by omega) (by omega)
 rw[w3]
 have hmk:=aCu (T:=tb) (M:=N) gG rfl vK (l:=n) (c:=n) (by omega) (by simp only;omega) (by omega) (k1:= .i64) (k2:= .i64)
 simp only[ofVs,ofV,oD] at hmk
 have hz:List.replicate n (AV.val (.int .u8 0))=dH (List.replicate n 0#8):=by simp[dH,rZ]
 rw[hz] at hmk
 refine aG hmk ?_
 have hx1:aI (N.new (.cells (dH (List.replicate n 0#8)) true)) x [v]:=aO.keep0 hx hw (aD.new hw _)
 have hcp:hG tb 25 (.sl N.next 0 n n none) x (N.new (.cells (dH (List.replicate n 0#8)) true))=some (.val (.int .i64 1),N.new (.cells (dH (List.replicate 1 v++List.replicate (n-1) 0#8)) true)):=by
  unfold hG
  rw[gG]
  simp only[vK]
  have he1:evLen (.sl N.next 0 n n none)=some n:=rfl
  have hm:Nat.min [v].length n=[v].length:=Nat.min_eq_left h1
  rw[he1,aO.evLen hx1]
  simp only[hm,aO.evFirst hx1]
  have hst:(N.new (.cells (dH (List.replicate n 0#8)) true)).storeAt N.next 0 (dH [v])=some (N.new (.cells (dH (List.replicate 1 v++List.replicate (n-1) 0#8)) true)):=by
   unfold aC.storeAt
   rw[aC.get_new,if_pos rfl]
   simp only[fM,List.length_replicate,List.length_cons,List.length_nil,ble_of (show 0+(0+1)≤n by omega),cond_true,rJ (tT [v]),rU (show 0+[v].length≤(List.replicate n 0#8).length by simp;omega),aC.new_put]
   unfold over
   simp
  rw[hst]
  rfl
 refine aG hcp ?_
 simp only[aJ]
 refine⟨fun z q P=>∃ k:Nat,z=k∧q=n-k∧1≤k∧k≤n∧P=N.new (.cells (dH (List.replicate k v++List.replicate (n-k) 0#8)) true),⟨n-1,1,rfl,rfl,Nat.le_refl _,h1,rfl⟩,?_⟩
 rintro _ z q P ⟨k,rfl,rfl,hk1,hk,rfl⟩
 have hlen:∀ P:aC,bD tb false 25 (.sl N.next 0 n n none) P=some n:=fun P=>by unfold bD;rw[gG];rfl
 refine aG (iO (hlen _)) ?_
 simp only[aJ]
 refine aT (fun hlt=>?_) (fun hge=>?_)
 rotate_left
 ·have hge:k=n:=by have:¬ (k:Int)<n:=by simpa using hge
                   omega
  subst hge
  refine⟨by trivial,?_⟩
  rw[Nat.sub_self,List.replicate_zero,List.append_nil]
 have hlt:k<n:=by simpa using hlt
 have hs1:dN tb 25 (.sl N.next 0 n n none) (some (.val (.int .i64 (k:Int)))) none none=some (.sl N.next k (n-k) (n-k) none):=by
  unfold dN pH
  rw[gG]
  simp only[vK,sliceB,oH hk,Nat.mul_one,AM.beq_ne (show n≠k by omega),cond_false,Nat.zero_add]
 have hs2:dN tb 25 (.sl N.next 0 n n none) none (some (.val (.int .i64 (k:Int)))) none=some (.sl N.next 0 k n none):=by
  unfold dN pH
  rw[gG]
  simp only[vK,sliceB,oH hk,Nat.mul_one,AM.beq_ne (show n≠0 by omega),cond_false,Nat.zero_add,Nat.sub_zero,Nat.zero_mul]
 refine aG (fH hs1) ?_
 refine aG (fH hs2) ?_
 have hg:(N.new (.cells (dH (List.replicate k v++List.replicate (n-k) 0#8)) true)).get N.next=some (.cells (dH (List.replicate k v++List.replicate (n-k) 0#8)) true):=get_new _ _
 have hcl:(dH (List.replicate k v++List.replicate (n-k) 0#8)).length=n:=by simp;omega
 obtain⟨m,hm⟩:∃ m,m=Nat.min k (n-k):=⟨_,rfl⟩
 have hmk':m≤k:=by rw[hm];exact Nat.min_le_left _ _
 have hmn:m≤n-k:=by rw[hm];exact Nat.min_le_right _ _
 have hm0:m≠0:=by rw[hm];have:Nat.min k (n-k)=min k (n-k):=rfl;omega
 have hcp2:hG tb 25 (.sl N.next k (n-k) (n-k) none) (.sl N.next 0 k n none) (N.new (.cells (dH (List.replicate k v++List.replicate (n-k) 0#8)) true))=some (.val (.int .i64 (m:Int)),N.new (.cells (dH (List.replicate (k+m) v++List.replicate (n-(k+m)) 0#8)) true)):=by
  unfold hG
  rw[gG]
  simp only[vK]
  have he1:evLen (.sl N.next k (n-k) (n-k) none)=some (n-k):=rfl
  have he2:evLen (.sl N.next 0 k n none)=some k:=rfl
  rw[he1,he2]
  simp only[← hm]
  rw[aFo hg hmk' hm0 (by rw[hcl];omega)]
  simp only[AM.beq_ne hm0,cond_false]
  have hfirst:((dH (List.replicate k v++List.replicate (n-k) 0#8)).drop 0).take m=dH (List.replicate m v):=by
   rw[List.drop_zero,iW,List.take_append_of_le_length (by simp;omega)]
   unfold dH
   rw[← List.map_take,List.take_replicate,Nat.min_eq_left hmk']
  rw[hfirst]
  have hst:(N.new (.cells (dH (List.replicate k v++List.replicate (n-k) 0#8)) true)).storeAt N.next k (dH (List.replicate m v))=some (N.new (.cells (dH (List.replicate (k+m) v++List.replicate (n-(k+m)) 0#8)) true)):=by
   unfold aC.storeAt
   rw[hg]
   have hov:over (List.replicate k v++List.replicate (n-k) 0#8) k (List.replicate m v)=List.replicate (k+m) v++List.replicate (n-(k+m)) 0#8:=by
    unfold over
    rw[List.take_left' (by simp),List.length_replicate,← List.drop_drop,List.drop_left' (by simp),List.drop_replicate,List.replicate_append_replicate]
    congr 2;omega
   simp only[hcl,fM,List.length_replicate,ble_of (show k+m≤n by omega),cond_true,rJ (tT _),rU (show k+(List.replicate m v).length≤(List.replicate k v++List.replicate (n-k) 0#8).length by simp;omega),aC.new_put,hov]
  rw[hst]
  rfl
 refine aG hcp2 ?_
 simp only[aJ]
 refine⟨n-(k+m),by omega,k+m,?_,rfl,by omega,by omega,rfl⟩
 rw[aM,aL (by omega) (by omega)]
 omega
def pat(v:BitVec 8)(n:Nat):List (BitVec 8):=(List.range n).map fun i=>v+BitVec.ofNat 8 (i*7)
@[simp] theorem aOV (v:BitVec 8) (n:Nat):(pat v n).length=n:=by simp[pat]
set_option maxRecDepth 100000
theorem uY:tb.ty.get 48=some ⟨.sli 3,1,24,[.slice none 0 0],none⟩:=by kernel_rfl
structure Doc where
 g:eF
 fsA:AV
 pgA:AV
 nxA:AV
 wrA:AV
 dnA:AV
 ops:Int
 cuts:Int
 off:Bool
 wait:Int
 cop:Int
 cby:Int
 cf:BitVec 8
section
variable {p:Nat} {M:aC}
variable {D:Doc}
end
structure aPo where
 d:Doc
 fs:List nU
 pg:List (AV×List (BitVec 8))
 nx:List Int
 wr:List Int
 dn:List Int
 pb:Nat
 nb:Nat
 wb:Nat
 db:Nat
def aOp(l:List Int):List AV:=l.map i64
@[simp] theorem aMf (l:List Int):(aOp l).length=l.length:=by simp[aOp]
def own(p:Nat)(S:aPo):List Nat:=[p,S.pb,S.nb,S.wb,S.db]
section
variable {M:aC} {p:Nat} {S:aPo}
end
def aDL(g:eF)(fsA x:AV):List AV:=[i64 g.bl,i64 g.pg,i64 g.by',i64 g.sp,i64 g.tr,fsA,x,.val (.bool false),i64 0,i64 0,i64 0,i64 0,rZ 0#8,i64 0]
structure Bld (M1 M:aC) (p:Nat) (g:eF) (fsA:AV) (bs:List vP) (x:AV):Prop where
 wf:M.WF
 nxt:M1.next≤M.next
 old:∀ c,c<M1.next→c≠p→M.get c=M1.get c
 main:M.get p=some (.cells (aDL g fsA x) true)
 sl:(bs=[]∧x= .val (.slice none 0 0))∨∃ bb,oL 4 M x bs.length (bs.flatMap jJ) bb∧M1.next≤bb∧∀ B∈bs,B.b≠bb
 dat:∀ B∈bs,M.get B.b=some (.cells (dH B.by') true)∧M1.next≤B.b
 nd:(bs.map (·.b)).Nodup
theorem aQr{M1 M:aC}{p:Nat}{g:eF}{fsA x:AV}{bs:List vP}(h:Bld M1 M p g fsA bs x):aY tb 63 (.ptr p 6) M=some x:=eB aF5 rfl h.main rfl
theorem Bld.keep{M1 M N:aC}{p:Nat}{g:eF}{fsA x:AV}{bs:List vP}(h:Bld M1 M p g fsA bs x)(hk:aD M N []):Bld M1 N p g fsA bs x:=
 ⟨hk.wf,Nat.le_trans h.nxt hk.nxt,fun c hc hp=>by rw[hk.old c (Nat.lt_of_lt_of_le hc h.nxt) (by simp)];exact h.old c hc hp,hk.get h.wf h.main (by simp),
  h.sl.imp id fun⟨bb,⟨g1,g2,g3,g4⟩,h2⟩=>⟨bb,⟨g1,g2,g3,hk.get h.wf g4 (by simp)⟩,h2⟩,fun B hB=>⟨hk.get h.wf (h.dat B hB).1 (by simp),(h.dat B hB).2⟩,h.nd⟩
theorem aKj(B:vP):∀ v∈jJ B,v.one=true:=by
 intro v hv
 simp only[jJ,List.mem_cons,List.not_mem_nil,or_false] at hv
 rcases hv with rfl|rfl|rfl|rfl <;> rfl
theorem aE9{M:aC}(h:M.WF):aD M ⟨M.next+2,M.rows⟩ []:=⟨fun b r hb=>by have:=h b r hb;show b<M.next+2;omega,by show M.next≤M.next+2;omega,fun _ _ _=>rfl⟩
theorem aHH{M N:aC}(hw:M.WF)(hk:aD ⟨M.next+2,M.rows⟩ N []){b:Nat}(hb:M.next≤b)(hb2:b<M.next+2)(r:hY):aD M (N.put b r) []:=
 ⟨hk.wf.put (Nat.lt_of_lt_of_le hb2 hk.nxt) r,Nat.le_trans (Nat.le_add_right _ _) hk.nxt,fun c hc _=>by
  rw[aC.get_put,if_neg (by omega)]
  exact hk.old c (by show c<M.next+2;omega) (by simp)⟩
def yT(g:eF)(b:Nat):vP:=⟨b,List.replicate (g.pg.toNat*aV g) 255#8,0,0,0⟩
def aHl(g:eF)(bs:List vP):Prop:=∀ B∈bs,B=yT g B.b
def iU(g:eF)(fsA:AV)(fs:List nU)(bb:Nat)(bs:List vP):aQ:=⟨g,fsA,fs,bb,bs,false,0,0,0,0,0#8,0⟩
theorem aOD(M:aC)(hw:M.WF)(g:eF)(x:AV)(fs:List nU)(hx:eG M x fs)(hfl:fs.length≤9223372036854775807):
 aB tb.P 7 [fX g,x] M fun y N=>aD M N []∧((yS g fs=false∧y= .val (.pointer none))∨
  (yS g fs=true∧∃ (p:Nat) (fsA:AV) (bb:Nat) (bs:List vP),y= .ptr p 0∧bF N p (iU g fsA fs bb bs)∧aHl g bs∧(∀ c∈foot p (iU g fsA fs bb bs),M.next≤c)∧∀ c,aN fsA c→M.next≤c)):=by
 refine aSD ?_
 unfold F7
 refine⟨_,_,_,_,_,rfl,?_⟩
 refine bE fun M6 hM6=>?_
 have hM6':M6=M.new (.cells (cW g) true):=hM6
 have hK6:aD M M6 []:=by rw[hM6'];exact aD.new hw _
 have hg6:M6.get M.next=some (.cells (cW g) true):=by rw[hM6'];exact get_new _ _
 clear hM6 hM6'
 obtain⟨_,_,_,_,_,l5⟩:=cC hg6
 refine aG (aS l5) ?_
 refine⟨_,_,_,_,_,rfl,?_⟩
 refine (aQV M6 hK6.wf g x fs (aO.keep0 hx hw hK6) hfl).mono ?_
 rintro y M14 ⟨rfl,hk14⟩
 have hK14:=hK6.trans0 hk14
 simp only[cO]
 refine aT (fun q=>?_) (fun q=>?_)
 ·exact⟨hK14,.inl ⟨by simpa using q,by trivial⟩⟩
 have q:yS g fs=true:=by simpa using q
 have hmg:dV g=true:=by unfold yS at q;rw[Bool.and_eq_true,Bool.and_eq_true] at q;exact q.1.1
 have hfs8:fs.length≤8:=by unfold yS at q;rw[Bool.and_eq_true,Bool.and_eq_true,decide_eq_true_eq] at q;exact q.1.2
 have hm:=bP.1 hmg
 have hg14:=hk14.get hK6.wf hg6 (by simp)
 have hgn:M.next<M14.next:=hk14.wf _ _ hg14
 refine bE fun M16 hM16=>?_
 have hM16':M16=aEy M14:=hM16
 subst hM16'
 have hb:=aBy hk14.wf
 have hg16:=hb.get hk14.wf hg14 (by simp)
 obtain⟨_,_,_,_,_,l5⟩:=cC hg16
 refine aG (aS l5) ?_
 refine⟨_,_,_,_,_,rfl,?_⟩
 refine (aKI (aEy M14) hb.wf x fs (aO.keep0 hx hw (hK14.trans0 hb)) (by omega)).mono ?_
 rintro fsA M24 ⟨hfA,hk24,hff,hshape⟩
 have hg24:=hk24.get hb.wf hg16 (by simp)
 obtain⟨_,_,_,_,_,m5⟩:=cC hg24
 refine⟨aG (aS m5) rfl,?_⟩
 have hfone:fsA.one=true:=by
  rcases hshape with rfl|⟨_,_,_,_,_,rfl⟩ <;> rfl
 have hbd:iA tb 67 [(0,fX g),(1,fsA)]=some (.agg (aDL g fsA (.val (.slice none 0 0)))):=by
  unfold iA
  rw[aC3]
  rcases hshape with rfl|⟨_,_,_,_,_,rfl⟩ <;> rfl
 refine aG (oC hbd) ?_
 refine⟨_,_,_,_,_,_,_,_,_,_,_,_,_,_,rfl,?_⟩
 refine bE fun M41 hM41=>?_
 have hM41':M41=M24.put M14.next (.cells (aDL g fsA (.val (.slice none 0 0))) true):=hM41
 have hpk:aD M14 M41 []:=by rw[hM41'];exact aDw hk14.wf hk24 _
 have hp41:M41.get M14.next=some (.cells (aDL g fsA (.val (.slice none 0 0))) true):=by rw[hM41',aC.get_put,if_pos rfl]
 have hK41:=hK14.trans0 hpk
 have hfA41:eG M41 fsA fs:=aO.mono hfA fun c r hc hr=>by
  rw[hM41',aC.get_put,if_neg (by have:=hff c hc;have:M14.next+1≤c:=this;omega)];exact hr
 have hflt41:∀ c,aN fsA c→M14.next<c∧c<M41.next:=fun c hc=>⟨hff c hc,aO.blk_lt hfA41 hpk.wf hc⟩
 clear hM41 hM41'
 have hpn:M14.next<M41.next:=hpk.wf _ _ hp41
 have hg41:=hpk.get hk14.wf hg14 (by simp)
 obtain⟨a0,_⟩:=cC hg41
 refine aG (aS a0) ?_
 simp only[i64,aJ]
 generalize hp:M14.next=p at*
 have hbl:g.bl=((g.bl.toNat:Nat):Int):=by omega
 refine⟨fun z n P=>∃ (i:Nat) (bs:List vP) (x:AV),z=i∧n=g.bl.toNat-i∧i≤g.bl.toNat∧bs.length=i∧aHl g bs∧Bld M41 P p g fsA bs x,
  ⟨g.bl.toNat,0,[],_,rfl,rfl,Nat.zero_le _,rfl,fun B hB=>by simp at hB,⟨hpk.wf,Nat.le_refl _,fun _ _ _=>rfl,hp41,.inl ⟨rfl,rfl⟩,fun B hB=>by simp at hB,by simp⟩⟩,?_⟩
 rintro _ z n P ⟨i,bs,xs,rfl,rfl,hi,hbsl,hbk,hB⟩
 have hgP:P.get M.next=some (.cells (cW g) true):=by rw[hB.old _ (by omega) (by omega)];exact hg41
 refine aT (fun hlt=>?_) (fun hge=>?_)
 rotate_left
 ·
  have hge:i=g.bl.toNat:=by
   have h1:¬ (i:Int)<g.bl:=by simpa using hge
   omega
  rcases hB.sl with⟨h1,_⟩|⟨bb,hgr,hbb,hne⟩
  ·subst h1;simp at hbsl;omega
  have hKP:aD M P []:=⟨hB.wf,Nat.le_trans hK41.nxt hB.nxt,fun c hc _=>by
   rw[hB.old c (by have:=hK41.nxt;omega) (by omega)]
   exact hK41.old c hc (by simp)⟩
  refine⟨hKP,.inr ⟨q,p,fsA,bb,bs,rfl,⟨?_,hgr.2.2.2,fun B h=>(hB.dat B h).1,?_,?_,?_,hfone,hfs8,hmg,by simp only[iU];omega,?_,Int.le_refl 0⟩,hbk,?_,fun c hc=>by have:=hflt41 c hc;omega⟩⟩
  ·rw[hB.main]
   have:xs=uU (iU g fsA fs bb bs):=hgr.1
   rw[this];rfl
  ·exact aO.mono hfA41 fun c r hc hr=>by
    have:=hflt41 c hc
    rw[hB.old c this.2 (by omega)];exact hr
  ·unfold foot
   simp only[iU,List.nodup_cons,List.mem_cons,List.mem_map,not_or,not_exists,not_and]
   refine⟨⟨by omega,fun B h=>by have:=(hB.dat B h).2;omega⟩,fun B h=>hne B h,hB.nd⟩
  ·intro c hc hm
   have:=hflt41 c hc
   simp only[foot,iU,List.mem_cons,List.mem_map] at hm
   rcases hm with rfl|rfl|⟨B,h,rfl⟩
   ·omega
   ·omega
   ·have:=(hB.dat B h).2;omega
  ·intro B h
   rw[hbk B h]
   simp[yT,iU]
  ·intro c hc
   simp only[foot,iU,List.mem_cons,List.mem_map] at hc
   rcases hc with rfl|rfl|⟨B,h,rfl⟩
   ·omega
   ·omega
   ·have:=(hB.dat B h).2;omega
 have hlt:i<g.bl.toNat:=by
  have h1:(i:Int)<g.bl:=by simpa using hlt
  omega
 refine bE fun M49 hM49=>?_
 subst hM49
 have hk2:=aE9 hB.wf
 have hB49:=hB.keep hk2
 have hg49:=hk2.get hB.wf hgP (by simp)
 refine aG (aS (aQr hB49)) ?_
 obtain⟨_,b1,_,_,_,b5⟩:=cC hg49
 refine aG (aS b1) ?_
 simp only[i64,aJ]
 refine aG (aS b5) ?_
 refine⟨_,_,_,_,_,rfl,?_⟩
 refine (aJN _ hk2.wf g hmg).mono ?_
 rintro y M60 ⟨rfl,hk60⟩
 simp only[i64,aJ]
 have hB60:=hB49.keep hk60
 have hg60:=hk60.get hk2.wf hg49 (by simp)
 obtain⟨_,c1,_⟩:=cC hg60
 refine⟨aG (aS (aQr hB60)) rfl,aG (aS c1) rfl,?_⟩
 refine bE fun M64 hM64=>?_
 have hM64':M64=M60.put P.next (.cells (dH [255#8]) true):=hM64
 have hk64:aD P M64 []:=by rw[hM64'];exact aHH hB.wf hk60 (Nat.le_refl _) (by omega) _
 have hlit:M64.get P.next=some (.cells (dH [255#8]) true):=by rw[hM64',aC.get_put,if_pos rfl]
 have hn64:P.next+2≤M64.next:=by rw[hM64'];exact hk60.nxt
 clear hM64 hM64'
 have hr:40≤aV g∧aV g≤80:=by unfold aV;omega
 have hprod:1≤g.pg.toNat*aV g∧g.pg.toNat*aV g≤640:=by
  have h1:g.pg.toNat*aV g≤8*80:=Nat.mul_le_mul (by omega) hr.2
  have h2:4*40≤g.pg.toNat*aV g:=Nat.mul_le_mul (by omega) hr.1
  omega
 have hmul:bT .i64 g.pg (aV g:Int)=((g.pg.toNat*aV g:Nat):Int):=by
  rw[Int.natCast_mul,show ((g.pg.toNat:Nat):Int)=g.pg by omega]
  have h3:((g.pg.toNat*aV g:Nat):Int)=g.pg*(aV g:Int):=by rw[Int.natCast_mul,show ((g.pg.toNat:Nat):Int)=g.pg by omega]
  rw[bT,aL (by omega) (by omega)]
 rw[hmul]
 refine (aJJ M64 hk64.wf _ 255#8 (aIo (v:=255#8) hlit) _ hprod.1 (by omega)).mono ?_
 rintro y M66 ⟨rfl,hM66⟩
 have hk66:aD M64 M66 []:=by rw[hM66];exact aD.new hk64.wf _
 have hd66:M66.get M64.next=some (.cells (dH (List.replicate (g.pg.toNat*aV g) 255#8)) true):=by rw[hM66];exact get_new _ _
 clear hM66
 have hkP66:=hk64.trans0 hk66
 have hB66:=hB.keep hkP66
 refine⟨aG (aS (aQr hB66)) rfl,?_⟩
 have hbd2:iA tb 70 [(0,.sl M64.next 0 (g.pg.toNat*aV g) (g.pg.toNat*aV g) none)]=some (.agg (jJ (yT g M64.next))):=by
  unfold iA
  rw[aFr]
  simp only[jJ,yT,List.length_replicate]
  rfl
 refine aG (oC hbd2) ?_
 refine⟨_,_,_,_,rfl,?_⟩
 refine bE fun M73 hM73=>?_
 have hM73':M73=M66.put (P.next+1) (.cells (jJ (yT g M64.next)) true):=hM73
 have hk73:aD P M73 []:=by
  rw[hM73']
  refine⟨hk66.wf.put (by have:=hk66.nxt;omega) _,hkP66.nxt,fun c hc _=>?_⟩
  rw[aC.get_put,if_neg (by omega)]
  exact hkP66.old c hc (by simp)
 have hd73:M73.get M64.next=some (.cells (dH (yT g M64.next).by') true):=by rw[hM73',aC.get_put,if_neg (by omega)];exact hd66
 have hl73:M73.get (P.next+1)=some (.cells (jJ (yT g M64.next)) true):=by rw[hM73',aC.get_put,if_pos rfl]
 have hn73:M64.next<M73.next:=hk73.wf _ _ hd73
 clear hM73 hM73'
 have hB73:=hB.keep hk73
 have hs:aO 4 M73 (.sl (P.next+1) 0 1 1 none) 1 (jJ (yT g M64.next)):=⟨rfl,.inr ⟨_,_,_,_,rfl,⟨Nat.le_refl _,.inl rfl⟩,.inr ⟨_,_,hl73,by rw[dS];exact Nat.le_refl _,by rw[List.drop_zero,List.take_of_length_le (by rw[dS];exact Nat.le_refl _)]⟩⟩⟩
 have hfreshB:∀ B∈bs,B.b<P.next:=fun B h=>hB.wf _ _ (hB.dat B h).1
 have hpP:p<P.next:=hB.wf _ _ hB.main
 obtain⟨y74,M74,hap,hgr,hpk74⟩:∃ y74 M74,aR tb 63 63 xs (.sl (P.next+1) 0 1 1 none) M73=some (y74,M74)∧oL 4 M74 y74 (bs.length+1) ((bs++[yT g M64.next]).flatMap jJ) M73.next∧(M74.WF∧M73.next≤M74.next∧∀ c r,M73.get c=some r→(∀ bb,oL 4 M73 xs bs.length (bs.flatMap jJ) bb→c≠bb)→M74.get c=some r)∧∀ c,c<M41.next→M74.get c=M73.get c:=by
  rw[List.flatMap_append,show[yT g M64.next].flatMap jJ=jJ (yT g M64.next) by simp]
  rcases hB73.sl with⟨h1,rfl⟩|⟨bb,hg,hb1,hb2⟩
  ·subst h1
   obtain⟨N,h1,rfl⟩:=append_nil (T:=tb) (k:=4) aF5 rfl aFr rfl hs (by omega) ⟨by simp only;omega,by omega⟩
   refine⟨_,_,h1,⟨rfl,by simp,by simp[dS],by rw[get_new];rfl⟩,⟨hB73.wf.new _,Nat.le_succ _,fun c r hc _=>(aD.new hB73.wf _).get hB73.wf hc (by simp)⟩,fun c hc=>by rw[aC.get_new,if_neg (by have:=hB73.nxt;omega)]⟩
  ·obtain⟨N,h1,rfl⟩:=iC (T:=tb) (k:=4) aF5 rfl aFr rfl hg hs (by omega) (aKj _) ⟨by simp only;omega,by omega⟩
   refine⟨_,_,h1,⟨rfl,by omega,by rw[List.length_append,cA dS,dS];omega,get_new (M73.kill bb) _⟩,⟨(hB73.wf.kill _).new _,Nat.le_succ _,fun c r hc hne=>?_⟩,fun c hc=>?_⟩
   ·have h2:=hB73.wf _ _ hc
    rw[aC.get_new,if_neg (by show c≠M73.next;omega),aC.get_kill,if_neg (hne bb hg)];exact hc
   ·rw[aC.get_new,if_neg (by have:=hB73.nxt;show c≠M73.next;omega),aC.get_kill,if_neg (by omega)]
 refine aG hap ?_
 have hnotbb:∀ c r,M73.get c=some r→(c=p∨c=M64.next∨∃ B∈bs,c=B.b)→M74.get c=some r:=by
  intro c r hc hcase
  refine hpk74.1.2.2 c r hc fun bb hg=>?_
  rcases hB73.sl with⟨h1,h2⟩|⟨bb',hg',hb1,hb2⟩
  ·subst h1;have:=hg.2.1;simp at this
  ·have e:bb=bb':=by
    have h1:=hg.1
    rw[hg'.1] at h1
    injection h1 with h1
    exact h1.symm
   subst e
   have hbbP:bb<P.next:=by
    rcases hB.sl with⟨h1,_⟩|⟨b2,hg2,_,_⟩
    ·subst h1;have:=hg.2.1;simp at this
    ·have e2:bb=b2:=by
      have h1:=hg.1
      rw[hg2.1] at h1
      injection h1 with h1
      exact h1.symm
     rw[e2];exact hB.wf _ _ hg2.2.2.2
   rcases hcase with rfl|rfl|⟨B,h,rfl⟩
   ·omega
   ·omega
   ·exact hb2 B h
 have hmain74:=hnotbb _ _ hB73.main (.inl rfl)
 have hstc:(aDL g fsA xs).set 6 y74=aDL g fsA y74:=rfl
 have hyone:y74.one=true:=by rw[hgr.1];rfl
 have hst:cL tb 63 (.ptr p 6) y74 M74=some (eY,M74.put p (.cells (aDL g fsA y74) true)):=by
  rw[← hstc]
  exact oF (dK aF5 rfl hyone hmain74 (by simp[aDL]))
 refine aG hst ?_
 refine⟨g.bl.toNat-(i+1),by omega,i+1,bs++[yT g M64.next],y74,dE (by omega),rfl,hlt,by rw[List.length_append,hbsl];rfl,?_,?_⟩
 ·intro B h
  rcases List.mem_append.1 h with h|h
  ·exact hbk B h
  ·simp only[List.mem_singleton] at h;subst h;rfl
 have hp73:p<M73.next:=hB73.wf _ _ hB73.main
 refine⟨hpk74.1.1.put (by have:=hpk74.1.2.1;omega) _,Nat.le_trans hB73.nxt hpk74.1.2.1,fun c hc hcp=>?_,by rw[aC.get_put,if_pos rfl],.inr ⟨M73.next,⟨?_,by simp,by rw[cA dS],?_⟩,hB73.nxt,?_⟩,?_,?_⟩
 ·rw[aC.get_put,if_neg hcp,hpk74.2 c hc]
  exact hB73.old c hc hcp
 ·rw[hgr.1];simp
 ·rw[aC.get_put,if_neg (by omega)];exact hgr.2.2.2
 ·intro B h
  rcases List.mem_append.1 h with h|h
  ·have:=hfreshB B h;have:=hk73.nxt;omega
  ·simp only[List.mem_singleton] at h;subst h;show M64.next≠M73.next;omega
 ·intro B h
  rcases List.mem_append.1 h with h|h
  ·refine⟨?_,(hB.dat B h).2⟩
   rw[aC.get_put,if_neg (by have:=(hB.dat B h).2;omega)]
   exact hnotbb _ _ (hB73.dat B h).1 (.inr (.inr ⟨B,h,rfl⟩))
  ·simp only[List.mem_singleton] at h;subst h
   refine⟨?_,by have:=hB.nxt;show M41.next≤M64.next;omega⟩
   rw[aC.get_put,if_neg (by show M64.next≠p;omega)]
   exact hnotbb _ _ hd73 (.inr (.inl rfl))
 ·rw[List.map_append,List.nodup_append]
  refine⟨hB.nd,by simp,fun a ha b hb=>?_⟩
  simp only[List.map_cons,List.map_nil,List.mem_singleton] at hb
  obtain⟨B,h,rfl⟩:=List.mem_map.1 ha
  have:=hfreshB B h
  rw[hb]
  show B.b≠M64.next
  omega
structure Ok (C:aQ) (g:eF) (i:Nat) (l:List (BitVec 8)) (nx wr:Int):Prop where
 g:C.g=g
 fs:C.fs=[]
 off:C.off=false
 turn:C.turn=0
 blk:∃ B,C.bs[i]? =some B∧B.by'=l∧B.next=nx∧B.wear=wr
section
variable {C:aQ} {g:eF} {i:Nat} {l:List (BitVec 8)} {nx wr:Int}
end
theorem aHC{l d:List (BitVec 8)}{r j k n:Nat}(hl:l.length=n*r)(hd:d.length=r)(hj:j<n)(hk:k<n):
 ((over l (j*r) d).drop (k*r)).take r=if k=j then d else (l.drop (k*r)).take r:=by
 have hjr:(j+1)*r≤n*r:=Nat.mul_le_mul_right _ hj
 have hkr:(k+1)*r≤n*r:=Nat.mul_le_mul_right _ hk
 rw[Nat.add_mul,Nat.one_mul] at hjr hkr
 apply List.ext_getElem?
 intro q
 rw[List.getElem?_take,List.getElem?_drop]
 have hov:∀ t,(over l (j*r) d)[t]? =if t<j*r then l[t]? else if t<j*r+r then d[t-j*r]? else l[t]? :=by
  intro t
  unfold over
  by_cases h1:t<j*r
  ·rw[if_pos h1,List.append_assoc,List.getElem?_append_left (by rw[List.length_take];omega),List.getElem?_take,if_pos h1]
  ·rw[if_neg h1]
   have hlt:(l.take (j*r)).length=j*r:=by rw[List.length_take];omega
   rw[List.append_assoc,List.getElem?_append_right (by omega),hlt]
   by_cases h2:t<j*r+r
   ·rw[if_pos h2,List.getElem?_append_left (by omega)]
   ·rw[if_neg h2,List.getElem?_append_right (by omega),List.getElem?_drop,hd]
    congr 1;omega
 rw[hov]
 by_cases hq:q<r
 ·rw[if_pos hq]
  by_cases hkj:k=j
  ·subst hkj
   rw[if_pos rfl,if_neg (by omega),if_pos (by omega)]
   congr 1;omega
  ·rw[if_neg hkj,List.getElem?_take,if_pos hq,List.getElem?_drop]
   rcases Nat.lt_or_gt_of_ne hkj with h1|h1
   ·have h2:(k+1)*r≤j*r:=Nat.mul_le_mul_right _ h1
    rw[Nat.add_mul,Nat.one_mul] at h2
    rw[if_pos (by omega)]
   ·have h2:(j+1)*r≤k*r:=Nat.mul_le_mul_right _ h1
    rw[Nat.add_mul,Nat.one_mul] at h2
    rw[if_neg (by omega),if_neg (by omega)]
 ·rw[if_neg hq]
  split
  ·rw[List.getElem?_eq_none (by omega)]
  ·rw[List.getElem?_take,if_neg hq]
theorem aKQ{v:BitVec 8}{r k n:Nat}(hk:k<n):((List.replicate (n*r) v).drop (k*r)).take r=List.replicate r v:=by
 have hkr:(k+1)*r≤n*r:=Nat.mul_le_mul_right _ hk
 rw[Nat.add_mul,Nat.one_mul] at hkr
 rw[List.drop_replicate,List.take_replicate,Nat.min_eq_left (by omega)]
section
variable {M:aC} {p F G:Nat} {C:aQ} {g:eF} {i:Nat} {l:List (BitVec 8)} {nx wr:Int}
end
section
variable {C:aQ} {g:eF} {o t b c:Nat} {f:BitVec 8}
end
section
variable {C:aQ} {g:eF} {i a:Nat} {l:List (BitVec 8)} {nx wr:Int} {dn:Nat}
end
open Go.ChangeShapes Go.WideShapes Go.RowKit
structure Act where
 do':Int
 b:Int
 k:Int
 n:BitVec 8
 len:Int
 op:Int
 by':Int
 f:BitVec 8
section
variable {C:aQ} {g:eF} {i:Nat} {l:List (BitVec 8)} {nx wr:Int} {o:Nat}
end
section
variable {M N:aC} {p:Nat} {C C':aQ} {r:Nat} {S S':aPo} {F B:Nat} {X:List Nat}
end
structure Tg where
 k:Int
 p:Int
 s:Int
 e:Int
def tgA(t:Tg):AV:=aBv t.k t.p t.s t.e
def jV(t:Tg):List AV:=[i64 t.k,i64 t.p,i64 t.s,i64 t.e]
def tg0:Tg:=⟨0,0,0,0⟩
def aNW(l:List (BitVec 8)):Tg:=⟨fK (l.drop (l.length-16)),fP (l.drop (l.length-16)),fS (l.drop (l.length-16)),fE (l.drop (l.length-16))⟩
def lkT(e:Int)(l:List (BitVec 8)):Tg:=if e=0∧gM l=1 then aNW l else tg0
def lkD(e:Int)(l:List (BitVec 8)):List (BitVec 8):=if e=0∧gM l=1 then l.take (l.length-16) else[]
def lkS(e:Int)(l:List (BitVec 8)):Int:=if e=0 then (gM l:Int) else 0
def ldE(e:Int)(l:List (BitVec 8)):Int:=if e=0 then (if gM l=1 then 0 else 5) else e
theorem xS{N:aC}{b:Nat}{cs:List AV}(t:Tg)(hg:N.get b=some (.cells cs true))(hl:cs.length=4):cL tb 106 (.ptr b 0) (tgA t) N=some (eY,N.put b (.cells (jV t) true)):=by
 obtain⟨k,p,s,e⟩:=t
 exact oF (aCr k p s e hg hl)
theorem aB2{N:aC}{b:Nat}{t:Tg}(hg:N.get b=some (.cells (jV t) true)):aY tb 106 (.ptr b 0) N=some (tgA t):=(hU hg).2.2.2.2
theorem aGY{N:aC}{b:Nat}{t:Tg}{x y z:AV}(hg:N.get b=some (.cells (jV t) true)):fO tb [.v x,.c 106 (.ptr b 0),.v y,.v z] N=some (.tup [x,tgA t,y,z]):=by
 have la:=aB2 hg
 unfold fO lF lF lF lF lF
 simp only[la,Option.map_some]
theorem aGz{N:aC}{b:Nat}{t:Tg}{x y:AV}(hg:N.get b=some (.cells (jV t) true)):fO tb [.v x,.c 106 (.ptr b 0),.v y] N=some (.tup [x,tgA t,y]):=by
 have la:=aB2 hg
 unfold fO lF lF lF lF
 simp only[la,Option.map_some]
theorem aNK{M:aC}{p:Nat}{C:aQ}(h:bF M p C)(b k:Int):(rdB C b k).length≤80:=by
 have hm:=bP.1 h.may
 unfold rdB
 split
 ·split
  ·unfold jD
   rw[List.length_take]
   unfold aV;omega
  ·simp
 ·simp
theorem xD{M N:aC}(k:aD M N []){b:Nat}(h1:M.next≤b)(h2:b<N.next)(row:hY):aD M (N.put b row) []:=
 ⟨k.wf.put h2 _,k.nxt,fun c hc _=>by rw[aC.get_put,if_neg (by omega)];exact k.old c hc (by simp)⟩
theorem lY{M N:aC}{p:Nat}{C C':aQ}(s:dM M N p C C')(hw:M.WF)(h:bF M p C){b:Nat}(h1:M.next≤b)(h2:b<N.next)(row:hY):dM M (N.put b row) p C C':=by
 have k:aD N (N.put b row) [b]:=aD.put s.wf h2 row
 have hf:∀ c∈[b],c∉foot p C'∧¬ aN C'.fsA c:=fun c hc=>by
  simp only[List.mem_singleton] at hc
  subst hc
  refine⟨fun hm=>?_,fun hm=>?_⟩
  ·rw[s.foot] at hm
   have:=h.lt hw _ hm;omega
  ·rw[s.fsA] at hm
   have:=aO.blk_lt h.flt hw hm;omega
 refine⟨s.at'.keepS s.wf k hf,⟨k.wf,Nat.le_trans s.keep.nxt k.nxt,fun c hc hn=>?_⟩,s.foot,s.fsA,s.fs,s.g⟩
 rw[aC.get_put,if_neg (by omega)]
 exact s.keep.old c hc hn
theorem aOZ(M:aC)(hw:M.WF)(p:Nat)(C:aQ)(h:bF M p C)(b k:Int):
 aB tb.P 92 [.ptr p 0,bB b k] M fun y N=>∃ u,y= .tup [u,tgA (lkT (zG C b k) (rdB C b k)),i64 (lkS (zG C b k) (rdB C b k)),i64 (zG C b k)]∧Gr N u (lkD (zG C b k) (rdB C b k))∧(∀ c,aN u c→M.next≤c)∧dM M N p C (yO C b k):=by
 refine aPV ?_
 unfold F92
 refine⟨_,_,rfl,?_⟩
 refine bE fun M3 hM3=>?_
 have hM3':M3=M.new (.cells [i64 b,i64 k] true):=hM3
 have hk3:aD M M3 []:=by rw[hM3'];exact aD.new hw _
 have hpl3:M3.get M.next=some (.cells [i64 b,i64 k] true):=by rw[hM3'];exact get_new _ _
 clear hM3 hM3'
 refine bE fun M4 hM4=>?_
 have hM4':M4=M3.new (.cells (jV tg0) true):=hM4
 have hk4:aD M3 M4 []:=by rw[hM4'];exact aD.new hk3.wf _
 have hb4:M4.get M3.next=some (.cells (jV tg0) true):=by rw[hM4'];exact get_new _ _
 clear hM4 hM4'
 have hK4:=hk3.trans0 hk4
 have h4:=h.keep hw hK4
 have hpl4:=hk4.get hk3.wf hpl3 (by simp)
 obtain⟨_,_,l2⟩:=bO hpl4
 refine aG (aS l2) ?_
 refine⟨_,_,rfl,?_⟩
 refine (aQZ M4 hK4.wf p C h4 b k).mono ?_
 rintro y M9 ⟨u,rfl,hu,hfu,s9⟩
 refine⟨u,_,rfl,?_⟩
 have hbM:M.next≤M3.next:=hk3.nxt
 have hb3:M3.next<M4.next:=hk4.wf _ _ hb4
 have hb9:M9.get M3.next=some (.cells (jV tg0) true):=uB s9 hK4.wf hb4 (fun hm=>by have:=h.lt hw _ hm;omega)
 have hn9:M3.next<M9.next:=Nat.lt_of_lt_of_le hb3 s9.keep.nxt
 have s9M:dM M M9 p C (yO C b k):=s9.pre hK4
 have hlen:=aNK h b k
 refine aT (fun q=>?_) (fun q=>?_)
 ·have q:¬ zG C b k=0:=by simpa using q
  refine aG (xS tg0 hb9 rfl) ?_
  refine aG (aGY (t:=tg0) (by rw[aC.get_put,if_pos rfl])) ?_
  have e1:lkT (zG C b k) (rdB C b k)=tg0:=by unfold lkT;rw[if_neg (fun hh=>q hh.1)]
  have e2:lkS (zG C b k) (rdB C b k)=0:=by unfold lkS;rw[if_neg q]
  have e3:lkD (zG C b k) (rdB C b k)=[]:=by unfold lkD;rw[if_neg (fun hh=>q hh.1)]
  rw[e1,e2,e3]
  exact⟨.val (.slice none 0 0),rfl,.inl ⟨rfl,rfl⟩,fun c hc=>hc.elim,lY s9M hw h hbM hn9 _⟩
 have q:zG C b k=0:=by simpa using q
 rw[q]
 generalize rdB C b k=l at*
 have h9:=s9.at'
 refine (aPH M9 s9.wf u l hu.at (by omega)).mono ?_
 rintro y M15 ⟨hk15,hres⟩
 have fin:∀ (x:AV) (t:Tg) (st:Int),y= .tup [x,tgA t,i64 st]→Gr M15 x (lkD 0 l)→(∀ c,aN x c→M9.next≤c)→lkT 0 l=t→lkS 0 l=st→
  (∃ (x16:AV) (z17 z18 z19 z20 z21:Int),y= .tup [x16,.agg [.val (.int .i64 z17),.val (.int .i64 z18),.val (.int .i64 z19),.val (.int .i64 z20)],.val (.int .i64 z21)]∧
   aK (M15.new (.cells [.val (.int .i64 0),.val (.int .i64 0),.val (.int .i64 0),.val (.int .i64 0)] true)) fun M22=>
   aA (cL tb 106 (.ptr M15.next 0) (.agg [.val (.int .i64 z17),.val (.int .i64 z18),.val (.int .i64 z19),.val (.int .i64 z20)]) M22) fun y23=>
   aA (aH tb 106 (.ptr M15.next 0) y23.2) fun y24=>∃ z25 z26 z27 z28,y24.1= .agg [.val (.int .i64 z25),.val (.int .i64 z26),.val (.int .i64 z27),.val (.int .i64 z28)]∧
   aA (cL tb 106 (.ptr M3.next 0) (.agg [.val (.int .i64 z25),.val (.int .i64 z26),.val (.int .i64 z27),.val (.int .i64 z28)]) y23.2) fun y29=>
   aA (fO tb [.v x16,.c 106 (.ptr M3.next 0),.v (.val (.int .i64 z21)),.v (.val (.int .i64 0))] y29.2) fun x30=>
    ∃ u,x30= .tup [u,tgA (lkT 0 l),i64 (lkS 0 l),i64 0]∧Gr y29.2 u (lkD 0 l)∧(∀ c,aN u c→M.next≤c)∧dM M y29.2 p C (yO C b k)):=by
  intro x t st hy hx hfx ht hst
  refine⟨x,t.k,t.p,t.s,t.e,st,hy,?_⟩
  refine bE fun M22 hM22=>?_
  subst hM22
  have hg:=get_new M15 (.cells [.val (.int .i64 0),.val (.int .i64 0),.val (.int .i64 0),.val (.int .i64 0)] true)
  refine aG (xS t hg rfl) ?_
  rw[aC.new_put]
  have hk22:=aD.new hk15.wf (.cells (jV t) true)
  have hg22:=get_new M15 (.cells (jV t) true)
  have hb22:=hk22.get hk15.wf (hk15.get s9.wf hb9 (by simp)) (by simp)
  generalize M15.new (.cells (jV t) true)=M23 at hk22 hg22 hb22 ⊢
  refine aG (aS (aB2 hg22)) ?_
  refine⟨_,_,_,_,rfl,?_⟩
  refine aG (xS t hb22 rfl) ?_
  refine aG (aGY (t:=t) (by rw[aC.get_put,if_pos rfl])) ?_
  have s23:dM M M23 p C (yO C b k):=s9M.post (hk15.trans0 hk22)
  have hn:M3.next<M23.next:=hk22.wf _ _ hb22
  have hx23:Gr M23 x (lkD 0 l):=hx.mono fun c row _ hr=>hk22.get hk15.wf hr (by simp)
  refine⟨x,by rw[ht,hst];rfl,hx23.mono fun c row hc hr=>?_,fun c hc=>?_,lY s23 hw h hbM hn _⟩
  ·have:=hfx c hc
   rw[aC.get_put,if_neg (by omega)];exact hr
  ·have:=hfx c hc
   have:=s9.keep.nxt
   have:=hK4.nxt
   omega
 rcases hres with⟨hst,x,rfl,hx,hfx⟩|⟨hst,rfl⟩
 ·refine fin x (aNW l) 1 rfl ?_ hfx ?_ ?_
  ·unfold lkD;rw[if_pos ⟨rfl,hst⟩];exact hx
  ·unfold lkT;rw[if_pos ⟨rfl,hst⟩]
  ·unfold lkS;rw[if_pos rfl,hst];rfl
 ·refine fin (.val (.slice none 0 0)) tg0 (gM l) rfl ?_ (fun c hc=>hc.elim) ?_ ?_
  ·unfold lkD;rw[if_neg (fun hh=>hst hh.2)];exact .inl ⟨rfl,rfl⟩
  ·unfold lkT;rw[if_neg (fun hh=>hst hh.2)]
  ·unfold lkS;rw[if_pos rfl]
theorem aPM(M:aC)(hw:M.WF)(p:Nat)(C:aQ)(h:bF M p C)(b k:Int):
 aB tb.P 64 [.ptr p 0,bB b k] M fun y N=>∃ u,y= .tup [u,tgA (lkT (zG C b k) (rdB C b k)),i64 (ldE (zG C b k) (rdB C b k))]∧Gr N u (lkD (zG C b k) (rdB C b k))∧(∀ c,aN u c→M.next≤c)∧dM M N p C (yO C b k):=by
 refine aQ7 ?_
 unfold F64
 refine⟨_,_,rfl,?_⟩
 refine bE fun M3 hM3=>?_
 have hM3':M3=M.new (.cells [i64 b,i64 k] true):=hM3
 have hk3:aD M M3 []:=by rw[hM3'];exact aD.new hw _
 have hpl3:M3.get M.next=some (.cells [i64 b,i64 k] true):=by rw[hM3'];exact get_new _ _
 clear hM3 hM3'
 refine bE fun M4 hM4=>?_
 have hM4':M4=M3.new (.cells (jV tg0) true):=hM4
 have hk4:aD M3 M4 []:=by rw[hM4'];exact aD.new hk3.wf _
 have hb4:M4.get M3.next=some (.cells (jV tg0) true):=by rw[hM4'];exact get_new _ _
 clear hM4 hM4'
 have hK4:=hk3.trans0 hk4
 have hpl4:=hk4.get hk3.wf hpl3 (by simp)
 have hbM:M.next≤M3.next:=hk3.nxt
 have hb3:M3.next<M4.next:=hk4.wf _ _ hb4
 obtain⟨_,_,l2⟩:=bO hpl4
 refine aG (aS l2) ?_
 refine⟨_,_,rfl,?_⟩
 refine (aOZ M4 hK4.wf p C (h.keep hw hK4) b k).mono ?_
 rintro y M9 ⟨u,rfl,hu,hfu,s9⟩
 have hb9:M9.get M3.next=some (.cells (jV tg0) true):=uB s9 hK4.wf hb4 (fun hm=>by have:=h.lt hw _ hm;omega)
 generalize hE:zG C b k=e at*
 generalize hL:rdB C b k=l at*
 have s9M:dM M M9 p C (yO C b k):=s9.pre hK4
 have htg:¬ (e=0∧gM l=1)→lkT e l=tg0∧lkD e l=[]:=fun hn=>by
  unfold lkT lkD
  rw[if_neg hn,if_neg hn];exact⟨rfl,rfl⟩
 refine⟨u,(lkT e l).k,(lkT e l).p,(lkT e l).s,(lkT e l).e,_,_,rfl,?_⟩
 refine bE fun M17 hM17=>?_
 subst hM17
 refine aG (xS (lkT e l) (get_new M9 _) rfl) ?_
 rw[aC.new_put]
 have hk18:=aD.new s9.wf (.cells (jV (lkT e l)) true)
 have hg18:=get_new M9 (.cells (jV (lkT e l)) true)
 generalize M9.new (.cells (jV (lkT e l)) true)=M18 at hk18 hg18 ⊢
 have hb18:=hk18.get s9.wf hb9 (by simp)
 have s18:=s9M.post hk18
 have hn18:M3.next<M18.next:=hk18.wf _ _ hb18
 have hM9:M.next≤M9.next:=s9M.keep.nxt
 have none:∀ z:Int,¬ (e=0∧gM l=1)→ldE e l=z→aA (cL tb 106 (.ptr M3.next 0) (tgA tg0) M18) fun y19=>aA (fO tb [.v (.val (.slice none 0 0)),.c 106 (.ptr M3.next 0),.v (.val (.int .i64 z))] y19.2) fun x20=>
  ∃ u,x20= .tup [u,tgA (lkT e l),i64 (ldE e l)]∧Gr y19.2 u (lkD e l)∧(∀ c,aN u c→M.next≤c)∧dM M y19.2 p C (yO C b k):=by
  intro z hn hz
  obtain⟨h1,h2⟩:=htg hn
  refine aG (xS tg0 hb18 rfl) ?_
  refine aG (aGz (t:=tg0) (by rw[aC.get_put,if_pos rfl])) ?_
  rw[h1,h2,hz]
  exact⟨.val (.slice none 0 0),rfl,.inl ⟨rfl,rfl⟩,fun c hc=>hc.elim,lY s18 hw h hbM hn18 _⟩
 refine aT (fun q=>?_) (fun q=>?_)
 ·have q:¬ e=0:=by simpa using q
  exact none e (fun hh=>q hh.1) (by unfold ldE;rw[if_neg q])
 have q:e=0:=by simpa using q
 subst q
 have hS:lkS 0 l=(gM l:Int):=by unfold lkS;rw[if_pos rfl]
 refine aT (fun q=>?_) (fun q=>?_)
 ·have q:¬ gM l=1:=by
   rw[hS] at q
   intro e
   rw[e] at q;simp at q
  exact none 5 (fun hh=>q hh.2) (by unfold ldE;rw[if_pos rfl,if_neg q])
 have q:gM l=1:=by
  rw[hS] at q
  have:((gM l:Nat):Int)=1:=by simpa using q
  omega
 refine aG (aS (aB2 hg18)) ?_
 refine⟨_,_,_,_,rfl,?_⟩
 refine aG (xS (lkT 0 l) hb18 rfl) ?_
 refine aG (aGz (t:=lkT 0 l) (by rw[aC.get_put,if_pos rfl])) ?_
 have hE0:ldE 0 l=0:=by unfold ldE;rw[if_pos rfl,if_pos q]
 rw[hE0]
 have hu18:Gr M18 u (lkD 0 l):=hu.mono fun c row _ hr=>hk18.get s9.wf hr (by simp)
 refine⟨u,rfl,hu18.mono fun c row hc hr=>?_,fun c hc=>?_,lY s18 hw h hbM hn18 _⟩
 ·have:=hfu c hc
  rw[aC.get_put,if_neg (by omega)];exact hr
 ·have:=hfu c hc
  have:=hK4.nxt
  omega
theorem aLZ(xo yo:Operand)(a b:Bool)(M:aC):cZ tb .eql 4 xo yo (.val (.bool a)) (.val (.bool b)) M=some (.val (.bool (a==b)),M):=by
 refine cB ?_
 cases a <;> cases b <;> kernel_rfl
theorem yZ(n:Nat)(a b:Int):eqA tb (n+1) 3 (i64 a) (i64 b)=some (a==b):=by
 unfold eqA
 rw[dX]
 rfl
theorem aIX{M:aC}{b:Nat}{cs:List AV}(g:eF)(hg:M.get b=some (.cells cs true))(hl:cs.length=5):cL tb 23 (.ptr b 0) (fX g) M=some (eY,M.put b (.cells (cW g) true)):=
 oF (pP aIx rfl hg hl (by intro v hv;simp only[cW,List.mem_cons,List.not_mem_nil,or_false] at hv;rcases hv with rfl|rfl|rfl|rfl|rfl <;> rfl))
theorem aHe{M:aC}{b:Nat}{g:eF}(hg:M.get b=some (.cells (cW g) true)):fO tb [.c 23 (.ptr b 0)] M=some (fX g):=by
 have l:=(cC hg).2.2.2.2.2
 unfold fO lF lF
 simp only[l,Option.map_some]
theorem aOK(M:aC)(hw:M.WF)(p:Nat)(C:aQ)(h:bF M p C):aB tb.P 61 [.ptr p 0] M fun y N=>y=fX C.g∧aD M N []:=by
 refine aRb ?_
 unfold F61
 refine bE fun M1 hM1=>?_
 subst hM1
 have hK:=aD.new hw (.cells [i64 0,i64 0,i64 0,i64 0,i64 0] true)
 have hg:=get_new M (.cells [i64 0,i64 0,i64 0,i64 0,i64 0] true)
 have h1:=h.keep hw hK
 have lg:=aMD h1
 simp only[i64] at lg h1 hg hK
 simp only[aCA,eM,cO,fG,dB,fa0,bV,lg]
 refine⟨_,_,_,_,_,rfl,?_⟩
 refine aG (aIX C.g hg rfl) ?_
 refine aG (aHe (g:=C.g) (by rw[aC.get_put,if_pos rfl])) ?_
 refine⟨by trivial,?_⟩
 rw[aC.new_put]
 exact aD.new hw _
theorem aHR(M:aC)(hw:M.WF)(g:eF)(h:dV g=true)(b p:Int)(hi:isG g b p=true):aB tb.P 90 [fX g,bB b p] M fun y N=>y=i64 (b*g.pg+p)∧aD M N []:=by
 refine aKd ?_
 unfold F90
 refine⟨_,_,_,_,_,rfl,_,_,rfl,?_⟩
 simp only[cY]
 have hg:=get_new M (.cells (cW g) true)
 have hK:=aD.new hw (.cells (cW g) true)
 have hK2:=aD.new hK.wf (.cells [i64 b,i64 p] true)
 have hg2:=hK2.get hK.wf hg (by simp)
 have hp2:=get_new (M.new (.cells (cW g) true)) (.cells [i64 b,i64 p] true)
 obtain⟨l0,l1,l2,l3,l4,l5⟩:=cC hg2
 refine aG (aS l5) ?_
 refine⟨_,_,_,_,_,rfl,?_⟩
 refine (jP _ hK2.wf g).mono ?_
 rintro y N ⟨rfl,hk⟩
 simp only[cO,h]
 refine aT (fun h=>by simp at h) (fun _=>?_)
 have hgN:=hk.get hK2.wf hg2 (by simp)
 have hpN:=hk.get hK2.wf hp2 (by simp)
 obtain⟨_,_,_,_,_,k5⟩:=cC hgN
 obtain⟨_,_,p2⟩:=bO hpN
 refine aG (aS k5) ?_
 refine⟨_,_,_,_,_,rfl,?_⟩
 refine aG (aS p2) ?_
 refine⟨_,_,rfl,?_⟩
 refine (aRw _ hk.wf g h b p).mono ?_
 rintro y N' ⟨rfl,hk'⟩
 simp only[cO]
 have hall:=hK.trans0 (hK2.trans0 (hk.trans0 hk'))
 refine aT (fun hi'=>by rw[hi] at hi';cases hi') (fun _=>?_)
 obtain⟨_,k1,_⟩:=cC (hk'.get hk.wf hgN (by simp))
 obtain⟨p0,p1,_⟩:=bO (hk'.get hk.wf hpN (by simp))
 refine aG (aS p0) ?_
 simp only[i64,aJ]
 refine aG (aS k1) ?_
 simp only[i64,aJ]
 refine aG (aS p1) ?_
 simp only[i64,aJ]
 have hm:=bP.1 h
 have hi2:=zE.1 hi
 have hb:=zK (a:=b) (b:=g.pg) (by omega) (by omega) (by omega) (by omega)
 have hn:0≤b*g.pg:=Int.mul_nonneg (by omega) (by omega)
 rw[bT,aL (n:=b*g.pg) (by omega) (by omega),aM,aL (by omega) (by omega)]
 exact⟨by trivial,hall⟩
theorem aA3{xo yo:Operand}{a b:Nat}{M:aC}(hb:b≠0)(ha:a<4611686018427387904):cZ tb .quo 3 xo yo (.val (.int .i64 (a:Int))) (.val (.int .i64 (b:Int))) M=some (.val (.int .i64 ((a/b:Nat):Int)),M):=by
 refine cB ?_
 have hnn:(b:Int)≠0:=by omega
 have hlt:a/b≤a:=Nat.div_le_self a b
 rw[vX (by simp) (by simp)]
 simp only[tE,hnn,decide_false,cond_false,Option.map_some]
 have e:((a:Int).tdiv (b:Int))=((a/b:Nat):Int):=by rw[Int.tdiv_eq_ediv_of_nonneg (by omega)];exact (Int.natCast_ediv a b).symm
 rw[e]
 generalize a/b=q at hlt
 rw[aL (by omega) (by omega)]
theorem aKn{xo yo:Operand}{a b:Nat}{M:aC}(hb:b≠0):cZ tb .rem 3 xo yo (.val (.int .i64 (a:Int))) (.val (.int .i64 (b:Int))) M=some (.val (.int .i64 ((a%b:Nat):Int)),M):=by
 refine cB ?_
 have hnn:(b:Int)≠0:=by omega
 rw[vX (by simp) (by simp)]
 simp only[tE,hnn,decide_false,cond_false,Option.map_some]
 have e:((a:Int).tmod (b:Int))=((a%b:Nat):Int):=by rw[Int.tmod_eq_emod_of_nonneg (by omega)];exact (Int.natCast_emod a b).symm
 rw[e]
def nP(g:eF):Nat:=g.bl.toNat*g.pg.toNat
def nE(g:eF)(i:Nat):Nat:=i/g.pg.toNat
def nA(g:eF)(i:Nat):Nat:=i%g.pg.toNat
theorem aAM{g:eF}(h:dV g=true):1≤nP g∧nP g≤160∧g.bl=(g.bl.toNat:Int)∧g.pg=(g.pg.toNat:Int)∧4≤g.pg.toNat∧g.pg.toNat≤8∧8≤g.bl.toNat∧g.bl.toNat≤20:=by
 have hm:=bP.1 h
 have h1:g.bl.toNat*g.pg.toNat≤20*8:=Nat.mul_le_mul (by omega) (by omega)
 have h2:8*4≤g.bl.toNat*g.pg.toNat:=Nat.mul_le_mul (by omega) (by omega)
 unfold nP
 omega
theorem aKv{g:eF}(h:dV g=true){i:Nat}(hi:i<nP g):isG g (nE g i) (nA g i)=true∧nE g i<g.bl.toNat∧nA g i<g.pg.toNat∧nE g i*g.pg.toNat+nA g i=i:=by
 obtain⟨_,_,h1,h2,h3,_,_,_⟩:=aAM h
 have hk:nA g i<g.pg.toNat:=Nat.mod_lt _ (by omega)
 have hb:nE g i<g.bl.toNat:=by
  unfold nE
  rw[Nat.div_lt_iff_lt_mul (by omega)]
  exact hi
 have he:nE g i*g.pg.toNat+nA g i=i:=by unfold nE nA;exact Nat.div_add_mod' i g.pg.toNat
 refine⟨zE.2 ⟨⟨by omega,by omega⟩,by omega,by omega⟩,hb,hk,he⟩
theorem fR{M:aC}{b:Nat}{cs:List AV}(x y:Int)(hg:M.get b=some (.cells cs true))(hl:cs.length=2):cL tb 101 (.ptr b 0) (bB x y) M=some (eY,M.put b (.cells [i64 x,i64 y] true)):=
 oF (pP pR rfl hg hl (by intro v hv;simp only[List.mem_cons,List.not_mem_nil,or_false] at hv;rcases hv with rfl|rfl <;> rfl))
theorem aCe{M:aC}{b:Nat}{x y:Int}{z:AV}(hg:M.get b=some (.cells [i64 x,i64 y] true)):fO tb [.c 101 (.ptr b 0),.v z] M=some (.tup [bB x y,z]):=by
 have l:=(bO hg).2.2
 unfold fO lF lF lF
 simp only[l,Option.map_some]
theorem aPb(M:aC)(hw:M.WF)(g:eF)(h:dV g=true)(i:Nat)(hi:i<nP g):
 aB tb.P 62 [fX g,bB (nE g i) (nA g i)] M fun y N=>aD M N []∧((i+1<nP g∧y= .tup [bB (nE g (i+1)) (nA g (i+1)),.val (.bool true)])∨(i+1=nP g∧y= .tup [bB 0 0,.val (.bool false)])):=by
 obtain⟨hn1,hn2,h1,h2,h3,_,_,_⟩:=aAM h
 obtain⟨hp,_,_,he⟩:=aKv h hi
 refine aQD ?_
 unfold F62
 refine⟨_,_,_,_,_,rfl,_,_,rfl,?_⟩
 refine bE fun M8 hM8=>?_
 have hM8':M8=M.new (.cells (cW g) true):=hM8
 have hk8:aD M M8 []:=by rw[hM8'];exact aD.new hw _
 have hg8:M8.get M.next=some (.cells (cW g) true):=by rw[hM8'];exact get_new _ _
 clear hM8 hM8'
 refine bE fun M9 hM9=>?_
 have hM9':M9=M8.new (.cells [i64 (nE g i:Int),i64 (nA g i:Int)] true):=hM9
 have hk9:aD M8 M9 []:=by rw[hM9'];exact aD.new hk8.wf _
 have hp9:M9.get M8.next=some (.cells [i64 (nE g i:Int),i64 (nA g i:Int)] true):=by rw[hM9'];exact get_new _ _
 clear hM9 hM9'
 refine bE fun M10 hM10=>?_
 have hM10':M10=M9.new (.cells [i64 0,i64 0] true):=hM10
 have hk10:aD M9 M10 []:=by rw[hM10'];exact aD.new hk9.wf _
 have hr10:M10.get M9.next=some (.cells [i64 0,i64 0] true):=by rw[hM10'];exact get_new _ _
 clear hM10 hM10'
 have hK:=hk8.trans0 (hk9.trans0 hk10)
 have hg10:=(hk9.trans0 hk10).get hk8.wf hg8 (by simp)
 have hp10:=hk10.get hk9.wf hp9 (by simp)
 obtain⟨_,_,_,_,_,l5⟩:=cC hg10
 refine aG (aS l5) ?_
 refine⟨_,_,_,_,_,rfl,?_⟩
 refine aG (aS (bO hp10).2.2) ?_
 refine⟨_,_,rfl,?_⟩
 refine (aHR M10 hK.wf g h _ _ hp).mono ?_
 rintro y M21 ⟨rfl,hk21⟩
 have hnum:(nE g i:Int)*g.pg+(nA g i:Int)=(i:Int):=by
  rw[h2,← Int.natCast_mul,← Int.natCast_add,he]
 rw[hnum]
 simp only[i64,aJ]
 have hM9:M.next≤M9.next:=(hk8.trans0 hk9).nxt
 have hres:∀ (N:aC) (x y:Int) (z:AV),aD M10 N []→∃ N',cL tb 101 (.ptr M9.next 0) (bB x y) N=some (eY,N')∧fO tb [.c 101 (.ptr M9.next 0),.v z] N'=some (.tup [bB x y,z])∧aD M N' []:=by
  intro N x y z hk
  have hrN:=hk.get hK.wf hr10 (by simp)
  exact⟨_,fR x y hrN rfl,aCe (by rw[aC.get_put,if_pos rfl]),xD (hK.trans0 hk) hM9 (hk.wf _ _ hrN) _⟩
 refine bE fun K38 hK38=>?_
 have stop:∀ N,aD M10 N []→i+1=nP g→K38 true N:=by
  intro N hk hn
  rw[hK38]
  simp only[jF]
  obtain⟨N',e1,e2,e3⟩:=hres N 0 0 (.val (.bool false)) hk
  refine aG e1 ?_
  refine aG e2 ?_
  exact⟨e3,.inr ⟨hn,rfl⟩⟩
 have go:∀ N,aD M10 N []→i+1<nP g→K38 false N:=by
  intro N hk hn
  rw[hK38]
  simp only[fG]
  have hgN:=hk.get hK.wf hg10 (by simp)
  have l1:aH tb 3 (.ptr M.next 1) N=some (.val (.int .i64 (g.pg.toNat:Int)),N):=by rw[← h2];exact aS (cC hgN).2.1
  rw[dE (by omega)]
  simp only[l1,eM,aJ]
  refine aG (aA3 (by omega) (by omega)) ?_
  simp only[aJ]
  refine aG (aKn (by omega)) ?_
  simp only[aJ]
  obtain⟨N',e1,e2,e3⟩:=hres N (nE g (i+1)) (nA g (i+1)) (.val (.bool true)) hk
  refine aG e1 ?_
  refine aG e2 ?_
  exact⟨e3,.inl ⟨hn,rfl⟩⟩
 clear hK38
 have hg21:=hk21.get hK.wf hg10 (by simp)
 obtain⟨_,_,_,_,_,m5⟩:=cC hg21
 refine aG (aS m5) ?_
 refine⟨_,_,_,_,_,rfl,?_⟩
 refine (jP M21 hk21.wf g).mono ?_
 rintro y M30 ⟨rfl,hk30⟩
 have hk30':=hk21.trans0 hk30
 rw[h]
 simp only[cO,Bool.not_true,fG]
 rw[dE (by omega)]
 refine aT (fun hz=>?_) (fun _=>?_)
 ·exfalso
  have:((i+1:Nat):Int)=0:=by simpa using hz
  omega
 have hg30:=hk30'.get hK.wf hg10 (by simp)
 have n0:aH tb 3 (.ptr M.next 0) M30=some (.val (.int .i64 g.bl),M30):=aS (cC hg30).1
 have n1:aH tb 3 (.ptr M.next 1) M30=some (.val (.int .i64 g.pg),M30):=aS (cC hg30).2.1
 simp only[n0,n1,eM,aJ]
 have hmul:bT .i64 g.bl g.pg=((nP g:Nat):Int):=by
  have:((nP g:Nat):Int)=g.bl*g.pg:=by unfold nP;rw[Int.natCast_mul,← h1,← h2]
  rw[bT,← this,aL (by omega) (by omega)]
 rw[hmul]
 by_cases hn:i+1=nP g
 ·rw[show (((i+1:Nat):Int)==((nP g:Nat):Int))=true by rw[hn];exact beq_self_eq_true _]
  exact stop M30 hk30' hn
 ·rw[show (((i+1:Nat):Int)==((nP g:Nat):Int))=false by rw[beq_eq_false_iff_ne];omega]
  exact go M30 hk30' (by omega)
theorem aKV(C:aQ)(b k:Int):(yO C b k).g=C.g∧(yO C b k).fs=C.fs∧(yO C b k).bs=C.bs:=by
 have h:=aCS C
 unfold yO
 split
 ·exact⟨h.2.1,h.2.2.1,h.1⟩
 ·exact⟨rfl,rfl,rfl⟩
structure Fd where
 b:Int
 k:Int
 t:Tg
def fJ(f:Fd):List AV:=[i64 f.b,i64 f.k,i64 f.t.k,i64 f.t.p,i64 f.t.s,i64 f.t.e]
theorem eI(f:Fd):(fJ f).length=6:=rfl
theorem zF(f:Fd):∀ v∈fJ f,v.one=true:=by
 intro v hv
 simp only[fJ,List.mem_cons,List.not_mem_nil,or_false] at hv
 rcases hv with rfl|rfl|rfl|rfl|rfl|rfl <;> rfl
theorem aBa:tb.ty.get 111=some ⟨.sli 115,1,24,[.slice none 0 0],none⟩:=by kernel_rfl
theorem nL:tb.ty.get 115=some ⟨.st [(0,2,true),(2,4,true)],6,48,[.int .i64 0,.int .i64 0,.int .i64 0,.int .i64 0,.int .i64 0,.int .i64 0],some [101,106]⟩:=by kernel_rfl
def GrF(M:aC)(x:AV)(l:List Fd):Prop:=(x= .val (.slice none 0 0)∧l=[])∨∃ b,oL 6 M x l.length (l.flatMap fJ) b
def jQ(M:aC)(x:AV)(l:List Fd):Prop:=aO 6 M x l.length (l.flatMap fJ)
theorem GrF.at{M:aC}{x:AV}{l:List Fd}(h:GrF M x l):jQ M x l:=by
 rcases h with⟨rfl,rfl⟩|⟨b,h⟩
 ·exact aO.nil
 ·exact h.at
theorem GrF.mono{M N:aC}{x:AV}{l:List Fd}(h:GrF M x l)(hk:∀ c r,aN x c→M.get c=some r→N.get c=some r):GrF N x l:=by
 rcases h with h|⟨b,h1,h2,h3,h4⟩
 ·exact .inl h
 ·exact .inr ⟨b,h1,h2,h3,hk b _ (by rw[h1];exact⟨by omega,rfl⟩) h4⟩
theorem GrF.grow{M:aC}{x:AV}{l:List Fd}(hw:M.WF)(h:GrF M x l)(f:Fd)(hb:l.length≤10000):
 ∃ x' N,aR tb 111 111 x (.sl M.next 0 1 1 none) (M.new (.cells (fJ f) true))=some (x',N)∧GrF N x' (l++[f])∧eZ M N x x'∧∀ c,aN x' c→M.next≤c:=by
 have hw1:=hw.new (.cells (fJ f) true)
 have hs:aO 6 (M.new (.cells (fJ f) true)) (.sl M.next 0 1 1 none) 1 (fJ f):=⟨rfl,.inr ⟨_,_,_,_,rfl,⟨Nat.le_refl _,.inl rfl⟩,.inr ⟨_,_,get_new _ _,by rw[eI];exact Nat.le_refl _,by rw[List.drop_zero,List.take_of_length_le (by rw[eI];exact Nat.le_refl _)]⟩⟩⟩
 have ef:[f].flatMap fJ=fJ f:=by simp
 rcases h with⟨rfl,rfl⟩|⟨b,hg⟩
 ·obtain⟨N,h1,rfl⟩:=append_nil (T:=tb) (k:=6) aBa rfl nL rfl hs (by omega) ⟨by simp only;omega,by omega⟩
  refine⟨_,_,h1,.inr ⟨M.next+1,rfl,by simp,by simp[eI],?_⟩,⟨hw1.new _,by show M.next≤M.next+1+1;omega,fun c hc _=>?_,fun c hc=> .inl (by rw[← hc.2];exact Nat.le_succ _)⟩,fun c hc=>by rw[← hc.2];exact Nat.le_succ _⟩
  ·rw[List.nil_append,ef,aC.get_new,if_pos (by rfl)]
  ·rw[aC.get_new,if_neg (by show c≠M.next+1;omega),aC.get_new,if_neg (by omega)]
 ·have hbM:=hw _ _ hg.2.2.2
  have hg1:oL 6 (M.new (.cells (fJ f) true)) x l.length (l.flatMap fJ) b:=⟨hg.1,hg.2.1,hg.2.2.1,by rw[aC.get_new,if_neg (by omega)];exact hg.2.2.2⟩
  obtain⟨N,h1,rfl⟩:=iC (T:=tb) (k:=6) aBa rfl nL rfl hg1 hs (by omega) (zF f) ⟨by simp only;omega,by omega⟩
  refine⟨_,_,h1,.inr ⟨M.next+1,by simp,by simp,?_,?_⟩,⟨(hw1.kill _).new _,by show M.next≤M.next+1+1;omega,fun c hc hn=>?_,fun c hc=> .inl (by rw[← hc.2];exact Nat.le_succ _)⟩,fun c hc=>by rw[← hc.2];exact Nat.le_succ _⟩
  ·rw[cA eI]
  ·rw[aC.get_new,if_pos (by rfl),List.flatMap_append,ef]
  ·have hcb:c≠b:=fun he=>hn (by rw[he,hg.1];exact⟨by have:=hg.2.1;omega,rfl⟩)
   rw[aC.get_new,if_neg (by show c≠M.next+1;omega),aC.get_kill,if_neg hcb,aC.get_new,if_neg (by omega)]
theorem jQ.len{M M':aC}{x:AV}{l:List Fd}(h:jQ M x l):bD tb false 111 x M'=some l.length:=aO.len h aBa rfl
structure aFf (C:aQ):Prop where
 off:C.off=false
 turn:C.turn=0
 cuts:C.cuts=0
theorem aFf.bg{C:aQ}(h:aFf C):bgn C=false∧sA C={ C with ops:=aM .i64 C.ops 1 }∧aFf (sA C):=by
 have h1:bgn C=false:=by unfold bgn;rw[h.turn];rfl
 have h2:sA C={ C with ops:=aM .i64 C.ops 1 }:=by unfold sA;rw[h1];rfl
 exact⟨h1,h2,by rw[h2];exact⟨h.off,h.turn,h.cuts⟩⟩
def pgI(C:aQ)(i:Nat):List (BitVec 8):=match C.bs[nE C.g i]? with|some B=>jD B (aV C.g) (nA C.g i)|none=>[]
theorem aMS{C:aQ}(h:aFf C){i:Nat}(hm:dV C.g=true)(hi:i<nP C.g):zG C (nE C.g i) (nA C.g i)=0∧rdB C (nE C.g i) (nA C.g i)=pgI C i∧aFf (yO C (nE C.g i) (nA C.g i)):=by
 obtain⟨h1,h2,h3⟩:=h.bg
 obtain⟨hp,_⟩:=aKv hm hi
 have ha:lZ C (nE C.g i) (nA C.g i)=0:=by unfold lZ;rw[h.off,hp];rfl
 have he:zG C (nE C.g i) (nA C.g i)=0:=by unfold zG;rw[ha,if_pos rfl,h1];rfl
 refine⟨he,?_,by unfold yO;rw[if_pos ha];exact h3⟩
 unfold rdB
 rw[if_pos he,Int.toNat_natCast,Int.toNat_natCast]
 rfl
theorem aKo{C C':aQ}(hg:C'.g=C.g)(hb:C'.bs=C.bs)(i:Nat):pgI C' i=pgI C i:=by
 unfold pgI;rw[hg,hb]
theorem aEE{n:Nat}(h1:40≤n)(h2:n≤80):gM (List.replicate n 255#8)=0:=by
 unfold gM yD
 rw[List.length_replicate,decide_eq_true ⟨h1,h2⟩,if_pos rfl]
 have:qJ (List.replicate n 255#8)=true:=by
  unfold qJ
  rw[List.all_eq_true]
  intro b hb
  rw[List.eq_of_mem_replicate hb];rfl
 rw[if_pos this]
theorem yC{M:aC}{b o n:Nat}{cs:List AV}(h:M.cellsAt b o n=some cs){j m:Nat}(hjm:j+m≤n):M.cellsAt b (o+j) m=some ((cs.drop j).take m):=by
 unfold aC.cellsAt at h ⊢
 split at h
 ·rename_i ds rw' hg
  rw[cond_eq_ite] at h
  split at h
  ·rename_i hle
   have hle:=Nat.le_of_ble_eq_true hle
   injection h with h
   rw[ble_of (show o+j+m≤ds.length by omega),cond_true,← h]
   rw[List.drop_take,List.take_take,List.drop_drop,Nat.min_eq_left (by omega)]
  ·cases h
 ·cases h
theorem aCo{M:aC}{b o n:Nat}{cs:List AV}(h:M.cellsAt b o n=some cs){j:Nat}{v:AV}(hj:j<n)(hv:cs[j]? =some v):M.cellAt b (o+j)=some v:=by
 unfold aC.cellsAt at h
 unfold aC.cellAt
 split at h
 ·rename_i ds rw' hg
  rw[cond_eq_ite] at h
  split at h
  ·rename_i hle
   have hle:=Nat.le_of_ble_eq_true hle
   injection h with h
   rw[← h,List.getElem?_take,if_pos hj,List.getElem?_drop] at hv
   exact hv
  ·cases h
 ·cases h
theorem jQ.all{M:aC}{x:AV}{l:List Fd}(h:jQ M x l){i:Nat}(hi:i<l.length):
 ∃ b o,(∀ N,bU tb 111 x (.val (.int .i64 (i:Int))) N=some (.ptr b o,N))∧aH tb 115 (.ptr b o) M=some (.agg (fJ l[i]),M)∧aH tb 3 (.ptr b o) M=some (.val (.int .i64 l[i].b),M)∧aH tb 101 (.ptr b o) M=some (bB l[i].b l[i].k,M)∧aH tb 106 (.ptr b (o+2)) M=some (tgA l[i].t,M):=by
 obtain⟨b,o,g1,_,g3,g4⟩:=aO.at h aBa rfl nL rfl hi (k':= .i64)
 rw[rL eI hi] at g4
 refine⟨b,o,fun N=>bH g1,aS ?_,aS ?_,aS ?_,aS ?_⟩
 ·unfold aY
  rw[nL]
  simp only[TI.isAgg,cond_true,g4,Option.map_some]
 ·unfold aY
  rw[dX]
  simp only[TI.isAgg,cond_false]
  have:=aCo g4 (j:=0) (v:=i64 l[i].b) (by omega) rfl
  rw[Nat.add_zero] at this
  exact this
 ·unfold aY
  rw[pR]
  simp only[TI.isAgg,cond_true]
  have:=yC g4 (j:=0) (m:=2) (by omega)
  rw[Nat.add_zero] at this
  rw[this];rfl
 ·unfold aY
  rw[xM]
  simp only[TI.isAgg,cond_true]
  have:=yC g4 (j:=2) (m:=4) (by omega)
  rw[this];rfl
theorem aJb:tb.ty.get 143=some ⟨.sli 4,1,24,[.slice none 0 0],none⟩:=by kernel_rfl
abbrev bv(b:Bool):AV:= .val (.bool b)
def lV(M:aC)(x:AV)(vs:List AV):Prop:=aO 1 M x vs.length vs
def nK(M:aC)(x:AV)(vs:List AV):Prop:=(x= .val (.slice none 0 0)∧vs=[])∨∃ b,oL 1 M x vs.length vs b
theorem nK.at{M:aC}{x:AV}{l:List AV}(h:nK M x l):lV M x l:=by
 rcases h with⟨rfl,rfl⟩|⟨b,h⟩
 ·exact aO.nil
 ·exact h.at
theorem nK.mono{M N:aC}{x:AV}{l:List AV}(h:nK M x l)(hk:∀ c r,aN x c→M.get c=some r→N.get c=some r):nK N x l:=by
 rcases h with h|⟨b,h1,h2,h3,h4⟩
 ·exact .inl h
 ·exact .inr ⟨b,h1,h2,h3,hk b _ (by rw[h1];exact⟨by omega,rfl⟩) h4⟩
theorem nK.keep0{M N:aC}{x:AV}{l:List AV}(h:nK M x l)(hw:M.WF)(hk:aD M N []):nK N x l:=h.mono fun c r _ hr=>hk.get hw hr (by simp)
theorem nK.grow{t e:TypeId}{te:TI}(ht:tb.ty.get t=some ⟨.sli e,1,24,[.slice none 0 0],none⟩)(he:tb.ty.get e=some te)(hs:te.size=1)(hbt:te.bytes≤8){M:aC}{x:AV}{l:List AV}(hw:M.WF)(h:nK M x l)(v:AV)(hv:v.one=true)(hb:l.length≤10000):
 ∃ x' N,aR tb t t x (.sl M.next 0 1 1 none) (M.new (.cells [v] true))=some (x',N)∧nK N x' (l++[v])∧eZ M N x x'∧∀ c,aN x' c→M.next≤c:=by
 have hw1:=hw.new (.cells [v] true)
 have hsl:aO 1 (M.new (.cells [v] true)) (.sl M.next 0 1 1 none) 1 [v]:=⟨rfl,.inr ⟨_,_,_,_,rfl,⟨Nat.le_refl _,.inl rfl⟩,.inr ⟨_,_,get_new _ _,by simp,by simp⟩⟩⟩
 have hroom:∀ n,n≤20000→(3*n+4096)*te.bytes≤281474976710656:=fun n hn=>by
  have:(3*n+4096)*te.bytes≤(3*20000+4096)*8:=Nat.mul_le_mul (by omega) hbt
  omega
 rcases h with⟨rfl,rfl⟩|⟨b,hg⟩
 ·obtain⟨N,h1,rfl⟩:=append_nil (T:=tb) (k:=1) ht rfl he hs hsl (by omega) ⟨hroom 1 (by omega),by omega⟩
  refine⟨_,_,h1,.inr ⟨M.next+1,rfl,by simp,by simp,?_⟩,⟨hw1.new _,by show M.next≤M.next+1+1;omega,fun c hc _=>?_,fun c hc=> .inl (by rw[← hc.2];exact Nat.le_succ _)⟩,fun c hc=>by rw[← hc.2];exact Nat.le_succ _⟩
  ·rw[List.nil_append,aC.get_new,if_pos (by rfl)]
  ·rw[aC.get_new,if_neg (by show c≠M.next+1;omega),aC.get_new,if_neg (by omega)]
 ·have hbM:=hw _ _ hg.2.2.2
  have hg1:oL 1 (M.new (.cells [v] true)) x l.length l b:=⟨hg.1,hg.2.1,hg.2.2.1,by rw[aC.get_new,if_neg (by omega)];exact hg.2.2.2⟩
  obtain⟨N,h1,rfl⟩:=iC (T:=tb) (k:=1) ht rfl he hs hg1 hsl (by omega) (fun u hu=>by rw[List.mem_singleton.1 hu];exact hv) ⟨hroom _ (by omega),by omega⟩
  refine⟨_,_,h1,.inr ⟨M.next+1,by simp,by simp,by simp,?_⟩,⟨(hw1.kill _).new _,by show M.next≤M.next+1+1;omega,fun c hc hn=>?_,fun c hc=> .inl (by rw[← hc.2];exact Nat.le_succ _)⟩,fun c hc=>by rw[← hc.2];exact Nat.le_succ _⟩
  ·rw[aC.get_new,if_pos (by rfl)]
  ·have hcb:c≠b:=fun he=>hn (by rw[he,hg.1];exact⟨by have:=hg.2.1;omega,rfl⟩)
   rw[aC.get_new,if_neg (by show c≠M.next+1;omega),aC.get_kill,if_neg hcb,aC.get_new,if_neg (by omega)]
theorem lV.one{t e:TypeId}{te:TI}(ht:tb.ty.get t=some ⟨.sli e,1,24,[.slice none 0 0],none⟩)(he:tb.ty.get e=some te)(hs:te.size=1)(ha:te.isAgg=false){M:aC}{x:AV}{l:List AV}(h:lV M x l){i:Nat}(hi:i<l.length):
 ∃ b o,(∀ N,bU tb t x (.val (.int .i64 (i:Int))) N=some (.ptr b o,N))∧aN x b∧aH tb e (.ptr b o) M=some (l[i],M):=by
 obtain⟨b,o,h1,h0,h2,_⟩:=aO.at h ht rfl he hs hi (k':= .i64)
 refine⟨b,o,fun N=>bH h1,h0,aS ?_⟩
 unfold aY
 rw[he]
 have:=h2 0 (by omega)
 simp only[ha,cond_false]
 rw[Nat.add_zero,Nat.mul_one,Nat.add_zero,List.getElem?_eq_getElem hi] at this
 exact this
def pK(lt:Int→Int→Bool)(ws:List Int)(gd:List Bool):Nat→Int
 | 0=> -1
 | i+1=>if gd.getD i false=true then (if pK lt ws gd i<0 then (i:Int) else if lt (ws.getD i 0) (ws.getD (pK lt ws gd i).toNat 0)=true then (i:Int) else pK lt ws gd i) else pK lt ws gd i
theorem tO(lt:Int→Int→Bool)(ws:List Int)(gd:List Bool):∀ i:Nat, -1≤pK lt ws gd i∧pK lt ws gd i<(i:Int)
 | 0=>⟨by unfold pK;omega,by unfold pK;omega⟩
 | i+1=>by
   have ih:=tO lt ws gd i
   unfold pK
   split
   ·split
    ·omega
    ·split <;> omega
   ·omega
theorem aCR(lt:Int→Int→Bool)(ws:List Int)(gd:List Bool):∀ i:Nat,pK lt ws gd i<0↔∀ k,k<i→gd.getD k false=false
 | 0=>⟨fun _ k hk=>by omega,fun _=>by unfold pK;omega⟩
 | i+1=>by
   have ih:=aCR lt ws gd i
   unfold pK
   constructor
   ·intro h k hk
    split at h
    ·split at h
     ·omega
     ·split at h <;> omega
    ·by_cases hki:k=i
     ·subst hki;cases hg:gd.getD k false
      ·rfl
      ·rename_i q;exact absurd hg q
     ·exact ih.1 h k (by omega)
   ·intro h
    rw[if_neg (by rw[h i (by omega)];simp)]
    exact ih.2 fun k hk=>h k (by omega)
def aNv(ws:List Int)(gd:List Bool):Int:=
 if pK (fun a b=>decide (a<b)) ws gd ws.length<0 then 0 else aW .i64 (ws.getD (pK (fun a b=>decide (a>b)) ws gd ws.length).toNat 0) (ws.getD (pK (fun a b=>decide (a<b)) ws gd ws.length).toNat 0)
theorem nM{M:aC}{x:AV}{ws:List Int}(h:lV M x (ws.map i64)){i:Nat}(hi:i<ws.length):
 ∃ b o,(∀ N,bU tb 48 x (.val (.int .i64 (i:Int))) N=some (.ptr b o,N))∧aN x b∧aH tb 3 (.ptr b o) M=some (.val (.int .i64 (ws.getD i 0)),M):=by
 obtain⟨b,o,h1,h2,h3⟩:=h.one uY dX rfl rfl (i:=i) (by rw[List.length_map];exact hi)
 refine⟨b,o,h1,h2,?_⟩
 rw[h3,List.getElem_map,List.getD_eq_getElem?_getD,List.getElem?_eq_getElem hi]
 rfl
theorem vB{M:aC}{x:AV}{gd:List Bool}(h:lV M x (gd.map bv)){i:Nat}(hi:i<gd.length):
 ∃ b o,(∀ N,bU tb 143 x (.val (.int .i64 (i:Int))) N=some (.ptr b o,N))∧aN x b∧aH tb 4 (.ptr b o) M=some (.val (.bool (gd.getD i false)),M):=by
 obtain⟨b,o,h1,h2,h3⟩:=h.one aJb ty4 rfl rfl (i:=i) (by rw[List.length_map];exact hi)
 refine⟨b,o,h1,h2,?_⟩
 rw[h3,List.getElem_map,List.getD_eq_getElem?_getD,List.getElem?_eq_getElem hi]
 rfl
theorem rA{M:aC}{x:AV}{ws:List Int}(h:lV M x (ws.map i64)):cE tb false 48 x M=some (.val (.int .i64 (ws.length:Int)),M):=by
 have:=iO (T:=tb) (t:=48) (M:=M) (aO.len h uY rfl)
 rw[List.length_map] at this
 exact this
theorem rV{M:aC}{x:AV}{gd:List Bool}(h:lV M x (gd.map bv)):cE tb false 143 x M=some (.val (.int .i64 (gd.length:Int)),M):=by
 have:=iO (T:=tb) (t:=143) (M:=M) (aO.len h aJb rfl)
 rw[List.length_map] at this
 exact this
theorem aI7(M:aC)(x z:AV)(ws:List Int)(gd:List Bool)(hx:lV M x (ws.map i64))(hz:lV M z (gd.map bv))(hl:gd.length=ws.length)(i:Nat)(hi:i<ws.length):
 aB tb.P 180 [x,z,i64 (i:Int)] M fun y N=>y= .val (.bool (gd.getD i false))∧N=M:=by
 refine aMQ ?_
 unfold F180
 simp only[i64,aJ]
 refine bE fun K hK=>?_
 refine aG (rA hx) ?_
 simp only[aJ]
 rw[decide_eq_true (by omega:(i:Int)<(ws.length:Int)),jF]
 refine aG (rV hz) ?_
 simp only[aJ]
 rw[decide_eq_true (by omega:(i:Int)<(gd.length:Int)),jF]
 obtain⟨b,o,h1,_,h3⟩:=vB hz (i:=i) (by omega)
 refine aG (h1 M) ?_
 simp only[bV]
 refine aG h3 ?_
 simp only[cO]
 rw[hK]
 exact⟨by trivial,by trivial⟩
theorem aFX(M:aC)(x z f:AV)(lt:Int→Int→Bool)(hf:∀ (a b:Int) (N:aC) (K:AV→aC→Prop),K (.val (.bool (lt a b))) N→eD tb f [.val (.int .i64 a),.val (.int .i64 b)] N K)
 (ws:List Int) (gd:List Bool) (hx:lV M x (ws.map i64)) (hz:lV M z (gd.map bv)) (hl:gd.length=ws.length) (hb:ws.length≤10000):
 aB tb.P 141 [x,z,f] M fun y N=>y=i64 (pK lt ws gd ws.length)∧N=M:=by
 refine aNT ?_
 unfold F141
 refine aG (rA hx) ?_
 simp only[aJ]
 refine⟨fun a i n P=>∃ j:Nat,a=pK lt ws gd j∧i=j∧n=ws.length-j∧j≤ws.length∧P=M,⟨ws.length,0,rfl,rfl,rfl,Nat.zero_le _,rfl⟩,?_⟩
 rintro _ a i n P ⟨j,rfl,rfl,rfl,hj,rfl⟩
 obtain⟨b1,b2⟩:=tO lt ws gd j
 refine aT (fun hlt=>?_) (fun hge=>?_)
 ·have hlt:j<ws.length:=Int.ofNat_lt.1 (of_decide_eq_true hlt)
  refine bE fun K30 hK30=>?_
  refine bE fun K27 hK27=>?_
  have tak:pK lt ws gd (j+1)=(j:Int)→K30 j P:=fun e=>by
   rw[hK30]
   exact⟨ws.length-(j+1),by omega,j+1,e.symm,dE (by omega),rfl,hlt,by trivial⟩
  have not:pK lt ws gd (j+1)=pK lt ws gd j→K30 (pK lt ws gd j) P:=fun e=>by
   rw[hK30]
   exact⟨ws.length-(j+1),by omega,j+1,e.symm,dE (by omega),rfl,hlt,by trivial⟩
  have tak:pK lt ws gd (j+1)=(j:Int)→K27 true P:=fun e=>by rw[hK27];exact tak e
  have not:pK lt ws gd (j+1)=pK lt ws gd j→K27 false P:=fun e=>by rw[hK27];exact not e
  clear hK27 hK30
  refine (aI7 P x z ws gd hx hz hl j hlt).mono ?_
  rintro y M10 ⟨rfl,rfl⟩
  simp only[cO]
  cases hg:gd.getD j false with
  | false=>
    simp only[fG]
    exact not (by rw[pK,if_neg (by rw[hg];simp)])
  | true=>
    simp only[jF]
    refine aT (fun hneg=>?_) (fun hpos=>?_)
    ·have hneg:pK lt ws gd j<0:=of_decide_eq_true hneg
     exact tak (by rw[pK,if_pos hg,if_pos hneg])
    ·have hpos:¬ pK lt ws gd j<0:=of_decide_eq_false hpos
     obtain⟨k,hk⟩:∃ k:Nat,pK lt ws gd j=k:=⟨(pK lt ws gd j).toNat,by omega⟩
     obtain⟨c1,o1,f1,_,f3⟩:=nM hx hlt
     obtain⟨c2,o2,g1,_,g3⟩:=nM hx (i:=k) (by omega)
     refine aG (f1 M10) ?_
     simp only[bV]
     rw[hk]
     refine aG (g1 M10) ?_
     simp only[bV]
     refine aG f3 ?_
     simp only[aJ]
     refine aG g3 ?_
     simp only[aJ]
     refine hf _ _ _ _ ?_
     simp only[cO]
     have hstep:pK lt ws gd (j+1)=if lt (ws.getD j 0) (ws.getD k 0)=true then (j:Int) else (k:Int):=by
      rw[pK,if_pos hg,if_neg hpos,hk,Int.toNat_natCast]
     cases hlt':lt (ws.getD j 0) (ws.getD k 0) with
     | true=>exact tak (by rw[hstep,if_pos hlt'])
     | false=>exact not (by rw[hstep,if_neg (by rw[hlt'];simp),hk])
 ·have hge:j=ws.length:=by have:¬ (j:Int)<ws.length:=of_decide_eq_false hge
                           omega
  subst hge
  exact⟨by trivial,by trivial⟩
theorem aGv(a b:Int)(N:aC)(K:AV→aC→Prop)(h:K (.val (.bool (decide (a<b)))) N):eD tb (.fn 142 [] []) [.val (.int .i64 a),.val (.int .i64 b)] N K:=by
 unfold eD
 simp only[dA]
 rw[aRT,eM]
 refine aMJ ?_
 unfold F142
 simp only[aJ]
 exact h
theorem aL9(a b:Int)(N:aC)(K:AV→aC→Prop)(h:K (.val (.bool (decide (a>b)))) N):eD tb (.fn 196 [] []) [.val (.int .i64 a),.val (.int .i64 b)] N K:=by
 unfold eD
 simp only[dA]
 rw[aR3,eM]
 refine aLH ?_
 unfold F196
 simp only[aJ]
 exact h
theorem aJE(M:aC)(x z:AV)(ws:List Int)(gd:List Bool)(hx:lV M x (ws.map i64))(hz:lV M z (gd.map bv))(hl:gd.length=ws.length)(hb:ws.length≤10000):
 aB tb.P 138 [x,z] M fun y N=>y=i64 (aNv ws gd)∧N=M:=by
 refine aLC ?_
 unfold F138
 have least:aB tb.P 116 [x,z] M fun y N=>y=i64 (pK (fun a b=>decide (a<b)) ws gd ws.length)∧N=M:=by
  refine aHr ?_
  unfold F116
  refine (aFX M x z _ (fun a b=>decide (a<b)) aGv ws gd hx hz hl hb).mono ?_
  rintro y N ⟨rfl,rfl⟩
  simp only[i64,aJ]
  exact⟨by trivial,by trivial⟩
 have most:aB tb.P 178 [x,z] M fun y N=>y=i64 (pK (fun a b=>decide (a>b)) ws gd ws.length)∧N=M:=by
  refine aMZ ?_
  unfold F178
  refine (aFX M x z _ (fun a b=>decide (a>b)) aL9 ws gd hx hz hl hb).mono ?_
  rintro y N ⟨rfl,rfl⟩
  simp only[i64,aJ]
  exact⟨by trivial,by trivial⟩
 refine least.mono ?_
 rintro y N ⟨rfl,rfl⟩
 simp only[i64,aJ]
 refine most.mono ?_
 rintro y N' ⟨rfl,rfl⟩
 simp only[i64,aJ]
 clear least most
 have n1:=aCR (fun a b=>decide (a<b)) ws gd ws.length
 have n2:=aCR (fun a b=>decide (a>b)) ws gd ws.length
 have b1:=tO (fun a b=>decide (a<b)) ws gd ws.length
 have b2:=tO (fun a b=>decide (a>b)) ws gd ws.length
 unfold aNv
 have n3:=n1.trans n2.symm
 generalize pK (fun a b=>decide (a<b)) ws gd ws.length=u at*
 generalize pK (fun a b=>decide (a>b)) ws gd ws.length=v at*
 refine aT (fun h=>?_) (fun h=>?_)
 ·exact⟨by rw[if_pos (of_decide_eq_true h)],by trivial⟩
 ·have h:¬ u<0:=of_decide_eq_false h
  have h':¬ v<0:=fun hv=>h (n3.2 hv)
  obtain⟨i,rfl⟩:∃ i:Nat,u=i:=⟨u.toNat,by omega⟩
  obtain⟨j,rfl⟩:∃ j:Nat,v=j:=⟨v.toNat,by omega⟩
  obtain⟨c1,o1,f1,_,f3⟩:=nM hx (i:=i) (by omega)
  obtain⟨c2,o2,g1,_,g3⟩:=nM hx (i:=j) (by omega)
  refine aG (g1 N') ?_
  simp only[bV]
  refine aG (f1 N') ?_
  simp only[bV]
  refine aG g3 ?_
  simp only[aJ]
  refine aG f3 ?_
  simp only[aJ]
  exact⟨by rw[if_neg h,Int.toNat_natCast,Int.toNat_natCast],by trivial⟩
theorem aIz:tb.ty.get 97=some ⟨.mp 3 4,1,8,[.map none],none⟩:=by kernel_rfl
def mE(l:List Int):List (AV×AV):=l.map fun s=>(i64 s,bv true)
theorem aGs(s:Int):∀ (l:List Int) (o:Nat),s∈l→∃ i k,eN tb 3 (i64 s) (mE l) o=some (some (i,k,bv true))
 | [],_,h=>by simp at h
 | a::l,o,h=>by
   show ∃ i k,(match eqA tb 60 3 (i64 s) (i64 a) with|some true=>some (some (o,i64 a,bv true))|some false=>eN tb 3 (i64 s) (mE l) (o+1)|none=>none)=_
   rw[yZ]
   cases hb:s==a with
   | true=>exact⟨_,_,rfl⟩
   | false=>
     have hne:¬ s=a:=by intro e;rw[e] at hb;simp at hb
     exact aGs s l (o+1) (by simpa[hne] using h)
theorem aEI(s:Int):∀ (l:List Int) (o:Nat),s∉l→eN tb 3 (i64 s) (mE l) o=some none
 | [],_,_=>rfl
 | a::l,o,h=>by
   show (match eqA tb 60 3 (i64 s) (i64 a) with|some true=>some (some (o,i64 a,bv true))|some false=>eN tb 3 (i64 s) (mE l) (o+1)|none=>none)=_
   rw[yZ]
   have hne:¬ s=a:=fun e=>h (by simp[e])
   have hb:(s==a)=false:=by simpa using hne
   rw[hb]
   exact aEI s l (o+1) (fun hm=>h (by simp[hm]))
theorem aIQ{M:aC}{b:Nat}{l:List Int}(hg:M.get b=some (.map (mE l)))(s:Int):fT tb 97 (.map b) (i64 s) false M=some (bv (decide (s∈l))):=by
 unfold fT
 rw[aIz]
 simp only
 rw[dX,ty4]
 have he:gX M (.map b)=some (mE l):=by unfold gX;simp only;rw[hg]
 rw[he]
 have hk:gR tb 60 3 (i64 s)=true:=by unfold gR;rw[dX]
 simp only[hk,cond_true]
 by_cases hm:s∈l
 ·obtain⟨i,k,h⟩:=aGs s l 0 hm
  rw[h,decide_eq_true hm];rfl
 ·rw[aEI s l 0 hm,decide_eq_false hm];rfl
open Go.RowKit Go.Maps Go.Sort Go.Shelf Go.Proofs
def Tryz.keysA_ren:Go.Shelf.Ren:=⟨fun|7=>94|10=>124|n=>n,fun|23=>133|26=>3|3=>115|28=>90|0=>0|27=>89|33=>104|4=>4|n=>n,fun|n=>n⟩
def Tryz.keysB_ren:Go.Shelf.Ren:=⟨fun|7=>56|10=>84|n=>n,fun|23=>75|26=>3|3=>25|28=>90|0=>0|27=>89|33=>104|4=>4|n=>n,fun|n=>n⟩
def Tryz.keysC_ren:Go.Shelf.Ren:=⟨fun|7=>72|10=>104|n=>n,fun|23=>117|26=>3|3=>3|28=>90|0=>0|27=>89|33=>104|4=>4|n=>n,fun|n=>n⟩
def Tryz.sortedA_ren:Go.Shelf.Ren:=⟨fun|6=>55|8=>82|9=>83|11=>117|13=>119|12=>118|23=>152|24=>153|14=>143|15=>144|16=>145|17=>146|18=>147|19=>148|20=>149|21=>150|22=>151|25=>181|26=>182|27=>183|28=>184|29=>185|30=>126|31=>197|n=>n,fun|26=>3|28=>90|24=>48|0=>0|3=>3|37=>74|48=>123|50=>126|4=>4|40=>174|39=>173|45=>168|5=>5|9=>9|51=>200|55=>204|57=>213|58=>214|33=>104|n=>n,fun|n=>n⟩
def Tryz.sortA_ren:Go.Shelf.Ren:=⟨fun|5=>83|8=>119|7=>118|19=>152|20=>153|10=>143|11=>144|12=>145|13=>146|14=>147|15=>148|16=>149|17=>150|18=>151|30=>181|31=>182|32=>183|33=>184|34=>185|35=>126|40=>197|n=>n,fun|23=>48|25=>3|3=>3|32=>74|22=>48|0=>0|44=>123|46=>126|4=>4|36=>174|35=>173|41=>168|5=>5|9=>9|53=>200|57=>204|63=>213|64=>214|n=>n,fun|n=>n⟩
theorem Tryz.keysA:SlLaysZI.n7 Tryz.prog Tryz.keysA_ren:={
 mixed:=by kernel_rfl
 f7:=⟨Tryz.f94.name,by decide,Tryz.func94.trans (congrArg some (by kernel_rfl))⟩
 f10:=⟨Tryz.f124.name,by decide,Tryz.func124.trans (congrArg some (by kernel_rfl))⟩
 t0:=Tryz.underlying0
 a0:=Tryz.isAgg0
 z0:=Tryz.sizeOf0
 v0:=Tryz.zeroValue0
 t4:=Tryz.underlying4
 a4:=Tryz.isAgg4
 z4:=Tryz.sizeOf4
 v4:=Tryz.zeroValue4
 t23:=Tryz.underlying133
 a23:=Tryz.isAgg133
 z23:=Tryz.sizeOf133
 v23:=Tryz.zeroValue133
 t26:=Tryz.underlying3
 a26:=Tryz.isAgg3
 z26:=Tryz.sizeOf3
 v26:=Tryz.zeroValue3
 t27:=Tryz.underlying89
 a27:=Tryz.isAgg89
 z27:=Tryz.sizeOf89
 v27:=Tryz.zeroValue89
 t28:=Tryz.underlying90
 a28:=Tryz.isAgg90
 z28:=Tryz.sizeOf90
 v28:=Tryz.zeroValue90
 t33:=Tryz.underlying104
 a33:=Tryz.isAgg104
 z33:=Tryz.sizeOf104
 v33:=Tryz.zeroValue104 }
theorem Tryz.keysB:SlLaysZI.n7 Tryz.prog Tryz.keysB_ren:={
 mixed:=by kernel_rfl
 f7:=⟨Tryz.f56.name,by decide,Tryz.func56.trans (congrArg some (by kernel_rfl))⟩
 f10:=⟨Tryz.f84.name,by decide,Tryz.func84.trans (congrArg some (by kernel_rfl))⟩
 t0:=Tryz.underlying0
 a0:=Tryz.isAgg0
 z0:=Tryz.sizeOf0
 v0:=Tryz.zeroValue0
 t4:=Tryz.underlying4
 a4:=Tryz.isAgg4
 z4:=Tryz.sizeOf4
 v4:=Tryz.zeroValue4
 t23:=Tryz.underlying75
 a23:=Tryz.isAgg75
 z23:=Tryz.sizeOf75
 v23:=Tryz.zeroValue75
 t26:=Tryz.underlying3
 a26:=Tryz.isAgg3
 z26:=Tryz.sizeOf3
 v26:=Tryz.zeroValue3
 t27:=Tryz.underlying89
 a27:=Tryz.isAgg89
 z27:=Tryz.sizeOf89
 v27:=Tryz.zeroValue89
 t28:=Tryz.underlying90
 a28:=Tryz.isAgg90
 z28:=Tryz.sizeOf90
 v28:=Tryz.zeroValue90
 t33:=Tryz.underlying104
 a33:=Tryz.isAgg104
 z33:=Tryz.sizeOf104
 v33:=Tryz.zeroValue104 }
theorem Tryz.keysC:SlLaysZI.n7 Tryz.prog Tryz.keysC_ren:={
 mixed:=by kernel_rfl
 f7:=⟨Tryz.f72.name,by decide,Tryz.func72.trans (congrArg some (by kernel_rfl))⟩
 f10:=⟨Tryz.f104.name,by decide,Tryz.func104.trans (congrArg some (by kernel_rfl))⟩
 t0:=Tryz.underlying0
 a0:=Tryz.isAgg0
 z0:=Tryz.sizeOf0
 v0:=Tryz.zeroValue0
 t4:=Tryz.underlying4
 a4:=Tryz.isAgg4
 z4:=Tryz.sizeOf4
 v4:=Tryz.zeroValue4
 t23:=Tryz.underlying117
 a23:=Tryz.isAgg117
 z23:=Tryz.sizeOf117
 v23:=Tryz.zeroValue117
 t26:=Tryz.underlying3
 a26:=Tryz.isAgg3
 z26:=Tryz.sizeOf3
 v26:=Tryz.zeroValue3
 t27:=Tryz.underlying89
 a27:=Tryz.isAgg89
 z27:=Tryz.sizeOf89
 v27:=Tryz.zeroValue89
 t28:=Tryz.underlying90
 a28:=Tryz.isAgg90
 z28:=Tryz.sizeOf90
 v28:=Tryz.zeroValue90
 t33:=Tryz.underlying104
 a33:=Tryz.isAgg104
 z33:=Tryz.sizeOf104
 v33:=Tryz.zeroValue104 }
theorem Tryz.sortedA:SlLaysZI.n6 Tryz.prog Tryz.sortedA_ren:={
 mixed:=by kernel_rfl
 f6:=⟨Tryz.f55.name,by decide,Tryz.func55.trans (congrArg some (by kernel_rfl))⟩
 f8:=⟨Tryz.f82.name,by decide,Tryz.func82.trans (congrArg some (by kernel_rfl))⟩
 f11:=⟨Tryz.f117.name,by decide,Tryz.func117.trans (congrArg some (by kernel_rfl))⟩
 t0:=Tryz.underlying0
 a0:=Tryz.isAgg0
 z0:=Tryz.sizeOf0
 v0:=Tryz.zeroValue0
 t24:=Tryz.underlying48
 a24:=Tryz.isAgg48
 z24:=Tryz.sizeOf48
 v24:=Tryz.zeroValue48
 t26:=Tryz.underlying3
 a26:=Tryz.isAgg3
 z26:=Tryz.sizeOf3
 v26:=Tryz.zeroValue3
 t28:=Tryz.underlying90
 a28:=Tryz.isAgg90
 z28:=Tryz.sizeOf90
 v28:=Tryz.zeroValue90
 i26:=by kernel_rfl }
theorem Tryz.sortA:SlLaysM.n5 Tryz.prog Tryz.sortA_ren:={
 mixed:=by kernel_rfl
 f5:=⟨Tryz.f83.name,by decide,Tryz.func83.trans (congrArg some (by kernel_rfl))⟩
 f7:=⟨Tryz.f118.name,by decide,Tryz.func118.trans (congrArg some (by kernel_rfl))⟩
 f8:=Tryz.func119.trans (congrArg some (by kernel_rfl))
 f10:=⟨Tryz.f143.name,by decide,Tryz.func143.trans (congrArg some (by kernel_rfl))⟩
 f11:=⟨Tryz.f144.name,by decide,Tryz.func144.trans (congrArg some (by kernel_rfl))⟩
 f12:=⟨Tryz.f145.name,by decide,Tryz.func145.trans (congrArg some (by kernel_rfl))⟩
 f13:=⟨Tryz.f146.name,by decide,Tryz.func146.trans (congrArg some (by kernel_rfl))⟩
 f14:=⟨Tryz.f147.name,by decide,Tryz.func147.trans (congrArg some (by kernel_rfl))⟩
 f15:=⟨Tryz.f148.name,by decide,Tryz.func148.trans (congrArg some (by kernel_rfl))⟩
 f16:=⟨Tryz.f149.name,by decide,Tryz.func149.trans (congrArg some (by kernel_rfl))⟩
 f17:=⟨Tryz.f150.name,by decide,Tryz.func150.trans (congrArg some (by kernel_rfl))⟩
 f18:=⟨Tryz.f151.name,by decide,Tryz.func151.trans (congrArg some (by kernel_rfl))⟩
 f19:=Tryz.func152.trans (congrArg some (by kernel_rfl))
 f20:=Tryz.func153.trans (congrArg some (by kernel_rfl))
 f30:=⟨Tryz.f181.name,by decide,Tryz.func181.trans (congrArg some (by kernel_rfl))⟩
 f31:=Tryz.func182.trans (congrArg some (by kernel_rfl))
 f32:=Tryz.func183.trans (congrArg some (by kernel_rfl))
 f33:=⟨Tryz.f184.name,by decide,Tryz.func184.trans (congrArg some (by kernel_rfl))⟩
 f34:=⟨Tryz.f185.name,by decide,Tryz.func185.trans (congrArg some (by kernel_rfl))⟩
 f35:=⟨Tryz.f126.name,by decide,Tryz.func126.trans (congrArg some (by kernel_rfl))⟩
 f40:=⟨Tryz.f197.name,by decide,Tryz.func197.trans (congrArg some (by kernel_rfl))⟩
 t0:=Tryz.underlying0
 a0:=Tryz.isAgg0
 z0:=Tryz.sizeOf0
 v0:=Tryz.zeroValue0
 t3:=Tryz.underlying3
 a3:=Tryz.isAgg3
 z3:=Tryz.sizeOf3
 v3:=Tryz.zeroValue3
 t4:=Tryz.underlying4
 a4:=Tryz.isAgg4
 z4:=Tryz.sizeOf4
 v4:=Tryz.zeroValue4
 t5:=Tryz.underlying5
 a5:=Tryz.isAgg5
 z5:=Tryz.sizeOf5
 v5:=Tryz.zeroValue5
 t9:=Tryz.underlying9
 a9:=Tryz.isAgg9
 z9:=Tryz.sizeOf9
 v9:=Tryz.zeroValue9
 t22:=Tryz.underlying48
 a22:=Tryz.isAgg48
 z22:=Tryz.sizeOf48
 v22:=Tryz.zeroValue48
 t23:=Tryz.underlying48
 a23:=Tryz.isAgg48
 z23:=Tryz.sizeOf48
 v23:=Tryz.zeroValue48
 t25:=Tryz.underlying3
 a25:=Tryz.isAgg3
 z25:=Tryz.sizeOf3
 v25:=Tryz.zeroValue3
 t32:=Tryz.underlying74
 a32:=Tryz.isAgg74
 z32:=Tryz.sizeOf74
 v32:=Tryz.zeroValue74
 t35:=Tryz.underlying173
 a35:=Tryz.isAgg173
 z35:=Tryz.sizeOf173
 v35:=Tryz.zeroValue173
 t36:=Tryz.underlying174
 a36:=Tryz.isAgg174
 z36:=Tryz.sizeOf174
 v36:=Tryz.zeroValue174
 t41:=Tryz.underlying168
 a41:=Tryz.isAgg168
 z41:=Tryz.sizeOf168
 v41:=Tryz.zeroValue168
 t44:=Tryz.underlying123
 a44:=Tryz.isAgg123
 z44:=Tryz.sizeOf123
 v44:=Tryz.zeroValue123
 t46:=Tryz.underlying126
 a46:=Tryz.isAgg126
 z46:=Tryz.sizeOf126
 v46:=Tryz.zeroValue126
 t53:=Tryz.underlying200
 a53:=Tryz.isAgg200
 z53:=Tryz.sizeOf200
 v53:=Tryz.zeroValue200
 t57:=Tryz.underlying204
 a57:=Tryz.isAgg204
 z57:=Tryz.sizeOf204
 v57:=Tryz.zeroValue204
 t63:=Tryz.underlying213
 a63:=Tryz.isAgg213
 z63:=Tryz.sizeOf213
 v63:=Tryz.zeroValue213
 t64:=Tryz.underlying214
 a64:=Tryz.isAgg214
 z64:=Tryz.sizeOf214
 v64:=Tryz.zeroValue214 }
theorem aPq(m:Nat):AnyZI.SortsIn Tryz.prog Tryz.sortedA_ren Fence.wide m:=
 ⟨fun blk off cap ss W hH hblk hsz=>callsIn_wide.2 (AnyM.slices_Sort_int Tryz.sortA blk off cap ss W hH hblk hsz),
  fun p cap W=>callsIn_wide.2 (AnyM.slices_Sort_int_none Tryz.sortA p cap W)⟩
structure xJ (c:FuncId):Prop where
 ent:Enters Tryz.prog c
 gives:∀ {H:Type} (q b nn:Nat) (D0:DataW H) (R:Value→Option (DataW H×List MemPlace)) (w:World),q<w.heap.size→w.cell? ⟨q,0,none⟩=some (.map (some b))→w.ownsMap Tryz.prog 3 R b nn D0→
  SeqGives Fence.wide 2 Tryz.prog c #[.pointer (some ⟨q,0,none⟩)] encZ (fun ss=>ss.Perm (intKeys D0)) (Maps.size D0) w
theorem aNC:xJ 124:=⟨enters_of Tryz.func124 (by kernel_rfl) rfl,fun q b nn D0 R w hq hcell hown=>AnyZI.keys_gives (ρ:=Tryz.keysA_ren) { Tryz.keysA with } Fence.wide _ trivial rfl (by omega) q b nn D0 _ hq hcell hown⟩
theorem aPv:xJ 84:=⟨enters_of Tryz.func84 (by kernel_rfl) rfl,fun q b nn D0 R w hq hcell hown=>AnyZI.keys_gives (ρ:=Tryz.keysB_ren) { Tryz.keysB with } Fence.wide _ trivial rfl (by omega) q b nn D0 _ hq hcell hown⟩
theorem aL2:xJ 104:=⟨enters_of Tryz.func104 (by kernel_rfl) rfl,fun q b nn D0 R w hq hcell hown=>AnyZI.keys_gives (ρ:=Tryz.keysC_ren) { Tryz.keysC with } Fence.wide _ trivial rfl (by omega) q b nn D0 _ hq hcell hown⟩
set_option maxHeartbeats 1000000 in
theorem aCJ{c:FuncId}(hc:xJ c){H:Type}(q b nn:Nat)(D0:DataW H)(R:Value→Option (DataW H×List MemPlace))(w:World)(hq:q<w.heap.size)(hcell:w.cell? ⟨q,0,none⟩=some (.map (some b)))(hown:w.ownsMap Tryz.prog 3 R b nn D0)(hmax:Maps.size D0≤maxLen)(hbytes:Maps.size D0*8≤140737488355328):
 Calls Tryz.prog 55 #[.func (.func c) #[] #[.pointer (some ⟨q,0,none⟩)]] w fun e w'=>∃ (v:Value) (ss:List Int),e= .returned v∧ss.Perm (intKeys D0)∧
  w'.ownsRow w.heap.size 3 1 v ss.length ((ss.mergeSort (fun x y=>decide (x≤y))).map encZ)∧(v= .slice none 0 0↔ss=[])∧Below w.heap.size w w':=by
 refine (callsIn_wide (n:=5)).1 ?_
 have hseq:=hc.gives q b nn D0 R w hq hcell hown
 have cS:=AnyZI.sorted_in Tryz.sortedA Fence.wide 5 trivial trivial trivial trivial rfl (by omega) (aPq _) (enters_of Tryz.func83 (by kernel_rfl) rfl) c #[.pointer (some ⟨q,0,none⟩)] trivial hc.ent _ _ hmax hbytes _ hseq
 change CallsIn _ _ Tryz.prog 55 _ _ _ at cS
 exact cS.mono fun e w' ⟨v,ss,h1,h2,h3,h4,h5⟩=>⟨v,ss,h1,h2,h3,h4,h5⟩
open Go.RowKit Go.Maps Go.Sort Go.Shelf Go.Proofs Go.WideElems
def pU:Value→Option (DataW Unit×List MemPlace):=fun _=>some (.nil,[])
theorem aLL{z:Int}(hz: -9223372036854775808≤z∧z≤9223372036854775807):keyOf Tryz.prog 3 (.int .i64 z)=some (.int .i64 z):=by
 have hw:(Lit.int .i64 z).wf=true:=by
  simp only[Lit.wf,Bool.and_eq_true,decide_eq_true_eq]
  exact hz
 have hu:Tryz.prog.underlying 3=some (.int .i64):=Tryz.underlying3
 unfold keyOf
 rw[hu]
 simp only
 unfold mapKey
 rw[hu]
 simp[hw]
set_option maxRecDepth 100000 in
theorem xT{c:FuncId}(hkc:xJ c)(M:aC)(hw:M.WF)(q b:Nat)(rw':Bool)(es:List (AV×AV))(ks:List Int)(hq:M.get q=some (.cells [.map b] rw'))(hb:M.get b=some (.map es))(hes:es.map (·.1)=ks.map i64)(hnd:ks.Nodup)
 (hr:∀ k∈ks, -9223372036854775808≤k∧k≤9223372036854775807) (hlen:ks.length≤1000):
 aB tb.P 55 [.fn c [] [.ptr q 0]] M fun y N=>∃ ss:List Int,ss.Perm ks∧nK N y ((ss.mergeSort (fun x y=>decide (x≤y))).map i64)∧aD M N []∧∀ c,aN y c→M.next≤c:=by
 intro ι w vs hv R
 obtain⟨vl⟩:=vs
 cases hv with
 | cons _ v0 _ _ h1 h2=>
 cases h2
 cases h1 with
 | fn _ _ _ vf vc hf hc=>
 obtain⟨vfl⟩:=vf
 obtain⟨vcl⟩:=vc
 cases hf
 cases hc with
 | cons _ p0 _ _ h3 h4=>
 cases h4
 cases h3 with
 | ptr _ _ lq hlq=>
 have h0:lq.base=0:=R.bas _ _ hlq
 obtain⟨lb,hlb,hrowb⟩:=R.live b _ hb
 obtain⟨ms,clock,hob,hE,hbo⟩:=R.obj hb hlb
 obtain⟨u,hu,hvu⟩:=R.cell (b:=q) (o:=0) (x:= .map b) (by unfold aC.cellAt;rw[hq];rfl) hlq
 have hu':u= .map (some lb.blk):=by
  cases hvu with
  | map _ l hl=>rw[hlb] at hl;injection hl with hl;rw[hl]
 subst hu'
 rw[h0] at hu ⊢
 have hkeys:=hE.keys hes
 have hmsl:ms.toList.length=ks.length:=by
  have:=congrArg List.length hkeys
  simpa using this
 have hql:lq.blk<w.heap.size:=by
  obtain⟨l',k1,k2⟩:=R.live q _ hq
  rw[hlq] at k1;injection k1 with k1;subst k1
  exact vS k2
 have hml:(1000:Nat)≤maxLen:=by decide
 have hread:∀ x∈ms.toList,∃ z,x.key= .int .i64 z∧z∈ks∧rd Tryz.prog 3 pU x=some (.int .i64 z,.nil):=fun x hx=>by
  have:x.key∈ms.toList.map (·.key):=List.mem_map.2 ⟨x,hx,rfl⟩
  rw[hkeys] at this
  obtain⟨z,hz,hzx⟩:=List.mem_map.1 this
  refine⟨z,hzx.symm,hz,?_⟩
  unfold WideElems.rd
  rw[← hzx,aLL (hr z hz)]
  rfl
 have hfit:Fit Tryz.prog 3 pU ms clock:=⟨by rw[← Array.length_toList,hmsl];omega,⟨hbo.1,hbo.2,by rw[hkeys];exact (List.pairwise_map.2 (hnd.imp fun hne e=>hne (by injection e)))⟩,fun x hx=>by obtain⟨z,_,_,h⟩:=hread x hx;exact⟨_,h⟩⟩
 have hown:w.ownsMap Tryz.prog 3 pU lb.blk ms.size (.map ((ms.toList.map (rg Tryz.prog 3 pU)).foldr DataW.insert [])):=⟨ms,clock,hob,hfit,Nat.le_refl _,rfl⟩
 have hik:(intKeys (.map ((ms.toList.map (rg Tryz.prog 3 pU)).foldr DataW.insert [])):List Int).Perm ks:=by
  show ((((ms.toList.map (rg Tryz.prog 3 pU)).foldr DataW.insert []).map fun p=>Go.intOf p.1):List Int).Perm ks
  refine ((WideShapes.sorted_perm _).map _).trans ?_
  rw[List.map_map]
  have:ms.toList.map ((fun p=>Go.intOf p.1)∘rg Tryz.prog 3 pU)=ks:=by
   have h5:ms.toList.map ((fun p=>Go.intOf p.1)∘rg Tryz.prog 3 pU)=(ms.toList.map (·.key)).map (fun v=>match v with| .int _ z=>z|_=>0):=by
    rw[List.map_map]
    apply List.map_congr_left
    intro x hx
    obtain⟨z,h6,_,h7⟩:=hread x hx
    show Go.intOf (rg Tryz.prog 3 pU x).1=_
    rw[rg_of h7]
    show z=(match x.key with| .int _ z=>z|_=>0)
    rw[h6]
   rw[h5,hkeys,List.map_map]
   simp[Function.comp_def]
  rw[this]
 have hsz:Maps.size (.map ((ms.toList.map (rg Tryz.prog 3 pU)).foldr DataW.insert []):DataW Unit)=ks.length:=by
  show ((ms.toList.map (rg Tryz.prog 3 pU)).foldr DataW.insert []).length=_
  rw[length_sorted,List.length_map,hmsl]
 refine (aCJ hkc lq.blk lb.blk ms.size _ pU w hql hu hown (by rw[hsz];omega) (by rw[hsz];omega)).mono ?_
 rintro e w' ⟨v,ss,rfl,hperm,hrow,hnil,hbel⟩
 have hss:=hperm.trans hik
 have hlt:∀ k,lJ ι M k→k<w.heap.size:=fun k h=>h.lt R
 have S0:bR ι M w ι M w':=(bR.refl R).side (r:=w.heap.size) (Nat.le_refl _) (fun h=>absurd (hlt _ h) (Nat.lt_irrefl _)) hbel.size (fun k hk _=>hbel.block k hk) hbel.os hbel.tape hbel.output
 rcases hrow.2 with⟨rfl,hz⟩|⟨g,cap,cur,rfl,hg,hgo,hle,hcap,hcs,htk⟩
 ·have:ss=[]:=List.eq_nil_of_length_eq_zero hz
  subst this
  exact⟨ι,_,.val (.slice none 0 0),M,rfl,.val _ rfl,S0,[],hss,.inl ⟨rfl,by simp⟩,aD.refl hw,fun c hc=>hc.elim⟩
 ·have hne:ss≠[]:=fun e=>by have:=hnil.2 e;cases this
  have hpos:0<ss.length:=List.length_pos_iff.2 hne
  have hml:(ss.mergeSort (fun x y=>decide (x≤y))).length=ss.length:=List.length_mergeSort _
  rw[Nat.mul_one] at hcs htk
  have hrr:vA (fun c=>if c=M.next then some ⟨g,0,cur.size⟩ else ι c) ⟨g,0,cur.size⟩ (.cells ((ss.mergeSort (fun x y=>decide (x≤y))).map i64) true) (some (.cells cur 3 (0,0))):=by
   refine⟨rfl,by simp only[List.length_map,hml];omega,?_,fun _ k _=>by simp⟩
   simp only[List.drop_zero,List.length_map,hml]
   rw[htk]
   have:∀ l:List Int,VRs (fun c=>if c=M.next then some ⟨g,0,cur.size⟩ else ι c) (l.map i64) (l.map encZ):=fun l=>by
    induction l with
    | nil=>exact .nil
    | cons a l ih=>exact .cons _ _ _ _ (.val _ rfl) ih
   exact this _
  have S1:=bR.adopt S0 hg hgo hrr hlt
  refine⟨_,_,.sl M.next 0 ss.length ss.length (some 1),_,rfl,?_,S1,ss,hss,.inr ⟨M.next,by rw[List.length_map,hml],by rw[List.length_map,hml];exact hpos,by simp,by rw[aC.get_new,if_pos rfl]⟩,aD.new hw _,fun c hc=>by rw[← hc.2];exact Nat.le_refl _⟩
  exact VR.slI M.next 0 ss.length ss.length 1 cap ⟨g,0,cur.size⟩ (by simp) hle (by simp only;omega)
theorem nQ(M:aC)(a b:Int):aCK tb #[3,3] 3 [.int .i64 a,.int .i64 b] M=some (.val (.int .i64 (max a b)),M):=by
 unfold aCK
 have:nT tb.P (Builtin.max_ #[3,3] 3 ⟨[.int .i64 a,.int .i64 b]⟩)=some (.int .i64 (if b>a then b else a)):=rfl
 have hm:(if b>a then b else a)=max a b:=by
  rw[Int.max_def]
  split <;> split <;> omega
 rw[this,hm]
 rfl
def lD(l:List Fd):Nat→Int
 | 0=>0
 | i+1=>match l[i]? with
   | some f=>if f.t.k=3 then max (lD l i) f.t.e else lD l i
   | none=>lD l i
def cM(l:List Fd):Int:=lD l l.length
def nS(l:List Fd)(e:Int)(n:Nat):List Fd:=(l.take n).filter fun f=>decide (f.t.e>e)
theorem aDj{P:aC}{f:Fd}{K:AV×aC→Prop}(h:∀ N,N=P.new (.cells (fJ f) true)→K (eY,N)):∀ M,M=P.new (.cells [i64 0,i64 0,i64 0,i64 0,i64 0,i64 0] true)→aA (cL tb 115 (.ptr P.next 0) (.agg (fJ f)) M) K:=by
 intro M hM
 have hst:gT tb 115 (.ptr P.next 0) (.agg (fJ f)) M=some (M.put P.next (.cells (fJ f) true)):=by
  refine pP nL rfl (cs:=[i64 0,i64 0,i64 0,i64 0,i64 0,i64 0]) ?_ rfl (zF _)
  rw[hM];exact get_new _ _
 refine aG (oF hst) (h _ ?_)
 subst hM
 rw[aC.new_put]
theorem aE1(M:aC)(hw:M.WF)(x:AV)(l:List Fd)(hx:jQ M x l)(hl:l.length≤10000):aB tb.P 98 [x] M fun y N=>y=i64 (cM l)∧aD M N []:=by
 refine aQm ?_
 unfold F98
 refine aG (iO hx.len) ?_
 simp only[aJ]
 refine⟨fun a i n P=>∃ j:Nat,a=lD l j∧i=j∧n=l.length-j∧j≤l.length∧aD M P [],⟨l.length,0,rfl,rfl,rfl,Nat.zero_le _,aD.refl hw⟩,?_⟩
 rintro _ a i n P ⟨j,rfl,rfl,rfl,hj,hk⟩
 refine aT (fun hlt=>?_) (fun hge=>?_)
 ·have hlt:j<l.length:=Int.ofNat_lt.1 (of_decide_eq_true hlt)
  refine bE fun K29 hK29=>?_
  have hxP:jQ P x l:=aO.keep0 hx hw hk
  obtain⟨b,o,f1,f2,_⟩:=hxP.all hlt
  refine aG (f1 P) ?_
  simp only[bV]
  refine aG f2 ?_
  refine⟨_,_,_,_,_,_,rfl,?_⟩
  refine bE fun M19 hM19=>?_
  refine aDj (f:=l[j]) ?_ M19 hM19
  clear hM19 M19
  intro M20 hM20
  have hk20:aD P M20 []:=by rw[hM20];exact aD.new hk.wf _
  have hb20:M20.get P.next=some (.cells (fJ l[j]) true):=by rw[hM20];exact get_new _ _
  clear hM20
  have l2:aH tb 3 (.ptr P.next 2) M20=some (.val (.int .i64 l[j].t.k),M20):=aS (eB dX rfl hb20 rfl)
  have l5:aH tb 3 (.ptr P.next 5) M20=some (.val (.int .i64 l[j].t.e),M20):=aS (eB dX rfl hb20 rfl)
  have hstep:lD l (j+1)=if l[j].t.k=3 then max (lD l j) l[j].t.e else lD l j:=by
   rw[lD,List.getElem?_eq_getElem hlt]
  have next:∀ z,z=lD l (j+1)→K29 z M20:=fun z hz=>by
   rw[hK29,hz]
   exact⟨l.length-(j+1),by omega,j+1,rfl,dE (by omega),rfl,hlt,hk.trans0 hk20⟩
  refine aG l2 ?_
  simp only[aJ]
  refine aT (fun h3=>?_) (fun h3=>?_)
  ·have h3:l[j].t.k=3:=by simpa using h3
   refine aG l5 ?_
   simp only[aJ]
   refine aG (nQ _ _ _) ?_
   simp only[aJ]
   exact next _ (by rw[hstep,if_pos h3])
  ·have h3:¬ l[j].t.k=3:=by simpa using h3
   exact next _ (by rw[hstep,if_neg h3])
 ·have hge:j=l.length:=by have:¬ (j:Int)<l.length:=of_decide_eq_false hge
                          omega
  subst hge
  exact⟨rfl,hk⟩
theorem aML(M:aC)(hw:M.WF)(x:AV)(l:List Fd)(hx:jQ M x l)(hl:l.length≤1000):aB tb.P 67 [x] M fun y N=>GrF N y (l.filter fun f=>decide (f.t.e>cM l))∧aD M N []∧∀ c,aN y c→M.next≤c:=by
 refine aPD ?_
 unfold F67
 refine (aE1 M hw x l hx (by omega)).mono ?_
 rintro y M2 ⟨rfl,hk2⟩
 simp only[i64,aJ]
 have hx2:jQ M2 x l:=aO.keep0 hx hw hk2
 refine aG (iO hx2.len) ?_
 simp only[aJ]
 refine⟨fun v i n P=>∃ j:Nat,i=j∧n=l.length-j∧j≤l.length∧aD M P []∧GrF P v (nS l (cM l) j)∧∀ c,aN v c→M.next≤c,⟨l.length,0,rfl,rfl,Nat.zero_le _,hk2,.inl ⟨rfl,by simp[nS]⟩,fun c hc=>hc.elim⟩,?_⟩
 rintro _ v i n P ⟨j,rfl,rfl,hj,hk,hv,hfv⟩
 have hsl:(nS l (cM l) j).length≤1000:=by
  have h1:=List.length_filter_le (fun f:Fd=>decide (f.t.e>cM l)) (l.take j)
  rw[List.length_take] at h1
  unfold nS;omega
 refine aT (fun hlt=>?_) (fun hge=>?_)
 ·have hlt:j<l.length:=Int.ofNat_lt.1 (of_decide_eq_true hlt)
  have hstep:nS l (cM l) (j+1)=nS l (cM l) j++(if l[j].t.e>cM l then[l[j]] else[]):=by
   unfold nS
   rw[List.take_add_one,List.getElem?_eq_getElem hlt,List.filter_append]
   congr 1
   simp only[Option.toList_some,List.filter_cons,List.filter_nil,decide_eq_true_eq]
  refine bE fun K37 hK37=>?_
  have hxP:jQ P x l:=aO.keep0 hx hw hk
  obtain⟨b,o,f1,f2,_⟩:=hxP.all hlt
  refine aG (f1 P) ?_
  simp only[bV]
  refine aG f2 ?_
  refine⟨_,_,_,_,_,_,rfl,?_⟩
  refine bE fun M22 hM22=>?_
  refine aDj (f:=l[j]) ?_ M22 hM22
  clear hM22 M22
  intro M23 hM23
  have hk23:aD P M23 []:=by rw[hM23];exact aD.new hk.wf _
  have hb23:M23.get P.next=some (.cells (fJ l[j]) true):=by rw[hM23];exact get_new _ _
  clear hM23
  have hv23:GrF M23 v (nS l (cM l) j):=hv.mono fun c r _ hr=>hk23.get hk.wf hr (by simp)
  have l5:aH tb 3 (.ptr P.next 5) M23=some (.val (.int .i64 l[j].t.e),M23):=aS (eB dX rfl hb23 rfl)
  refine aG l5 ?_
  simp only[aJ]
  refine aT (fun h3=>?_) (fun h3=>?_)
  ·have h3:l[j].t.e>cM l:=of_decide_eq_true h3
   refine aG (aS (eC (n:=6) nL rfl rfl hb23 (by simp[eI]))) ?_
   refine⟨_,_,_,_,_,_,rfl,?_⟩
   refine bE fun M33 hM33=>?_
   subst hM33
   obtain⟨v',N,g1,g2,g3,g4⟩:=GrF.grow hk23.wf hv23 l[j] (by omega)
   refine aG g1 ?_
   rw[hK37]
   have hKN:=hk.trans0 hk23
   refine⟨l.length-(j+1),by omega,j+1,dE (by omega),rfl,hlt,⟨g3.wf,Nat.le_trans hKN.nxt g3.nxt,fun c hc _=>?_⟩,by rw[hstep,if_pos h3];exact g2,fun c hc=>Nat.le_trans hKN.nxt (g4 c hc)⟩
   rw[g3.old c (Nat.lt_of_lt_of_le hc hKN.nxt) (fun hm=>by have:=hfv c hm;omega)]
   exact hKN.old c hc (by simp)
  ·have h3:¬ l[j].t.e>cM l:=of_decide_eq_false h3
   rw[hK37]
   exact⟨l.length-(j+1),by omega,j+1,dE (by omega),rfl,hlt,hk.trans0 hk23,by rw[hstep,if_neg h3,List.append_nil];exact hv23,hfv⟩
 ·have hge:j=l.length:=by have:¬ (j:Int)<l.length:=of_decide_eq_false hge
                          omega
  subst hge
  have:nS l (cM l) l.length=l.filter fun f=>decide (f.t.e>cM l):=by unfold nS;rw[List.take_length]
  rw[this] at hv
  exact⟨hv,hk,hfv⟩
theorem aQw:tb.ty.get 133=some ⟨.mp 3 115,1,8,[.map none],none⟩:=by kernel_rfl
theorem aOr:∃ ti,tb.ty.get 133=some ti∧ti.k= .mp 3 115:=⟨_,aQw,rfl⟩
def fd0:Fd:=⟨0,0,⟨0,0,0,0⟩⟩
def mF(m:List (Int×Fd)):List (AV×AV):=m.map fun q=>(i64 q.1,.agg (fJ q.2))
def wU:List (Int×Fd)→Int→Option (Nat×Fd)
 | [],_=>none
 | q::m,p=>if p=q.1 then some (0,q.2) else (wU m p).map fun r=>(r.1+1,r.2)
def aBj(m:List (Int×Fd))(p:Int)(f:Fd):List (Int×Fd):=match wU m p with
 | none=>m++[(p,f)]
 | some q=>m.set q.1 (p,f)
theorem aCy(p:Int):∀ (m:List (Int×Fd)) (o:Nat),eN tb 3 (i64 p) (mF m) o=some ((wU m p).map fun q=>(o+q.1,i64 p,AV.agg (fJ q.2)))
 | [],_=>rfl
 | q::m,o=>by
   show (match eqA tb 60 3 (i64 p) (i64 q.1) with|some true=>some (some (o,i64 q.1,AV.agg (fJ q.2)))|some false=>eN tb 3 (i64 p) (mF m) (o+1)|none=>none)=_
   rw[yZ]
   by_cases h:p=q.1
   ·subst h
    simp[wU]
   ·have hb:(p==q.1)=false:=by simpa using h
    rw[hb]
    simp only
    rw[aCy p m (o+1)]
    rw[show wU (q::m) p=(wU m p).map (fun r=>(r.1+1,r.2)) by rw[wU,if_neg h],Option.map_map]
    congr 1
    cases wU m p with
    | none=>rfl
    | some r=>simp[Nat.add_assoc,Nat.add_comm 1 r.1]
theorem aAt:∀ {m:List (Int×Fd)} {p:Int} {q:Nat×Fd},wU m p=some q→m[q.1]? =some (p,q.2)
 | [],_,_,h=>by cases h
 | r::m,p,q,h=>by
   rw[wU] at h
   by_cases e:p=r.1
   ·rw[if_pos e] at h
    injection h with h
    subst h e
    rfl
   ·rw[if_neg e] at h
    obtain⟨s,hs,rfl⟩:=Option.map_eq_some_iff.1 h
    have:=aAt hs
    simpa using this
theorem aGK{M:aC}{b:Nat}{m:List (Int×Fd)}(hg:M.get b=some (.map (mF m)))(p:Int)(ok:Bool):
 fT tb 133 (.map b) (i64 p) ok M=some (cond ok (.tup [.agg (fJ (((wU m p).map (·.2)).getD fd0)),.val (.bool (wU m p).isSome)]) (.agg (fJ (((wU m p).map (·.2)).getD fd0)))):=by
 obtain⟨ti,h1,h2⟩:=aOr
 unfold fT
 rw[h1]
 simp only[h2]
 rw[dX,nL]
 have he:gX M (.map b)=some (mF m):=by unfold gX;simp only;rw[hg]
 rw[he]
 have hk:gR tb 60 3 (i64 p)=true:=by unfold gR;rw[dX]
 simp only[hk,cond_true]
 rw[aCy]
 cases h:wU m p with
 | none=>cases ok <;> rfl
 | some q=>cases ok <;> rfl
theorem aOY{M:aC}{b:Nat}{m:List (Int×Fd)}(hg:M.get b=some (.map (mF m)))(p:Int)(f:Fd):eJ tb 133 (.map b) (i64 p) (.agg (fJ f)) M=some (M.put b (.map (mF (aBj m p f)))):=by
 obtain⟨ti,h1,h2⟩:=aOr
 unfold eJ
 rw[h1]
 simp only[h2]
 rw[dX,hg]
 have hk:gR tb 60 3 (i64 p)=true:=by unfold gR;rw[dX]
 simp only[hk,cond_true]
 rw[aCy]
 unfold aBj
 cases h:wU m p with
 | none=>simp[mF]
 | some q=>
   have hf:(i64 p).flat=some (.int .i64 p):=rfl
   have hs:pY (.int .i64 p) (.int .i64 p)=true:=by
    unfold pY
    simp[eR]
   simp only[Option.map_some,hf,hs,cond_true,Nat.zero_add]
   simp[mF,List.map_set]
def gA(a b:Tg):Bool:=decide (a.e>b.e)||(a.e==b.e&&decide (a.s>b.s))
theorem aGT(M:aC)(hw:M.WF)(a b:Tg):aB tb.P 123 [tgA a,tgA b] M fun y N=>y= .val (.bool (gA a b))∧aD M N []:=by
 refine aOe ?_
 unfold F123
 refine⟨_,_,_,_,rfl,_,_,_,_,rfl,?_⟩
 refine bE fun M1 hM1=>?_
 have hM1':M1=M.new (.cells (jV a) true):=hM1
 have hk1:aD M M1 []:=by rw[hM1'];exact aD.new hw _
 have ha1:M1.get M.next=some (.cells (jV a) true):=by rw[hM1'];exact get_new _ _
 clear hM1 hM1'
 refine bE fun M2 hM2=>?_
 have hM2':M2=M1.new (.cells (jV b) true):=hM2
 have hk2:aD M1 M2 []:=by rw[hM2'];exact aD.new hk1.wf _
 have hb2:M2.get M1.next=some (.cells (jV b) true):=by rw[hM2'];exact get_new _ _
 clear hM2 hM2'
 have ha2:=hk2.get hk1.wf ha1 (by simp)
 have hK:=hk1.trans0 hk2
 obtain⟨_,_,as',ae,_⟩:=hU ha2
 obtain⟨_,_,bs',be',_⟩:=hU hb2
 refine bE fun K hKK=>?_
 have fin:∀ w:Bool,w=gA a b→K w:=fun w hw'=>by rw[hKK,hw'];exact⟨rfl,hK⟩
 clear hKK
 refine aG (aS ae) ?_
 simp only[i64,aJ]
 refine aG (aS be') ?_
 simp only[i64,aJ]
 refine aT (fun h1=>fin _ (by unfold gA;rw[h1];rfl)) (fun h1=>?_)
 refine aG (aS ae) ?_
 simp only[i64,aJ]
 refine aG (aS be') ?_
 simp only[i64,aJ]
 refine aT (fun h2=>?_) (fun h2=>fin _ (by unfold gA;rw[h1,h2];rfl))
 refine aG (aS as') ?_
 simp only[i64,aJ]
 refine aG (aS bs') ?_
 simp only[i64,aJ]
 exact fin _ (by unfold gA;rw[h1,h2];rfl)
def nwS(last:Int)(m:List (Int×Fd))(f:Fd):List (Int×Fd):=
 if (f.t.k≠1∧f.t.k≠2)∨f.t.e>last then m
 else match wU m f.t.p with
  | none=>aBj m f.t.p f
  | some g=>if gA f.t g.2.t=true then aBj m f.t.p f else m
def nwN(last:Int)(l:List Fd)(n:Nat):List (Int×Fd):=(l.take n).foldl (nwS last) []
def nwF(l:List Fd):List (Int×Fd):=nwN (cM l) l l.length
theorem aDF{last:Int}{l:List Fd}{n:Nat}(h:n<l.length):nwN last l (n+1)=nwS last (nwN last l n) l[n]:=by
 unfold nwN
 rw[List.take_add_one,List.getElem?_eq_getElem h,List.foldl_append]
 rfl
theorem aJ4(M:aC)(hw:M.WF)(x:AV)(l:List Fd)(hx:jQ M x l)(hl:l.length≤1000):aB tb.P 93 [x] M fun y N=>∃ b,y= .map b∧M.next≤b∧N.get b=some (.map (mF (nwF l)))∧aD M N []:=by
 refine aQj ?_
 unfold F93
 refine (aE1 M hw x l hx (by omega)).mono ?_
 rintro y M2 ⟨rfl,hk2⟩
 simp only[i64,aJ]
 refine bE fun M4 hM4=>?_
 have hk4:aD M2 M4 []:=by rw[hM4];exact aD.new hk2.wf _
 have hm4:M4.get M2.next=some (.map (mF (nwN (cM l) l 0))):=by rw[hM4];exact get_new _ _
 clear hM4
 have hK4:=hk2.trans0 hk4
 have hx4:jQ M4 x l:=aO.keep0 hx hw hK4
 refine aG (iO hx4.len) ?_
 simp only[aJ]
 refine⟨fun i n P=>∃ j:Nat,i=j∧n=l.length-j∧j≤l.length∧aD M P []∧M2.next<P.next∧P.get M2.next=some (.map (mF (nwN (cM l) l j))),⟨l.length,0,rfl,rfl,Nat.zero_le _,hK4,hk4.wf _ _ hm4,hm4⟩,?_⟩
 rintro _ i n P ⟨j,rfl,rfl,hj,hk,hmn,hm⟩
 refine aT (fun hlt=>?_) (fun hge=>?_)
 ·have hlt:j<l.length:=Int.ofNat_lt.1 (of_decide_eq_true hlt)
  refine bE fun K73 hK73=>?_
  have again:∀ N,aD P N [M2.next]→N.get M2.next=some (.map (mF (nwN (cM l) l (j+1))))→K73 N:=fun N hkN hmN=>by
   rw[hK73]
   refine⟨l.length-(j+1),by omega,j+1,dE (by omega),rfl,hlt,hk.trans hkN (by simp) (fun c hc hlt=>?_),Nat.lt_of_lt_of_le hmn hkN.nxt,hmN⟩
   rw[List.mem_singleton] at hc
   have:=hk2.nxt
   omega
  clear hK73
  rw[aDF hlt] at again
  have hxP:jQ P x l:=aO.keep0 hx hw hk
  obtain⟨b,o,f1,f2,_⟩:=hxP.all hlt
  refine aG (f1 P) ?_
  simp only[bV]
  refine aG f2 ?_
  refine⟨_,_,_,_,_,_,rfl,?_⟩
  refine bE fun M22 hM22=>?_
  refine aDj (f:=l[j]) ?_ M22 hM22
  clear hM22 M22
  intro M23 hM23
  have hk23:aD P M23 []:=by rw[hM23];exact aD.new hk.wf _
  have hb23:M23.get P.next=some (.cells (fJ l[j]) true):=by rw[hM23];exact get_new _ _
  clear hM23
  have hm23:=hk23.get hk.wf hm (by simp)
  generalize hf:l[j]=f at*
  generalize nwN (cM l) l j=m at*
  have l2:aH tb 3 (.ptr P.next 2) M23=some (.val (.int .i64 f.t.k),M23):=aS (eB dX rfl hb23 rfl)
  have l3:∀ N,N.get P.next=some (.cells (fJ f) true)→aH tb 3 (.ptr P.next 3) N=some (.val (.int .i64 f.t.p),N):=fun N h=>aS (eB dX rfl h rfl)
  have l5:aH tb 3 (.ptr P.next 5) M23=some (.val (.int .i64 f.t.e),M23):=aS (eB dX rfl hb23 rfl)
  refine bE fun K33 hK33=>?_
  have skip:((f.t.k≠1∧f.t.k≠2)∨f.t.e>cM l)→K33 true:=fun hs=>by
   rw[hK33]
   simp only[jF]
   refine again M23 (hk23.mono (by simp)) ?_
   unfold nwS
   rw[if_pos hs]
   exact hm23
  have take:¬ ((f.t.k≠1∧f.t.k≠2)∨f.t.e>cM l)→K33 false:=fun hs=>by
   rw[hK33]
   simp only[fG]
   refine aG (l3 M23 hb23) ?_
   simp only[aJ]
   obtain⟨g0,hg0⟩:∃ g,g=((wU m f.t.p).map (·.2)).getD fd0:=⟨_,rfl⟩
   obtain⟨s0,hs0⟩:∃ s,s=(wU m f.t.p).isSome:=⟨_,rfl⟩
   have lk:=aGK hm23 f.t.p true
   rw[← hg0,← hs0,cond_true] at lk
   refine aG (oU lk) ?_
   refine⟨_,_,_,_,_,_,_,rfl,?_⟩
   refine bE fun M44 hM44=>?_
   refine aDj (f:=g0) ?_ M44 hM44
   clear hM44 M44
   intro M45 hM45
   have hk45:aD M23 M45 []:=by rw[hM45];exact aD.new hk23.wf _
   have hb45:M45.get M23.next=some (.cells (fJ g0) true):=by rw[hM45];exact get_new _ _
   clear hM45
   have hf45:=hk45.get hk23.wf hb23 (by simp)
   have hm45:=hk45.get hk23.wf hm23 (by simp)
   refine bE fun K61 hK61=>?_
   have put:∀ N,aD M45 N []→nwS (cM l) m f=aBj m f.t.p f→K61 true N:=fun N hkN he=>by
    rw[hK61]
    simp only[jF]
    have hfN:=hkN.get hk45.wf hf45 (by simp)
    have hmN:=hkN.get hk45.wf hm45 (by simp)
    refine aG (l3 N hfN) ?_
    simp only[aJ]
    refine aG (aS (eC (n:=6) nL rfl rfl hfN (by simp[eI]))) ?_
    refine⟨_,_,_,_,_,_,rfl,?_⟩
    refine aG (aBi (aOY hmN f.t.p f)) ?_
    have hlt':M2.next<N.next:=hkN.wf _ _ hmN
    refine again _ (((hk23.trans0 hk45).trans0 hkN).trans (aD.put hkN.wf hlt' _) (by simp) (fun c hc _=>hc)) ?_
    rw[he]
    show (N.put M2.next _).get M2.next=_
    rw[aC.get_put,if_pos rfl]
   have no:∀ N,aD M45 N []→nwS (cM l) m f=m→K61 false N:=fun N hkN he=>by
    rw[hK61]
    simp only[fG]
    refine again N (((hk23.trans0 hk45).trans0 hkN).mono (by simp)) ?_
    rw[he]
    exact hkN.get hk45.wf hm45 (by simp)
   clear hK61
   cases hlk:wU m f.t.p with
   | none=>
     rw[hlk] at hs0
     subst hs0
     refine aT (fun _=>put M45 (aD.refl hk45.wf) (by unfold nwS;rw[if_neg hs,hlk])) (fun h=>by simp at h)
   | some g=>
     rw[hlk] at hs0 hg0
     have hg0:g0=g.2:=hg0
     subst hs0 hg0
     refine aT (fun h=>by simp at h) (fun _=>?_)
     have t1:aH tb 106 (.ptr P.next 2) M45=some (tgA f.t,M45):=aS (eC (n:=4) xM rfl rfl hf45 (by simp[eI]))
     have t2:aH tb 106 (.ptr M23.next 2) M45=some (tgA g.2.t,M45):=aS (eC (n:=4) xM rfl rfl hb45 (by simp[eI]))
     refine aG t1 ?_
     refine⟨_,_,_,_,rfl,?_⟩
     refine aG t2 ?_
     refine⟨_,_,_,_,rfl,?_⟩
     refine (aGT M45 hk45.wf f.t g.2.t).mono ?_
     rintro y N ⟨rfl,hkN⟩
     simp only[cO]
     cases hnw:gA f.t g.2.t with
     | true=>exact put N hkN (by unfold nwS;rw[if_neg hs,hlk];simp only;rw[if_pos hnw])
     | false=>exact no N hkN (by unfold nwS;rw[if_neg hs,hlk];simp only;rw[if_neg (by rw[hnw];simp)])
  clear hK33
  refine aG l2 ?_
  simp only[aJ]
  have dec:∀ w,w=decide (f.t.e>cM l)→(f.t.k=1∨f.t.k=2)→K33 w:=fun w hw' hk'=>by
   cases w with
   | true=>exact skip (.inr (of_decide_eq_true hw'.symm))
   | false=>exact take (by have:=of_decide_eq_false hw'.symm;omega)
  refine aT (fun h1=>?_) (fun h1=>?_)
  ·have h1:¬ f.t.k=1:=by simpa using h1
   refine aG l2 ?_
   simp only[aJ]
   refine aT (fun h2=>?_) (fun h2=>?_)
   ·have h2:¬ f.t.k=2:=by simpa using h2
    exact skip (.inl ⟨h1,h2⟩)
   ·have h2:f.t.k=2:=by simpa using h2
    refine aG l5 ?_
    simp only[aJ]
    exact dec _ rfl (.inr h2)
  ·have h1:f.t.k=1:=by simpa using h1
   refine aG l5 ?_
   simp only[aJ]
   exact dec _ rfl (.inl h1)
 ·have hge:j=l.length:=by have:¬ (j:Int)<l.length:=of_decide_eq_false hge
                          omega
  subst hge
  exact⟨M2.next,rfl,hk2.nxt,hm,hk⟩
theorem aAs{α:Type}{l:List α}{a:α}(h:l.Nodup)(hm:a∉l):(l++[a]).Nodup:=by
 rw[List.nodup_append]
 exact⟨h,by simp,fun x hx y hy e=>hm (by rw[List.mem_singleton] at hy;rw[← hy,← e];exact hx)⟩
theorem qM:∀ {m:List (Int×Fd)} {p:Int},wU m p=none→p∉m.map (·.1)
 | [],_,_=>by simp
 | q::m,p,h=>by
   rw[wU] at h
   by_cases e:p=q.1
   ·rw[if_pos e] at h;cases h
   ·rw[if_neg e] at h
    have:=qM (Option.map_eq_none_iff.1 h)
    simp only[List.map_cons,List.mem_cons,not_or]
    exact⟨e,this⟩
theorem wQ{m:List (Int×Fd)}{p:Int}{f:Fd}(h:(m.map (·.1)).Nodup):((aBj m p f).map (·.1)).Nodup∧∀ k,k∈(aBj m p f).map (·.1)→k∈m.map (·.1)∨k=p:=by
 unfold aBj
 cases hl:wU m p with
 | none=>
   simp only[List.map_append,List.map_cons,List.map_nil]
   exact⟨aAs h (qM hl),fun k hk=>by simpa using hk⟩
 | some q=>
   have hq:=aAt hl
   have e:(m.set q.1 (p,f)).map (·.1)=m.map (·.1):=by
    rw[List.map_set]
    have:(m.map (·.1))[q.1]? =some p:=by rw[List.getElem?_map,hq];rfl
    obtain⟨hlt,he⟩:=List.getElem?_eq_some_iff.1 this
    conv=>rhs;rw[← List.set_getElem_self hlt]
    rw[he]
   simp only
   rw[e]
   exact⟨h,fun k hk=> .inl hk⟩
theorem aKW{last:Int}{m:List (Int×Fd)}{f:Fd}(h:(m.map (·.1)).Nodup):((nwS last m f).map (·.1)).Nodup∧∀ k,k∈(nwS last m f).map (·.1)→k∈m.map (·.1)∨k=f.t.p:=by
 unfold nwS
 split
 ·exact⟨h,fun k hk=> .inl hk⟩
 ·split
  ·exact wQ h
  ·split
   ·exact wQ h
   ·exact⟨h,fun k hk=> .inl hk⟩
theorem aHb(last:Int):∀ (l:List Fd) (m:List (Int×Fd)),(m.map (·.1)).Nodup→((l.foldl (nwS last) m).map (·.1)).Nodup∧∀ k,k∈(l.foldl (nwS last) m).map (·.1)→k∈m.map (·.1)∨∃ f∈l,k=f.t.p
 | [],m,h=>⟨h,fun k hk=> .inl hk⟩
 | f::l,m,h=>by
   obtain⟨h1,h2⟩:=aKW (last:=last) (f:=f) h
   obtain⟨h3,h4⟩:=aHb last l (nwS last m f) h1
   refine⟨h3,fun k hk=>?_⟩
   rcases h4 k hk with h5|⟨g,hg,e⟩
   ·rcases h2 k h5 with h6|h6
    ·exact .inl h6
    ·exact .inr ⟨f,by simp,h6⟩
   ·exact .inr ⟨g,by simp[hg],e⟩
theorem aLm(l:List Fd):((nwF l).map (·.1)).Nodup∧∀ k∈(nwF l).map (·.1),∃ f∈l,k=f.t.p:=by
 unfold nwF nwN
 rw[List.take_length]
 obtain⟨h1,h2⟩:=aHb (cM l) l [] (by simp)
 exact⟨h1,fun k hk=>by
  rcases h2 k hk with h|h
  ·simp at h
  ·exact h⟩
def ofF(m:List (Int×Fd))(p:Int):Fd:=((wU m p).map (·.2)).getD fd0
def uN(m:List (Int×Fd))(ps:List Int)(n:Nat):List Fd:=((ps.take n).map (ofF m)).filter fun f=>decide (f.t.k=1)
theorem aRP(M:aC)(hw:M.WF)(x:AV)(l:List Fd)(hx:jQ M x l)(hl:l.length≤1000)(hr:∀ f∈l,aI6 f.t.p)(hle:(nwF l).length≤1000):
 aB tb.P 65 [x] M fun y N=>∃ ps:List Int,ps.Perm ((nwF l).map (·.1))∧ps.Pairwise (fun a b=>decide (a≤b)=true)∧GrF N y ((ps.map (ofF (nwF l))).filter fun f=>decide (f.t.k=1))∧aD M N []∧∀ c,aN y c→M.next≤c:=by
 refine aP3 ?_
 unfold F65
 refine (aJ4 M hw x l hx hl).mono ?_
 rintro y M2 ⟨b,rfl,hbn,hb,hk2⟩
 obtain⟨hk1,hk2'⟩:=aLm l
 generalize nwF l=m at*
 have keys:aB tb.P 94 [.map b] M2 fun y N=>y= .fn 124 [] [.ptr M2.next 0]∧N=M2.new (.cells [.map b] true):=by
  refine aO8 ?_
  unfold F94
  refine bE fun M1 hM1=>⟨rfl,hM1⟩
 refine keys.mono ?_
 rintro y M4 ⟨rfl,hM4⟩
 have hk4:aD M2 M4 []:=by rw[hM4];exact aD.new hk2.wf _
 have hq4:M4.get M2.next=some (.cells [.map b] true):=by rw[hM4];exact get_new _ _
 clear hM4 keys
 have hb4:=hk4.get hk2.wf hb (by simp)
 refine (xT aNC M4 hk4.wf M2.next b true (mF m) (m.map (·.1)) hq4 hb4 (by simp[mF]) hk1 (fun k hk=>?_) (by rw[List.length_map];exact hle)).mono ?_
 ·obtain⟨f,hf,rfl⟩:=hk2' k hk
  exact hr f hf
 clear hr
 rintro y M6 ⟨ss,hss,hy,hk6,hfy⟩
 have hsort:(ss.mergeSort (fun x y=>decide (x≤y))).Pairwise (fun a b=>decide (a≤b)=true):=List.pairwise_mergeSort (fun a b c h1 h2=>by simp at *;omega) (fun a b=>by simp;omega) ss
 have hperm:(ss.mergeSort (fun x y=>decide (x≤y))).Perm (m.map (·.1)):=(List.mergeSort_perm _ _).trans hss
 generalize ss.mergeSort (fun x y=>decide (x≤y))=ps at*
 have hpl:ps.length≤1000:=by rw[hperm.length_eq,List.length_map];exact hle
 have hK6:=hk2.trans0 (hk4.trans0 hk6)
 have hb6:=hk6.get hk4.wf hb4 (by simp)
 refine aG (rA hy.at) ?_
 simp only[aJ]
 refine⟨fun v i n P=>∃ j:Nat,i=j∧n=ps.length-j∧j≤ps.length∧aD M6 P []∧GrF P v (uN m ps j)∧∀ c,aN v c→M6.next≤c,⟨ps.length,0,rfl,rfl,Nat.zero_le _,aD.refl hk6.wf,.inl ⟨rfl,by simp[uN]⟩,fun c hc=>hc.elim⟩,?_⟩
 rintro _ v i n P ⟨j,rfl,rfl,hj,hk,hv,hfv⟩
 have hsl:(uN m ps j).length≤1000:=by
  have h1:=List.length_filter_le (fun f:Fd=>decide (f.t.k=1)) ((ps.take j).map (ofF m))
  rw[List.length_map,List.length_take] at h1
  unfold uN;omega
 refine aT (fun hlt=>?_) (fun hge=>?_)
 ·have hlt:j<ps.length:=Int.ofNat_lt.1 (of_decide_eq_true hlt)
  refine bE fun K38 hK38=>?_
  have hstep:uN m ps (j+1)=uN m ps j++(if (ofF m ps[j]).t.k=1 then[ofF m ps[j]] else[]):=by
   unfold uN
   rw[List.take_add_one,List.getElem?_eq_getElem hlt,List.map_append,List.filter_append]
   congr 1
   simp only[Option.toList_some,List.map_cons,List.map_nil,List.filter_cons,List.filter_nil,decide_eq_true_eq]
  obtain⟨b1,o1,f1,_,f2⟩:=nM (hy.keep0 hk6.wf hk).at hlt
  have hgd:ps.getD j 0=ps[j]:=by rw[List.getD_eq_getElem?_getD,List.getElem?_eq_getElem hlt];rfl
  rw[hgd] at f2
  refine aG (f1 P) ?_
  simp only[bV]
  refine aG f2 ?_
  simp only[aJ]
  have lk:=aGK (hk.get hk6.wf hb6 (by simp)) ps[j] false
  obtain⟨g0,hg0⟩:∃ g,g=ofF m ps[j]:=⟨_,rfl⟩
  rw[show ((wU m ps[j]).map (·.2)).getD fd0=g0 from hg0.symm,cond_false] at lk
  rw[← hg0] at hstep
  refine aG (oU lk) ?_
  refine⟨_,_,_,_,_,_,rfl,?_⟩
  refine aT (fun h3=>?_) (fun h3=>?_)
  ·have h3:g0.t.k=1:=by simpa using h3
   refine aG (oU lk) ?_
   refine⟨_,_,_,_,_,_,rfl,?_⟩
   refine bE fun M34 hM34=>?_
   subst hM34
   obtain⟨v',N,e1,e2,e3,e4⟩:=GrF.grow hk.wf hv g0 (by omega)
   refine aG e1 ?_
   rw[hK38]
   refine⟨ps.length-(j+1),by omega,j+1,dE (by omega),rfl,hlt,⟨e3.wf,Nat.le_trans hk.nxt e3.nxt,fun c hc _=>?_⟩,by rw[hstep,if_pos h3];exact e2,fun c hc=>Nat.le_trans hk.nxt (e4 c hc)⟩
   rw[e3.old c (Nat.lt_of_lt_of_le hc hk.nxt) (fun hm=>by have:=hfv c hm;omega)]
   exact hk.old c hc (by simp)
  ·have h3:¬ g0.t.k=1:=by simpa using h3
   rw[hK38]
   exact⟨ps.length-(j+1),by omega,j+1,dE (by omega),rfl,hlt,hk,by rw[hstep,if_neg h3,List.append_nil];exact hv,hfv⟩
 ·have hge:j=ps.length:=by have:¬ (j:Int)<ps.length:=of_decide_eq_false hge
                           omega
  subst hge
  have:uN m ps ps.length=(ps.map (ofF m)).filter fun f=>decide (f.t.k=1):=by unfold uN;rw[List.take_length]
  rw[this] at hv
  exact⟨ps,hperm,hsort,hv,hK6.trans0 hk,fun c hc=>Nat.le_trans hK6.nxt (hfv c hc)⟩
noncomputable def lnS:AV:= .val (.string ⟨#[0,1,2,2,3,3,3,3,4,4,4,4,4,4,4,4,5,5,5,5,5,5,5,5,5,5,5,5,5,5,5,5,6,6,6,6,6,6,6,6,6,6,6,6,6,6,6,6,6,6,6,6,6,6,6,6,6,6,6,6,6,6,6,6,7,7,7,7,7,7,7,7,7,7,7,7,7,7,7,7,7,7,7,7,7,7,7,7,7,7,7,7,7,7,7,7,7,7,7,7,7,7,7,7,7,7,7,7,7,7,7,7,7,7,7,7,7,7,7,7,7,7,7,7,7,7,7,7,8,8,8,8,8,8,8,8,8,8,8,8,8,8,8,8,8,8,8,8,8,8,8,8,8,8,8,8,8,8,8,8,8,8,8,8,8,8,8,8,8,8,8,8,8,8,8,8,8,8,8,8,8,8,8,8,8,8,8,8,8,8,8,8,8,8,8,8,8,8,8,8,8,8,8,8,8,8,8,8,8,8,8,8,8,8,8,8,8,8,8,8,8,8,8,8,8,8,8,8,8,8,8,8,8,8,8,8,8,8,8,8,8,8,8,8,8,8,8,8,8,8,8,8,8,8,8,8]⟩)
noncomputable def lnV(n:Nat):Option Int:=match tZ tb 9 lnS (.val (.int .u8 (n:Int))) with|some (.val (.int .u8 c))=>some (aM .i64 0 (IntKind.wrap .i64 c))|_=>none
set_option maxRecDepth 1000000 in
theorem aPY:(List.range 161).all (fun n=>(lnV n).isSome)=true:=by kernel_rfl
theorem aA0{n:Nat}(h:n≤160):∃ z:Int,lnV n=some z∧∀ M,aB tb.P 119 [.val (.int .u64 (n:Int))] M fun y N=>y=i64 z∧N=M:=by
 obtain⟨z,hz⟩:=Option.isSome_iff_exists.1 (List.all_eq_true.1 aPY n (List.mem_range.2 (by omega)))
 refine⟨z,hz,fun M=>?_⟩
 refine aMA ?_
 unfold F119
 simp only[aJ]
 have l148:aB tb.P 153 [.val (.int .u64 (n:Int))] M fun y N=>y=i64 z∧N=M:=by
  refine aMV ?_
  unfold F153
  simp only[aJ]
  refine bE fun K4 hK4=>?_
  rw[decide_eq_false (by omega:¬ (n:Int)≥4294967296),fG,hK4]
  dsimp only
  refine bE fun K7 hK7=>?_
  rw[decide_eq_false (by omega:¬ (n:Int)≥65536),fG,hK7]
  dsimp only
  refine bE fun K10 hK10=>?_
  rw[decide_eq_false (by omega:¬ (n:Int)≥256),fG,hK10]
  dsimp only
  have hwr:IntKind.wrap .u8 (n:Int)=(n:Int):=by
   show (n:Int)%256=_
   exact Int.emod_eq_of_lt (by omega) (by omega)
  rw[hwr]
  unfold lnV at hz
  split at hz
  ·rename_i c he
   injection hz with hz
   have he2:eIx tb 9 lnS (.val (.int .u8 (n:Int))) M=some (.val (.int .u8 c),M):=by unfold eIx;rw[he];rfl
   refine aG he2 ?_
   simp only[aJ]
   rw[hz]
   exact⟨by first|rfl|trivial,by first|rfl|trivial⟩
  ·cases hz
 refine l148.mono ?_
 rintro y N ⟨rfl,rfl⟩
 simp only[i64,aJ]
 exact⟨by first|rfl|trivial,by first|rfl|trivial⟩
theorem aJv{a3:AV}(M:aC)(x:AV)(n:Nat)(hn:n≤12)(hlen:∀ N,bD tb false 111 x N=some n){Q:aC→Prop}(hi:aB tb.P 163 [x,i64 0,i64 (n:Int),a3] M fun _ N=>Q N):
 aB tb.P 95 [x,a3] M fun _ N=>Q N:=by
 refine aKM ?_
 unfold F95
 refine aG (iO (hlen M)) ?_
 simp only[aJ]
 obtain⟨z,_,hz⟩:=aA0 (n:=n) (by omega)
 have hwr:IntKind.wrap .u64 (n:Int)=(n:Int):=by
  have:n=0∨n=1∨n=2∨n=3∨n=4∨n=5∨n=6∨n=7∨n=8∨n=9∨n=10∨n=11∨n=12:=by omega
  rcases this with rfl|rfl|rfl|rfl|rfl|rfl|rfl|rfl|rfl|rfl|rfl|rfl|rfl <;> rfl
 rw[hwr]
 refine (hz M).mono ?_
 rintro y N ⟨rfl,rfl⟩
 simp only[i64,aJ]
 have pdq:aB tb.P 125 [x,i64 0,i64 (n:Int),i64 z,a3] N fun _ N'=>Q N':=by
  refine aCX ?_
  unfold F125
  simp only[i64,aJ]
  refine⟨fun p q r b1 b2 m P=>p=0∧q=(n:Int)∧P=N,⟨0,rfl,rfl,rfl⟩,?_⟩
  rintro _ p q r b1 b2 m P ⟨rfl,rfl,rfl⟩
  have:aW .i64 (n:Int) 0=(n:Int):=by rw[aW,aL (by omega) (by omega)];omega
  rw[this,decide_eq_true (by omega:(n:Int)≤12),jF]
  exact hi.mono fun y N' h=>h
 exact pdq.mono fun y N' h=>h
theorem aHO{a3:AV}(M:aC):aB tb.P 95 [.val (.slice none 0 0),a3] M fun _ N=>N=M:=by
 refine aJv M _ 0 (by omega) (fun N=>aO.len (aO.nil (k:=6) (M:=N)) aBa rfl) ?_
 refine aGZ ?_
 unfold F163
 simp only[i64,aJ]
 refine⟨fun i m P=>i=1∧P=M,⟨0,rfl,rfl⟩,?_⟩
 rintro _ i m P ⟨rfl,rfl⟩
 rw[decide_eq_false (by omega:¬ ((1:Int)<((0:Nat):Int))),fG]
theorem aFe:tb.ty.get 58=some ⟨.pt 99,1,8,[.pointer none],none⟩:=by kernel_rfl
theorem aDl:tb.ty.get 96=some ⟨.mp 101 110,1,8,[.map none],none⟩:=by kernel_rfl
theorem aBw:tb.ty.get 99=some ⟨.st [(0,1,false),(1,5,true),(6,1,false),(7,1,false),(8,1,false),(9,1,false),(10,1,false),(11,1,false),(12,1,false),(13,1,false)],14,112,[.pointer none,.int .i64 0,.int .i64 0,.int .i64 0,.int .i64 0,.int .i64 0,.map none,.map none,.map none,.map none,.int .i64 0,.int .i64 0,.int .i64 0,.bool false],some [28,23,96,75,75,97,3,3,3,4]⟩:=by kernel_rfl
theorem oB{M:aC}(f:Nat):cG tb 99 (.ptr f 0) 0 M=some (.ptr f 0,M)∧cG tb 99 (.ptr f 0) 1 M=some (.ptr f 1,M)∧cG tb 99 (.ptr f 0) 2 M=some (.ptr f 6,M)∧cG tb 99 (.ptr f 0) 3 M=some (.ptr f 7,M)∧cG tb 99 (.ptr f 0) 4 M=some (.ptr f 8,M)∧cG tb 99 (.ptr f 0) 5 M=some (.ptr f 9,M)∧cG tb 99 (.ptr f 0) 9 M=some (.ptr f 13,M):=by
 refine⟨bW ?_,bW ?_,bW ?_,bW ?_,bW ?_,bW ?_,bW ?_⟩ <;> (unfold eZf;rw[aBw];rfl)
structure Fl where
 p:AV
 g:eF
 mf:Nat
 mb:Nat
 mp:Nat
 ms:Nat
 seq:Int
 ep:Int
 now:Int
 deg:Bool
def jZ(F:Fl):List AV:=[F.p,i64 F.g.bl,i64 F.g.pg,i64 F.g.by',i64 F.g.sp,i64 F.g.tr,.map F.mf,.map F.mb,.map F.mp,.map F.ms,i64 F.seq,i64 F.ep,i64 F.now,bv F.deg]
theorem aSr:tb.ty.get 28=some ⟨.pt 67,1,8,[.pointer none],none⟩:=by kernel_rfl
structure sX (M:aC) (f:Nat) (F:Fl) (p:Nat) (C:aQ):Prop where
 fl:M.get f=some (.cells (jZ F) true)
 chip:bF M p C
 ptr:F.p= .ptr p 0
 geo:F.g=C.g
theorem sX.keep{M N:aC}{f:Nat}{F:Fl}{p:Nat}{C:aQ}(h:sX M f F p C)(hw:M.WF)(hk:aD M N []):sX N f F p C:=⟨hk.get hw h.fl (by simp),h.chip.keep hw hk,h.ptr,h.geo⟩
theorem sX.ldp{M:aC}{f:Nat}{F:Fl}{p:Nat}{C:aQ}(h:sX M f F p C):aH tb 28 (.ptr f 0) M=some (.ptr p 0,M):=by
 rw[← h.ptr];exact aS (eB aSr rfl h.fl rfl)
def lostB(C:aQ)(b:Int):Bool:=aDP C.fs b||rE C b
theorem aOJ(M:aC)(hw:M.WF)(f:Nat)(F:Fl)(p:Nat)(C:aQ)(h:sX M f F p C)(b:Int):aB tb.P 127 [.ptr f 0,i64 b] M fun y N=>y= .val (.bool (lostB C b))∧aD M N []:=by
 refine aMa ?_
 unfold F127
 simp only[i64,aJ]
 refine bE fun K hK=>?_
 refine aG dB ?_
 refine aG (oB f).1 ?_
 simp only[bV]
 refine aG h.ldp ?_
 refine (aGM M hw p C h.chip b).mono ?_
 rintro y M8 ⟨rfl,hk8⟩
 simp only[cO]
 have h8:=h.keep hw hk8
 refine aT (fun hb=>?_) (fun hb=>?_)
 ·rw[hK]
  exact⟨by unfold lostB;rw[hb];rfl,hk8⟩
 ·refine aG dB ?_
  refine aG (oB f).1 ?_
  simp only[bV]
  refine aG h8.ldp ?_
  refine (aA5 M8 hk8.wf p C h8.chip b).mono ?_
  rintro y M16 ⟨rfl,hk16⟩
  simp only[cO]
  rw[hK]
  exact⟨by unfold lostB;rw[hb];rfl,hk8.trans0 hk16⟩
def aAF(C:aQ)(n:Nat):Nat:=((List.range n).filter fun (b:Nat)=>lostB C (b:Int)).length
theorem tJ(C:aQ)(n:Nat):aAF C (n+1)=aAF C n+(if lostB C (n:Int)=true then 1 else 0):=by
 unfold aAF
 rw[List.range_succ,List.filter_append,List.length_append]
 congr 1
 simp only[List.filter_cons,List.filter_nil]
 cases lostB C (n:Int) <;> simp
theorem aDK(C:aQ):∀ n,aAF C n≤n
 | 0=>Nat.le_refl _
 | n+1=>by
   have:=aDK C n
   rw[tJ];split <;> omega
theorem aPk(M:aC)(hw:M.WF)(f:Nat)(F:Fl)(p:Nat)(C:aQ)(h:sX M f F p C):aB tb.P 99 [.ptr f 0] M fun y N=>y=i64 (aAF C C.g.bl.toNat:Int)∧aD M N []:=by
 refine aO3 ?_
 unfold F99
 obtain⟨_,_,e1,_,_,_,_,h4⟩:=aAM h.chip.may
 refine aG dB ?_
 refine aG (oB f).2.1 ?_
 simp only[bV]
 have l1:aH tb 3 (.ptr f 1) M=some (.val (.int .i64 (C.g.bl.toNat:Int)),M):=by
  rw[← e1,← h.geo];exact aS (eB dX rfl h.fl rfl)
 refine aG l1 ?_
 simp only[aJ]
 refine⟨fun a i n P=>∃ j:Nat,a=aAF C j∧i=j∧n=C.g.bl.toNat-j∧j≤C.g.bl.toNat∧aD M P [],⟨C.g.bl.toNat,0,rfl,rfl,rfl,Nat.zero_le _,aD.refl hw⟩,?_⟩
 rintro _ a i n P ⟨j,rfl,rfl,rfl,hj,hk⟩
 have hle:=aDK C j
 refine aT (fun hlt=>?_) (fun hge=>?_)
 ·have hlt:j<C.g.bl.toNat:=Int.ofNat_lt.1 (of_decide_eq_true hlt)
  refine bE fun K hK=>?_
  refine (aOJ P hk.wf f F p C (h.keep hw hk) _).mono ?_
  rintro y M14 ⟨rfl,hk14⟩
  simp only[cO]
  have hs:=tJ C j
  refine aT (fun hb=>?_) (fun hb=>?_)
  ·rw[hK]
   exact⟨C.g.bl.toNat-(j+1),by omega,j+1,by rw[dE (by omega),hs,if_pos hb],dE (by omega),rfl,hlt,hk.trans0 hk14⟩
  ·rw[hK]
   exact⟨C.g.bl.toNat-(j+1),by omega,j+1,by rw[hs,if_neg (by rw[hb];simp),Nat.add_zero],dE (by omega),rfl,hlt,hk.trans0 hk14⟩
 ·have hge:j=C.g.bl.toNat:=by have:¬ (j:Int)<C.g.bl.toNat:=of_decide_eq_false hge
                              omega
  subst hge
  exact⟨rfl,hk⟩
theorem aIV{M:aC}(b:Nat):cG tb 101 (.ptr b 0) 0 M=some (.ptr b 0,M):=bW (by unfold eZf;rw[pR];rfl)
def eL(g:eF):Int:=kV .i64 (aW .i64 (bT .i64 (aW .i64 (aW .i64 g.bl g.sp) 3) g.pg) 4) 2
theorem aPA(M:aC)(hw:M.WF)(g:eF):aB tb.P 73 [fX g] M fun y N=>y=i64 (eL g)∧aD M N []:=by
 refine aJW ?_
 unfold F73
 refine⟨_,_,_,_,_,rfl,?_⟩
 simp only[cY]
 have hg:=get_new M (.cells (cW g) true)
 have hK:=aD.new hw (.cells (cW g) true)
 obtain⟨l0,l1,l2,l3,l4,l5⟩:=cC hg
 refine aG (aS l0) ?_
 simp only[i64,aJ]
 refine aG (aS l3) ?_
 simp only[i64,aJ]
 refine aG (aS l1) ?_
 simp only[i64,aJ]
 exact⟨by first|rfl|trivial,hK⟩
theorem xF(M:aC)(hw:M.WF)(g:eF)(hm:dV g=true):aB tb.P 39 [fX g] M fun y N=>y=i64 (eL g)∧aD M N []:=by
 refine aQy ?_
 unfold F39
 refine⟨_,_,_,_,_,rfl,?_⟩
 simp only[cY]
 have hg:=get_new M (.cells (cW g) true)
 have hK:=aD.new hw (.cells (cW g) true)
 refine aG (aS (cC hg).2.2.2.2.2) ?_
 refine⟨_,_,_,_,_,rfl,?_⟩
 refine (jP _ hK.wf g).mono ?_
 rintro y N ⟨rfl,hk⟩
 simp only[cO,hm]
 refine aT (fun h=>by simp at h) (fun _=>?_)
 refine aG (aS (cC (hk.get hK.wf hg (by simp))).2.2.2.2.2) ?_
 refine⟨_,_,_,_,_,rfl,?_⟩
 refine (aPA N hk.wf g).mono ?_
 rintro y N' ⟨rfl,hk'⟩
 simp only[i64,aJ]
 exact⟨by trivial,hK.trans0 (hk.trans0 hk')⟩
structure sD where
 t:Tg
 d:List (BitVec 8)
structure XB where
 v:List sD
 w:Int
 n:Int
structure Ps where
 g:eF
 fs:List nU
 x:List XB
 seq:Int
 ep:Int
 now:Int
 deg:Bool
 ops:Int
def nB(S:Ps):Nat:=S.g.bl.toNat
def nG(S:Ps):Nat:=S.g.pg.toNat
def bC(S:Ps)(b:Nat):Bool:=aDP S.fs b||(match S.x[b]? with|some B=>gK S.fs b B.n|none=>false)
def aP(S:Ps)(b:Nat):Nat:=match S.x[b]? with|some B=>B.v.length|none=>0
def aZ(S:Ps)(b:Nat):Int:=match S.x[b]? with|some B=>B.w|none=>0
def aOA(S:Ps)(is:Nat→Bool):Nat:=((List.range (nB S)).filter is).length
def cV(S:Ps)(b:Nat):Bool:= !bC S b
def fD(S:Ps)(b:Nat):Bool:=cV S b&&(aP S b==0)
def cX(S:Ps)(b:Nat):Bool:=cV S b&&(decide (0<aP S b)&&decide (aP S b<nG S))
def jR(S:Ps)(b:Nat):Bool:=cV S b&&(aP S b==nG S)
def dD(S:Ps):Nat:=aOA S (bC S)
def kG(S:Ps):Nat:=aOA S (fD S)
def eV(S:Ps):Int:=2+S.g.sp-dD S
def aLp(b:Nat):Nat→List sD→List Fd
 | _,[]=>[]
 | i,v::r=>⟨b,i,v.t⟩::aLp b (i+1) r
def aJM:Nat→List XB→List Fd
 | _,[]=>[]
 | b,B::r=>aLp b 0 B.v++aJM (b+1) r
def fds(S:Ps):List Fd:=aJM 0 S.x
def lN(last now:Int)(t:Tg):Option (Int×Bool):=
 if t.k=3 then some (-1,decide (t.e>last)) else if t.e>last then (if t.e=now then some (t.p,true) else none) else some (t.p,false)
def aOH(L:List Fd)(now:Int)(t:Tg):Bool:=match lN (cM L) now t with
 | none=>false
 | some c=>L.all fun u=> !(decide (lN (cM L) now u.t=some c)&&gA u.t t)
def bI(S:Ps)(b i:Nat):Option sD:=match S.x[b]? with|some B=>B.v[i]? |none=>none
def cH(S:Ps)(b i:Nat):Bool:=match bI S b i with|some v=>aOH (fds S) S.now v.t|none=>false
def dF(S:Ps)(b:Nat):Nat:=((List.range (aP S b)).filter (cH S b)).length
def dR(lt:Int→Int→Bool)(ws:Nat→Int)(gd:Nat→Bool):Nat→Int
 | 0=> -1
 | n+1=>if gd n&&(decide (dR lt ws gd n<0)||lt (ws n) (ws (dR lt ws gd n).toNat)) then (n:Int) else dR lt ws gd n
def cD(S:Ps):Int:=dR (fun a b=>decide (a<b)) (aZ S) (fD S) (nB S)
def eK(lv:Nat→Nat)(ws:Nat→Int)(may:Nat→Bool):Nat→Int
 | 0=> -1
 | n+1=>if may n&&(decide (eK lv ws may n<0)||(decide (lv n<lv (eK lv ws may n).toNat)||(lv n==lv (eK lv ws may n).toNat&&decide (ws n<ws (eK lv ws may n).toNat)))) then (n:Int) else eK lv ws may n
def jI(S:Ps):Ps×Int:=if (dD S:Int)≤S.g.sp then (S,0) else ({ S with deg:=true },12)
def bM(S:Ps)(b:Nat)(t:Tg)(d:List (BitVec 8)):Ps:=
 { S with seq:=S.seq+1,ops:=S.ops+1,x:=S.x.modify b fun B=>{ B with v:=B.v++[⟨{ t with s:=S.seq+1 },d⟩],n:=B.n+1 } }
def lB(S:Ps)(b:Nat)(t:Tg)(d:List (BitVec 8)):Ps×Int:=jI (bM S b t d)
def dL(S:Ps)(b:Nat):Ps:={ S with ops:=S.ops+1,x:=S.x.modify b fun B=>⟨[],B.w+1,B.n+1⟩ }
def xH(S:Ps)(b:Nat):Ps×Int:=if bC S b=true then (S,0) else jI (dL S b)
def wP(b:Nat)(live:Nat→Bool):Nat→Nat→Int→Ps→Ps×Int
 | 0,_,_,S=>xH S b
 | k+1,i,to,S=>
   match live i,bI S b i with
   | true,some v=>
     let to':Int:=if to<0 then cD S else if bC S to.toNat||aP S to.toNat==nG S then cD S else to
     if to'<0 then (S,8) else
      let r:=lB S to'.toNat v.t v.d
      if r.2≠0 then r else wP b live k (i+1) to' r.1
   | _,_=>wP b live k (i+1) to S
def gB(S:Ps)(b:Nat):Ps×Int:=wP b (cH S b) (nG S) 0 (-1) S
def kY(S:Ps):Int:=
 let a:=dR (fun a b=>decide (a<b)) (aZ S) (cV S) (nB S)
 let b:=dR (fun a b=>decide (a>b)) (aZ S) (cV S) (nB S)
 if a<0 then 0 else aZ S b.toNat-aZ S a.toNat
def wL:Nat→Ps→Ps×Int
 | 0,S=>(S,0)
 | k+1,S=>
   if kY S>S.g.tr then
    let r:=gB S (dR (fun a b=>decide (a<b)) (aZ S) (cV S) (nB S)).toNat
    if r.2≠0 then r else wL k r.1
   else (S,0)
def mO(S:Ps):Ps×Int:=wL (nB S) S
def iH(S:Ps):Int:=eK (dF S) (aZ S) (jR S) (nB S)
def cP(S:Ps):Ps×Int:=
 if iH S<0 then (S,8) else if dF S (iH S).toNat=nG S then (S,8) else
  let r:=gB S (iH S).toNat
  if r.2≠0 then r else mO r.1
def cK(is:Nat→Bool):Nat→Int
 | 0=> -1
 | n+1=>if cK is n≥0 then cK is n else if is n then (n:Int) else -1
def aEA:Nat→Ps→Ps×Int×Int
 | 0,S=>(S, -1,8)
 | k+1,S=>
   let o:=cK (cX S) (nB S)
   let o':=if o<0&&decide ((kG S:Int)>eV S) then cD S else o
   if o'≥0 then (S,o',0) else
    let r:=cP S
    if r.2≠0 then (r.1, -1,r.2) else aEA k r.1
def bA(S:Ps):Ps×Int×Int:=aEA (nB S*nG S) S
def gL(S:Ps)(t:Tg)(d:List (BitVec 8)):Ps×Int:=
 let r:=bA S
 if r.2.2≠0 then (r.1,r.2.2) else lB r.1 r.2.1.toNat { t with e:=r.1.now } d
end Go.Proofs.YteaogiidncpofaaGreat
