import Derived.Test.YteaogiidncpofaaGreatB3
import Derived.Test.YteaogiidncpofaaGreatQA
set_option linter.unusedSimpArgs false
set_option linter.unusedVariables false
set_option linter.unusedSectionVars false
set_option maxRecDepth 100000
namespace Go.Proofs.YteaogiidncpofaaGreat
open Go.AM
theorem gG:tb.ty.get 25=some ⟨.sli 5,1,24,[.slice none 0 0],none⟩:=by kernel_rfl
theorem vK:tb.ty.get 5=some ⟨.int .u8,1,1,[.int .u8 0],none⟩:=by kernel_rfl
def rZ(b:BitVec 8):AV:= .val (.int .u8 (b.toNat:Int))
def dH(l:List (BitVec 8)):List AV:=l.map rZ
@[simp] theorem fM (l:List (BitVec 8)):(dH l).length=l.length:=by simp[dH]
theorem iW(l m:List (BitVec 8)):dH (l++m)=dH l++dH m:=by simp[dH]
theorem tT(l:List (BitVec 8)):∀ v∈dH l,v.one=true:=by
 intro v hv
 obtain⟨b,_,rfl⟩:=List.mem_map.1 hv
 rfl
def aI(M:aC)(x:AV)(l:List (BitVec 8)):Prop:=aO 1 M x l.length (dH l)
theorem aI.len{M M':aC}{x:AV}{l:List (BitVec 8)}(h:aI M x l):bD tb false 25 x M'=some l.length:=aO.len h gG rfl
theorem aI.at{M:aC}{x:AV}{l:List (BitVec 8)}(h:aI M x l){i:Nat}(hi:i<l.length):
 ∃ b o,bJ tb 25 x (.val (.int .i64 (i:Int)))=some (.ptr b o)∧aY tb 5 (.ptr b o) M=some (.val (.int .u8 (l[i].toNat:Int))):=by
 obtain⟨b,o,h1,_,h2,_⟩:=aO.at h gG rfl vK rfl hi (k':= .i64)
 refine⟨b,o,h1,?_⟩
 unfold aY
 rw[vK]
 have:=h2 0 (by omega)
 simp only[TI.isAgg,cond_false]
 rw[Nat.add_zero,Nat.mul_one,Nat.add_zero] at this
 rw[this]
 simp[dH,hi,rZ]
theorem dE{i:Nat}(h:i<9223372036854775807):aM .i64 (i:Int) 1=((i+1:Nat):Int):=by
 rw[aM,aL (by omega) (by omega)];rfl
theorem aCt{l m:List (BitVec 8)}{i:Nat}(hl:i<l.length)(hm:i<m.length)(h:l.take i=m.take i)(he:l[i]=m[i]):l.take (i+1)=m.take (i+1):=by
 rw[List.take_succ_eq_append_getElem hl,List.take_succ_eq_append_getElem hm,h,he]
theorem aFO(M:aC)(x y:AV)(l m:List (BitVec 8))(hx:aI M x l)(hy:aI M y m)(hl:l.length≤9223372036854775806):
 aB tb.P 22 [x,y] M fun v N=>v= .val (.bool (decide (l=m)))∧N=M:=by
 refine aQB ?_
 unfold F22
 refine aG (iO hx.len) ?_
 simp only[aJ]
 refine aG (iO hy.len) ?_
 simp only[aJ]
 refine aT (fun hne=>?_) (fun heq=>?_)
 ·have:l≠m:=fun h=>by subst h;simp at hne
  simp[this]
 ·have hlen:l.length=m.length:=by simp at heq;omega
  refine⟨fun z n N=>∃ i:Nat,z=i∧n=l.length-i∧i≤l.length∧N=M∧l.take i=m.take i,⟨l.length,0,rfl,rfl,Nat.zero_le _,rfl,by simp⟩,?_⟩
  rintro _ z n N ⟨i,rfl,rfl,hi,rfl,htk⟩
  refine aG (iO hx.len) ?_
  simp only[aJ]
  refine aT (fun hlt=>?_) (fun hge=>?_)
  ·have hlt:i<l.length:=by simpa using hlt
   have hlt':i<m.length:=by omega
   obtain⟨b,o,hia,hld⟩:=hx.at hlt
   obtain⟨b',o',hia',hld'⟩:=hy.at hlt'
   refine aG (bH hia) ?_
   refine aG (bH hia') ?_
   refine aG (aS hld) ?_
   simp only[aJ]
   refine aG (aS hld') ?_
   simp only[aJ]
   refine aT (fun hd=>?_) (fun hd=>?_)
   ·have hne:l[i]≠m[i]:=fun h=>by rw[h] at hd;simp at hd
    have:l≠m:=fun h=>by subst h;exact hne rfl
    simp[this]
   ·have he:l[i]=m[i]:=by
     apply BitVec.eq_of_toNat_eq
     have:(l[i].toNat:Int)=m[i].toNat:=by simpa using hd
     omega
    exact⟨l.length-(i+1),by omega,i+1,dE (by omega),rfl,hlt,by trivial,aCt hlt hlt' htk he⟩
  ·have hge:i=l.length:=by have:¬ (i:Int)<l.length:=by simpa using hge
                           omega
   subst hge
   have:l=m:=by
    rw[List.take_of_length_le (Nat.le_refl _),List.take_of_length_le (by omega)] at htk
    exact htk
   simp[this]
theorem dX:tb.ty.get 3=some ⟨.int .i64,1,8,[.int .i64 0],none⟩:=by kernel_rfl
def i64(z:Int):AV:= .val (.int .i64 z)
def Gr(M:aC)(x:AV)(l:List (BitVec 8)):Prop:=(x= .val (.slice none 0 0)∧l=[])∨∃ b,oL 1 M x l.length (dH l) b
theorem Gr.at{M:aC}{x:AV}{l:List (BitVec 8)}(h:Gr M x l):aI M x l:=by
 rcases h with⟨rfl,rfl⟩|⟨b,h⟩
 ·exact aO.nil
 ·exact h.at
theorem Gr.mono{M N:aC}{x:AV}{l:List (BitVec 8)}(h:Gr M x l)(hk:∀ c r,aN x c→M.get c=some r→N.get c=some r):Gr N x l:=by
 rcases h with h|⟨b,h1,h2,h3,h4⟩
 ·exact .inl h
 ·exact .inr ⟨b,h1,h2,h3,hk b _ (by rw[h1];exact⟨by omega,rfl⟩) h4⟩
theorem aIo{M:aC}{b:Nat}{v:BitVec 8}{rw':Bool}(h:M.get b=some (.cells [rZ v] rw')):aI M (.sl b 0 1 1 none) [v]:=
 ⟨rfl,.inr ⟨b,0,1,none,rfl,⟨Nat.le_refl _,.inl rfl⟩,.inr ⟨_,_,h,Nat.le_refl _,rfl⟩⟩⟩
theorem aI.slice{M:aC}{x:AV}{l:List (BitVec 8)}(h:aI M x l){lo hi:Option AV}{a r:Nat}
 (hlo:(lo=none∧a=0)∨lo=some (.val (.int .i64 (a:Int)))) (hhi:(hi=none∧r=l.length)∨hi=some (.val (.int .i64 (r:Int)))) (har:a≤r) (hrn:r≤l.length):
 ∃ y,dN tb 25 x lo hi none=some y∧aI M y ((l.take r).drop a):=by
 obtain⟨y,h1,h2,_⟩:=aO.slice h gG rfl vK rfl (k1:= .i64) (k2:= .i64) hlo hhi har hrn
 refine⟨y,h1,?_⟩
 unfold aI
 have e1:((l.take r).drop a).length=r-a:=by simp;omega
 have e2:dH ((l.take r).drop a)=((dH l).drop (a*1)).take ((r-a)*1):=by
  unfold dH
  rw[Nat.mul_one,Nat.mul_one,List.map_drop,List.map_take,List.drop_take]
 rw[e1,e2];exact h2
theorem aLF(l:List (BitVec 8))(i:Nat)(v:BitVec 8):(dH l).set i (rZ v)=dH (l.set i v):=by simp[dH,List.map_set]
theorem aEG{M:aC}{b i:Nat}{l:List (BitVec 8)}(hg:M.get b=some (.cells (dH l) true))(hi:i<l.length)(v:BitVec 8):
 gT tb 5 (.ptr b i) (rZ v) M=some (M.put b (.cells (dH (l.set i v)) true)):=by
 have hc:(rZ v).cells=[rZ v]:=rfl
 have h1:aC2 [rZ v]=true:=rfl
 unfold gT
 rw[vK]
 simp only[hc,List.length_singleton,AM.beq_self,cond_true]
 unfold aC.storeAt
 rw[hg]
 simp only[fM,List.length_singleton,ble_of (show i+1≤l.length by omega),cond_true,h1,eU,fA,aLF]
theorem uM{l:List (BitVec 8)}{i:Nat}(h:i<l.length):l.getD i 0#8=l[i]:=by
 rw[List.getD_eq_getElem?_getD,List.getElem?_eq_getElem h];rfl
structure eZ (M N:aC) (x x':AV):Prop where
 wf:N.WF
 nxt:M.next≤N.next
 old:∀ c,c<M.next→¬ aN x c→N.get c=M.get c
 blk:∀ c,aN x' c→M.next≤c∨aN x c
theorem eZ.refl{M:aC}(hw:M.WF)(x:AV):eZ M M x x:=⟨hw,Nat.le_refl _,fun _ _ _=>rfl,fun _ h=> .inr h⟩
theorem eZ.trans{M N P:aC}{x x' x'':AV}(h:eZ M N x x')(k:eZ N P x' x''):eZ M P x x'':=
 ⟨k.wf,Nat.le_trans h.nxt k.nxt,fun c hc hx=>by
  have h1:¬ aN x' c:=fun h2=>by
   rcases h.blk c h2 with h3|h3
   ·omega
   ·exact hx h3
  rw[k.old c (Nat.lt_of_lt_of_le hc h.nxt) h1,h.old c hc hx],fun c hc=>by
  rcases k.blk c hc with h1|h1
  ·exact .inl (Nat.le_trans h.nxt h1)
  ·exact h.blk c h1⟩
theorem eZ.pre{M N P:aC}{x x':AV}(h:aD M N [])(k:eZ N P x x'):eZ M P x x':=
 ⟨k.wf,Nat.le_trans h.nxt k.nxt,fun c hc hx=>by rw[k.old c (Nat.lt_of_lt_of_le hc h.nxt) hx,h.old c hc (by simp)],fun c hc=>(k.blk c hc).imp (Nat.le_trans h.nxt) id⟩
theorem Gr.grow{M:aC}{x y:AV}{l m:List (BitVec 8)}(hw:M.WF)(h:Gr M x l)(hy:aI M y m)(hm:0<m.length)(hb:l.length+m.length≤1000000):
 ∃ x' N,aR tb 25 25 x y M=some (x',N)∧Gr N x' (l++m)∧eZ M N x x'∧∀ c,aN x' c→c=M.next:=by
 rcases h with⟨rfl,rfl⟩|⟨b,hg⟩
 ·obtain⟨N,h1,rfl⟩:=append_nil (T:=tb) (k:=1) gG rfl vK rfl hy hm ⟨by simp only;simp only[List.length_nil] at hb;omega,by simp only[List.length_nil] at hb;omega⟩
  refine⟨_,_,h1,?_,⟨hw.new _,Nat.le_succ _,fun c hc _=>?_,fun c hc=> .inl (by rw[← hc.2];exact Nat.le_refl _)⟩,fun c hc=>hc.2.symm⟩
  ·rw[List.nil_append]
   exact .inr ⟨M.next,rfl,hm,by simp,by rw[aC.get_new,if_pos rfl]⟩
  ·rw[aC.get_new,if_neg (by omega)]
 ·obtain⟨N,h1,rfl⟩:=iC (T:=tb) (k:=1) gG rfl vK rfl hg hy hm (tT m) ⟨by simp only;omega,by omega⟩
  refine⟨_,_,h1,?_,⟨(hw.kill _).new _,Nat.le_succ _,fun c hc hn=>?_,fun c hc=> .inl (by rw[← hc.2];exact Nat.le_refl _)⟩,fun c hc=>hc.2.symm⟩
  ·refine .inr ⟨M.next,by simp,by simp;omega,by simp,?_⟩
   rw[aC.get_new,if_pos (by rfl),iW]
  ·have hcb:c≠b:=fun he=>by
    subst he
    exact hn (by rw[hg.1];exact⟨by have:=hg.2.1;omega,rfl⟩)
   rw[aC.get_new,if_neg (by simp;omega),aC.get_kill,if_neg hcb]
theorem Gr.lit{M:aC}{x:AV}{l:List (BitVec 8)}(hw:M.WF)(h:Gr M x l)(m:List (BitVec 8))(hm:0<m.length)(hb:l.length+m.length≤1000000):
 ∃ x' N,aR tb 25 25 x (.sl M.next 0 m.length m.length none) (M.new (.cells (dH m) true))=some (x',N)∧Gr N x' (l++m)∧eZ M N x x':=by
 have hs:aI (M.new (.cells (dH m) true)) (.sl M.next 0 m.length m.length none) m:=
  ⟨by simp,.inr ⟨M.next,0,m.length,none,rfl,⟨Nat.le_refl _,.inl rfl⟩,.inr ⟨_,_,by rw[aC.get_new,if_pos rfl],by simp,by rw[List.drop_zero,Nat.mul_one,List.take_of_length_le (by simp)]⟩⟩⟩
 have hg:Gr (M.new (.cells (dH m) true)) x l:=h.mono fun c r _ hc=>by rw[aC.get_new,if_neg (by have:=hw c r hc;omega)];exact hc
 obtain⟨x',N,h1,h2,h3,_⟩:=Gr.grow (hw.new _) hg hs hm hb
 exact⟨x',N,h1,h2,h3.pre (aD.new hw _)⟩
theorem aHx(M:aC)(b o n c:Nat)(ex:Option Nat):cZ tb .eql 25 (.tmp 3) (.const (.slice none 0 0)) (.sl b o n c ex) (.val (.slice none 0 0)) M=some (.val (.bool false),M):=by
 refine cB ?_
 show (uK .eql (nZ tb 25 (.sl b o n c ex) (.val (.slice none 0 0))))=_
 unfold nZ
 rw[gG]
 rfl
theorem nN(M:aC)(hw:M.WF)(x:AV)(l:List (BitVec 8))(hx:aI M x l)(h0:0<l.length)(hl:l.length≤1000000):
 aB tb.P 40 [x] M fun y N=>Gr N y l∧aD M N []∧∀ c,aN y c→M.next≤c:=by
 refine aP6 ?_
 unfold F40
 rcases hx.2 with⟨_,hn⟩|⟨b,o,cp,ex,rfl,_⟩
 ·omega
 ·refine aG (aHx _ _ _ _ _ _) ?_
  simp only[cO]
  refine aT (fun h=>by cases h) (fun _=>?_)
  refine bE fun M3 hM3=>?_
  subst hM3
  have hw3:=hw.new (.cells [] true)
  have hx3:aI (M.new (.cells [] true)) (.sl b o l.length cp ex) l:=aO.keep0 hx hw (aD.new hw _)
  have hap:aR tb 25 25 (.sl M.next 0 0 0 none) (.sl b o l.length cp ex) (M.new (.cells [] true))=some (.sl (M.next+1) 0 l.length l.length (some 1),(M.new (.cells [] true)).new (.cells (dH l) true)):=by
   unfold aR oQ
   rw[gG]
   simp only[vK,aO.evLen hx3,aO.evFirst hx3,fM,Nat.mul_one,AM.beq_self,cond_true,Nat.zero_add,tU (show ¬ l.length≤0 by omega),cond_false]
   unfold iX sL
   simp only[Nat.zero_add,ble_of (show (3*l.length+4096)*1≤281474976710656 by omega),ble_of (show l.length≤1152921504606846976 by omega),cond_true]
   rfl
  refine aG hap ?_
  refine⟨.inr ⟨M.next+1,rfl,h0,by simp,by rw[aC.get_new,if_pos (by rfl)]⟩,(aD.new hw _).trans0 (aD.new hw3 _),fun c hc=>?_⟩
  have:=hc.2
  omega
theorem aEg(b:BitVec 8):IntKind.wrap .i64 (b.toNat:Int)=(b.toNat:Int):=by
 have:=b.isLt
 exact aL (by omega) (by omega)
theorem aLo(b:BitVec 8)(n:Nat)(hn:n<256):((b.toNat:Int) != (n:Int))=decide (b≠BitVec.ofNat 8 n):=by
 rw[Bool.eq_iff_iff]
 simp only[bne_iff_ne,ne_eq,decide_eq_true_eq]
 refine not_congr ⟨fun h=>BitVec.eq_of_toNat_eq ?_,fun h=>by rw[h];simp;omega⟩
 simp;omega
set_option maxRecDepth 100000
def bit(r:BitVec 32):BitVec 32:=if r &&& 1#32=1#32 then (r>>>1) ^^^ 3988292384#32 else r>>>1
def bits:Nat→BitVec 32→BitVec 32
 | 0,r=>r
 | n+1,r=>bits n (bit r)
def reg(r:BitVec 32)(l:List (BitVec 8)):BitVec 32:=l.foldl (fun r x=>bits 8 (r ^^^ x.setWidth 32)) r
def more(s:BitVec 32)(l:List (BitVec 8)):BitVec 32:= ~~~ (reg (~~~ s) l)
theorem aKK(r:BitVec 32)(l:List (BitVec 8))(i:Nat)(hi:i<l.length):reg r (l.take (i+1))=bits 8 (reg r (l.take i) ^^^ l[i].setWidth 32):=by
 rw[List.take_succ_eq_append_getElem hi]
 unfold reg
 rw[List.foldl_append]
 rfl
theorem aRL{r:BitVec 32}(h:r &&& 1#32=1#32):bit r=(r>>>1) ^^^ 3988292384#32:=by unfold bit;rw[if_pos h]
theorem aSb{r:BitVec 32}(h:¬ r &&& 1#32=1#32):bit r=r>>>1:=by unfold bit;rw[if_neg h]
theorem aEn(b:BitVec 8):IntKind.u32.wrap (b.toNat:Int)=((b.setWidth 32).toNat:Int):=by
 rw[aD0,BitVec.toNat_setWidth]
 have:=b.isLt
 omega
theorem aEf(a b:BitVec 32):yQ .u32 (a.toNat:Int) (b.toNat:Int)=((a ^^^ b).toNat:Int):=by
 show IntKind.u32.wrap ((BitVec.ofInt 32 (a.toNat:Int) ^^^ BitVec.ofInt 32 (b.toNat:Int)).toNat:Int)=_
 rw[qO,qO,qZ]
theorem aIB(a:BitVec 32):yQ .u32 (a.toNat:Int) 3988292384=((a ^^^ 3988292384#32).toNat:Int):=aEf a 3988292384#32
theorem aIr(a:BitVec 32):lI .u32 (a.toNat:Int) 1=((a &&& 1#32).toNat:Int):=by
 show IntKind.u32.wrap ((BitVec.ofInt 32 (a.toNat:Int) &&& BitVec.ofInt 32 ((1#32).toNat:Int)).toNat:Int)=_
 rw[qO,qO,qZ]
theorem aHZ(a:BitVec 32):gF .u32 (a.toNat:Int) 1=((a>>>1).toNat:Int):=by
 show Int.fdiv (a.toNat:Int) 2=_
 rw[Int.fdiv_eq_ediv_of_nonneg _ (by omega),BitVec.toNat_ushiftRight,Nat.shiftRight_eq_div_pow]
 omega
theorem aL3(a:BitVec 32):((a.toNat:Int)==1)=decide (a=1#32):=by
 rw[Bool.eq_iff_iff]
 simp only[beq_iff_eq,decide_eq_true_eq]
 constructor
 ·intro h;exact BitVec.eq_of_toNat_eq (by simp;omega)
 ·intro h;rw[h];rfl
theorem aJX(M:aC)(s:BitVec 32)(x:AV)(l:List (BitVec 8))(hx:aI M x l)(hl:l.length≤9223372036854775806):
 aB tb.P 187 [.val (.int .u32 s.toNat),x] M fun y N=>y= .val (.int .u32 (more s l).toNat)∧N=M:=by
 refine aME ?_
 unfold F187
 simp only[aJ]
 refine aG (aEV (aG7 _ s)) ?_
 simp only[ofV,aJ]
 refine aG (iO hx.len) ?_
 simp only[aJ]
 refine⟨fun z k n N=>∃ i:Nat,z=((reg (~~~ s) (l.take i)).toNat:Int)∧k=i∧n=l.length-i∧i≤l.length∧N=M,⟨l.length,0,rfl,rfl,rfl,Nat.zero_le _,rfl⟩,?_⟩
 rintro _ z k n N ⟨i,rfl,rfl,rfl,hi,rfl⟩
 refine aT (fun hlt=>?_) (fun hge=>?_)
 ·have hlt:i<l.length:=by simpa using hlt
  obtain⟨b,o,hia,hld⟩:=hx.at hlt
  refine aG (bH hia) ?_
  refine aG (aS hld) ?_
  simp only[aJ,aEn,aEf]
  refine⟨fun z k n N'=>∃ (r:BitVec 32) (q:Nat),z=(r.toNat:Int)∧k=((8-q:Nat):Int)∧q≤8∧n=q∧N'=N∧bits q r=reg (~~~ s) (l.take (i+1)),⟨8,_,8,rfl,rfl,Nat.le_refl _,rfl,rfl,(aKK _ l i hlt).symm⟩,?_⟩
  rintro _ z k n N' ⟨r,q,rfl,rfl,hq,rfl,rfl,hr⟩
  refine aT (fun hlt'=>?_) (fun hge'=>?_)
  ·have hn0:0<n:=by have:((8-n:Nat):Int)<8:=by simpa using hlt'
                    omega
   have hbits:bits (n-1) (bit r)=reg (~~~ s) (l.take (i+1)):=by
    rw[← hr,show n=(n-1)+1 by omega];rfl
   simp only[cY,aHZ,aIB,aIr,aL3,dE (show 8-n<9223372036854775807 by omega)]
   refine aT (fun hb=>?_) (fun hb=>?_)
   ·exact⟨n-1,by omega,_,n-1,rfl,by rw[show 8-(n-1)=8-n+1 by omega],by omega,rfl,by trivial,by rw[← aRL (by simpa using hb)];exact hbits⟩
   ·exact⟨n-1,by omega,_,n-1,rfl,by rw[show 8-(n-1)=8-n+1 by omega],by omega,rfl,by trivial,by rw[← aSb (by simpa using hb)];exact hbits⟩
  ·have hn0:n=0:=by have:¬ ((8-n:Nat):Int)<8:=by simpa using hge'
                    omega
   subst hn0
   refine⟨l.length-(i+1),by omega,i+1,?_,dE (by omega),rfl,hlt,rfl⟩
   rw[← hr];rfl
 ·have hge:i=l.length:=by have:¬ (i:Int)<l.length:=by simpa using hge
                          omega
  subst hge
  refine aG (aEV (aG7 _ _)) ?_
  simp only[ofV,aJ,List.take_length,more,and_self]
theorem aKe(M:aC)(x:AV)(l:List (BitVec 8))(hx:aI M x l)(hl:l.length≤9223372036854775806):
 aB tb.P 161 [x] M fun y N=>y= .val (.int .u32 (more 0#32 l).toNat)∧N=M:=by
 refine aL1 ((aJX M 0#32 x l hx hl).mono ?_)
 rintro y N ⟨rfl,rfl⟩
 simp only[aJ,and_self]
theorem xM:tb.ty.get 106=some ⟨.st [(0,1,false),(1,1,false),(2,1,false),(3,1,false)],4,32,[.int .i64 0,.int .i64 0,.int .i64 0,.int .i64 0],some [3,3,3,3]⟩:=by kernel_rfl
theorem aH9(M:aC)(a b c:Int):aB tb.P 157 [i64 a,i64 b,i64 c] M fun y N=>y= .val (.bool (decide (b≤a)&&decide (a≤c)))∧N=M:=by
 refine aNl ?_
 unfold F157
 simp only[i64,aJ,cY]
 refine aT (fun h=>?_) (fun h=>?_)
 ·have h:b≤a:=by simpa using h
  simp[h]
 ·have h:¬ b≤a:=by simpa using h
  simp[h]
def nD(k p s e:Int):Bool:=decide (1≤k∧k≤3∧0≤p∧p≤65535∧(k=3→p=0)∧0≤s∧s≤4294967295∧0≤e∧e≤16777215)
def aBv(k p s e:Int):AV:= .agg [i64 k,i64 p,i64 s,i64 e]
theorem hU{M:aC}{b:Nat}{k p s e:Int}(hg:M.get b=some (.cells [i64 k,i64 p,i64 s,i64 e] true)):
 aY tb 3 (.ptr b 0) M=some (i64 k)∧aY tb 3 (.ptr b 1) M=some (i64 p)∧aY tb 3 (.ptr b 2) M=some (i64 s)∧aY tb 3 (.ptr b 3) M=some (i64 e)∧aY tb 106 (.ptr b 0) M=some (aBv k p s e):=
 ⟨eB dX rfl hg rfl,eB dX rfl hg rfl,eB dX rfl hg rfl,eB dX rfl hg rfl,eC (n:=4) xM rfl rfl hg (by simp)⟩
theorem aOz(M:aC)(hw:M.WF)(k p s e:Int):aB tb.P 162 [aBv k p s e] M fun y N=>y= .val (.bool (nD k p s e))∧aD M N []:=by
 refine aM4 ?_
 unfold F162
 refine⟨k,p,s,e,rfl,?_⟩
 simp only[cY]
 have hg:(M.new (.cells [i64 k,i64 p,i64 s,i64 e] true)).get M.next=some (.cells [i64 k,i64 p,i64 s,i64 e] true):=by rw[aC.get_new,if_pos rfl]
 obtain⟨l0,l1,l2,l3,_⟩:=hU hg
 have hK:=aD.new hw (.cells [i64 k,i64 p,i64 s,i64 e] true)
 refine aG (aS l0) ?_
 simp only[i64,aJ]
 refine (aH9 _ k 1 3).mono ?_
 rintro y N ⟨rfl,rfl⟩
 simp only[cO]
 refine aT (fun h1=>?_) (fun h1=>⟨?_,hK⟩)
 rotate_left
 ·have:nD k p s e=false:=by
   unfold nD
   simp only[Bool.and_eq_false_iff,decide_eq_false_iff_not] at h1 ⊢
   omega
  rw[this]
 simp only[Bool.and_eq_true,decide_eq_true_eq] at h1
 refine aG (aS l1) ?_
 simp only[i64,aJ]
 refine (aH9 _ p 0 65535).mono ?_
 rintro y N ⟨rfl,rfl⟩
 simp only[cO]
 refine aT (fun h2=>?_) (fun h2=>⟨?_,hK⟩)
 rotate_left
 ·have:nD k p s e=false:=by
   unfold nD
   simp only[Bool.and_eq_false_iff,decide_eq_false_iff_not] at h2 ⊢
   omega
  rw[this]
 simp only[Bool.and_eq_true,decide_eq_true_eq] at h2
 have tail:(k=3→p=0)→aA (aH tb 3 (.ptr M.next 2) (M.new (.cells [i64 k,i64 p,i64 s,i64 e] true))) (fun y18=>zI .i64 y18.1 fun z19=>aB tb.P 157 [(.val (.int .i64 z19)),(.val (.int .i64 0)),(.val (.int .i64 4294967295))] (M.new (.cells [i64 k,i64 p,i64 s,i64 e] true)) fun y20 M21=>zB y20 fun b22=>
  aE (b22) (aA (aH tb 3 (.ptr M.next 3) M21) fun y23=>zI .i64 y23.1 fun z24=>aB tb.P 157 [(.val (.int .i64 z24)),(.val (.int .i64 0)),(.val (.int .i64 16777215))] M21 fun y25 M26=>zB y25 fun b27=>AV.val (.bool b27)= .val (.bool (nD k p s e))∧aD M M26 []) (AV.val (.bool false)= .val (.bool (nD k p s e))∧aD M M21 [])):=by
  intro h3
  refine aG (aS l2) ?_
  simp only[i64,aJ]
  refine (aH9 _ s 0 4294967295).mono ?_
  rintro y N ⟨rfl,rfl⟩
  simp only[cO]
  refine aT (fun h4=>?_) (fun h4=>⟨?_,hK⟩)
  ·simp only[Bool.and_eq_true,decide_eq_true_eq] at h4
   refine aG (aS l3) ?_
   simp only[i64,aJ]
   refine (aH9 _ e 0 16777215).mono ?_
   rintro y N ⟨rfl,rfl⟩
   simp only[cO]
   refine⟨?_,hK⟩
   congr 2
   unfold nD
   rw[Bool.eq_iff_iff]
   simp only[Bool.and_eq_true,decide_eq_true_eq]
   constructor
   ·intro h;exact⟨h1.1,h1.2,h2.1,h2.2,h3,h4.1,h4.2,h.1,h.2⟩
   ·intro h;exact⟨h.2.2.2.2.2.2.2.1,h.2.2.2.2.2.2.2.2⟩
  ·have:nD k p s e=false:=by
    unfold nD
    simp only[Bool.and_eq_false_iff,decide_eq_false_iff_not] at h4 ⊢
    omega
   rw[this]
 refine aG (aS l0) ?_
 simp only[i64,aJ]
 refine aT (fun h3=>?_) (fun h3=>?_)
 ·exact tail (fun h=>by subst h;simp at h3)
 ·refine aG (aS l1) ?_
  simp only[i64,aJ]
  refine aT (fun h5=>?_) (fun h5=>⟨?_,hK⟩)
  ·exact tail (fun _=>by simpa using h5)
  ·have hk3:k=3:=by simpa using h3
   have hp0:p≠0:=by simpa using h5
   have:nD k p s e=false:=by
    unfold nD
    simp only[decide_eq_false_iff_not]
    rintro⟨_,_,_,_,h,_⟩
    exact hp0 (h hk3)
   rw[this]
def vO(n:Int)(i:Nat):BitVec 8:=BitVec.ofInt 8 (n.fdiv (2^(8*i)))
def be(n:Int):Nat→List (BitVec 8)
 | 0=>[]
 | s+1=>vO n s::be n s
@[simp] theorem aIl (n:Int):∀ s,(be n s).length=s
  | 0=>rfl
  | s+1=>by simp[be,aIl n s]
theorem tA(z:Int):IntKind.wrap .u8 z=((BitVec.ofInt 8 z).toNat:Int):=by
 rw[vL,BitVec.toNat_ofInt]
 have:(0:Int)≤z%256:=by omega
 show z%256=((z%((2^8:Nat):Int)).toNat:Int)
 have e:((2^8:Nat):Int)=256:=rfl
 rw[e];omega
theorem aQS(xo yo:Operand)(n:Int)(i:Nat)(hi:i≤7)(M:aC):cZ tb .shr 3 xo yo (.val (.int .i64 n)) (.val (.int .i64 (bT .i64 8 (i:Int)))) M=some (.val (.int .i64 (n.fdiv (2^(8*i)))),M):=by
 refine cB ?_
 have e:bT .i64 8 (i:Int)=((8*i:Nat):Int):=by
  rw[bT,aL (by omega) (by omega)];omega
 rw[e]
 show (rC .shr .i64 n ((8*i:Nat):Int)).map AV.val=_
 unfold rC
 have h0:decide (((8*i:Nat):Int)<0)=false:=by rw[decide_eq_false_iff_not];omega
 have hb:IntKind.i64.bits=64:=rfl
 rw[h0,cond_false,hb,Int.toNat_natCast,Nat.min_eq_left (by omega)]
 rfl
theorem aPu(M:aC)(hw:M.WF)(x:AV)(l:List (BitVec 8))(n:Int)(size:Nat)(hx:Gr M x l)(hs:size≤8)(hl:l.length≤900000):
 ∃ J3:AV→Int→Nat→aC→Prop,(∃ n4:Nat,J3 x (aW .i64 (size:Int) 1) n4 M)∧
   ∀ (_:Nat→Option AV) (x5:AV) (z6:Int) (n7:Nat) (M8:aC),J3 x5 z6 n7 M8→
   (aE (decide (z6≥(0:Int))) (aA (cZ tb .shr 3 (.tmp 15) (.tmp 17) (.val (.int .i64 n)) (.val (.int .i64 (bT .i64 8 z6))) M8) fun y9=>zI .i64 y9.1 fun z10=>aK (M8.new (.cells [(.val (.int .u8 (IntKind.wrap .u8 z10)))] true)) fun M11=>aA (aR tb 25 25 x5 (.sl M8.next 0 1 1 none) M11) fun y12=>∃ k13:Nat,k13<n7∧
    (J3 y12.1 (aW .i64 z6 1) k13 y12.2)) (Gr M8 x5 (l++be n size)∧eZ M M8 x x5)):=by
 have eS:∀ j:Nat,j≤8→aW .i64 (j:Int) 1=(j:Int)-1:=fun j hj=>by rw[aW,aL (by omega) (by omega)]
 refine⟨fun u z q P=>∃ (j:Nat) (pre:List (BitVec 8)),z=(j:Int)-1∧q=j∧j≤size∧pre++be n j=be n size∧Gr P u (l++pre)∧eZ M P x u,⟨size,size,[],eS size hs,rfl,Nat.le_refl _,rfl,by simpa using hx,eZ.refl hw x⟩,?_⟩
 rintro _ u z q P ⟨j,pre,rfl,rfl,hj,hpre,hu,hgr⟩
 refine aT (fun hge=>?_) (fun hlt=>?_)
 ·have hj0:0<q:=by have:(q:Int)-1≥0:=by simpa using hge
                   omega
  obtain⟨i,rfl⟩:∃ i,q=i+1:=⟨q-1,by omega⟩
  have ei:((i+1:Nat):Int)-1=(i:Int):=by omega
  rw[ei]
  refine aG (aQS _ _ n i (by omega) P) ?_
  simp only[aJ,tA]
  have hlen:pre.length+(i+1)=size:=by
   have:=congrArg List.length hpre
   simpa using this
  obtain⟨u',P',h1,h2,h3⟩:=Gr.lit hgr.wf hu [vO n i] (by simp) (by simp;omega)
  refine bE fun P1 hP1=>?_
  subst hP1
  refine aG (show aR tb 25 25 u (.sl P.next 0 1 1 none) (P.new (.cells [.val (.int .u8 ((BitVec.ofInt 8 (n.fdiv (2^(8*i)))).toNat:Int))] true))=some (u',P') from h1) ?_
  refine⟨i,by omega,i,pre++[vO n i],eS i (by omega),rfl,by omega,?_,?_,hgr.trans h3⟩
  ·rw[List.append_assoc];exact hpre
  ·rw[← List.append_assoc];exact h2
 ·have hj0:q=0:=by have:¬ (q:Int)-1≥0:=by simpa using hlt
                   omega
  subst hj0
  have:pre=be n size:=by simpa[be] using hpre
  rw[← this]
  exact⟨hu,hgr⟩
def val(l:List (BitVec 8)):Nat:=l.foldl (fun n b=>n*256+b.toNat) 0
theorem aD3{l:List (BitVec 8)}{i:Nat}(h:i<l.length):val (l.take (i+1))=val (l.take i)*256+l[i].toNat:=by
 rw[List.take_succ_eq_append_getElem h]
 unfold val
 rw[List.foldl_append]
 rfl
theorem aJ6:∀ (l:List (BitVec 8)) (i:Nat),i≤l.length→val (l.take i)<256^i
 | l,0,_=>by simp[val]
 | l,i+1,h=>by
   rw[aD3 (by omega)]
   have h1:=aJ6 l i (by omega)
   have h2:=(l[i]'(by omega)).isLt
   have e:256^(i+1)=256^i*256:=Nat.pow_succ 256 i
   rw[e]
   have h3:(val (l.take i)+1)*256≤256^i*256:=Nat.mul_le_mul_right 256 h1
   omega
theorem aKZ(a:Nat)(b:BitVec 8)(ha:a<2^32):iOr .i64 (aCF .i64 (a:Int) 8) (IntKind.wrap .i64 (b.toNat:Int))=((a*256+b.toNat:Nat):Int):=by
 have hb:=b.isLt
 have hp:(2:Nat)^32=4294967296:=by decide
 rw[hp] at ha
 have e1:aCF .i64 (a:Int) 8=((a*256:Nat):Int):=by
  show IntKind.i64.wrap ((a:Int)*2^(min (8:Int).toNat IntKind.i64.bits))=_
  have:(2:Int)^(min (8:Int).toNat IntKind.i64.bits)=256:=by decide
  rw[this,aL (by omega) (by omega)];omega
 have e2:IntKind.wrap .i64 (b.toNat:Int)=(b.toNat:Int):=aL (by omega) (by omega)
 rw[e1,e2]
 show IntKind.i64.wrap ((BitVec.ofInt 64 ((a*256:Nat):Int) ||| BitVec.ofInt 64 (b.toNat:Int)).toNat:Int)=_
 have e3:(BitVec.ofInt 64 ((a*256:Nat):Int) ||| BitVec.ofInt 64 (b.toNat:Int)).toNat=a*256+b.toNat:=by
  rw[BitVec.toNat_or,BitVec.ofInt_natCast,BitVec.ofInt_natCast,BitVec.toNat_ofNat,BitVec.toNat_ofNat,Nat.mod_eq_of_lt (by omega),Nat.mod_eq_of_lt (by omega)]
  have:a*256=a<<<8:=by rw[Nat.shiftLeft_eq]
  rw[this]
  exact (Nat.shiftLeft_add_eq_or_of_lt (by omega) a).symm
 rw[e3,aL (by omega) (by omega)]
theorem aIm{l:List (BitVec 8)}(hl:l.length≤4){i:Nat}(hi:i≤l.length):val (l.take i)<4294967296:=by
 have h1:=aJ6 l i hi
 have h2:256^i≤256^4:=Nat.pow_le_pow_right (by omega) (by omega)
 have h3:(256:Nat)^4=4294967296:=by decide
 omega
theorem tP(M:aC)(x:AV)(l:List (BitVec 8))(hx:aI M x l)(hl:l.length≤4):
 aB tb.P 160 [x] M fun y N=>y=i64 (val l)∧N=M:=by
 refine aNf ?_
 unfold F160
 refine aG (iO hx.len) ?_
 simp only[aJ]
 refine⟨fun z k q P=>∃ i:Nat,k=i∧q=l.length-i∧i≤l.length∧z=(val (l.take i):Int)∧P=M,⟨l.length,0,rfl,rfl,Nat.zero_le _,rfl,rfl⟩,?_⟩
 rintro _ z k q P ⟨i,rfl,rfl,hi,rfl,rfl⟩
 refine aT (fun hlt=>?_) (fun hge=>?_)
 ·have hlt:i<l.length:=by simpa using hlt
  obtain⟨b,o,hia,hld⟩:=hx.at hlt
  refine aG (bH hia) ?_
  refine aG (aS hld) ?_
  simp only[aJ]
  have hsm:=aIm hl hi
  rw[aKZ _ _ (by omega),← aD3 hlt]
  exact⟨l.length-(i+1),by omega,i+1,dE (by omega),rfl,hlt,rfl,by trivial⟩
 ·have hge:i=l.length:=by have:¬ (i:Int)<l.length:=by simpa using hge
                          omega
  subst hge
  rw[List.take_length]
  exact⟨rfl,by trivial⟩
def body(d:List (BitVec 8))(k p s e:Int):List (BitVec 8):=d++[74#8,BitVec.ofInt 8 k]++be p 2++be s 4++be e 3
def pB(d:List (BitVec 8))(k p s e:Int):List (BitVec 8):=body d k p s e++be ((more 0#32 (body d k p s e)).toNat:Int) 4++[0#8]
def wD(d:List (BitVec 8))(k p s e:Int):Bool:=decide (24≤d.length∧d.length≤64)&&nD k p s e
@[simp] theorem aOM (d:List (BitVec 8)) (k p s e:Int):(body d k p s e).length=d.length+11:=by simp[body]
@[simp] theorem lG (d:List (BitVec 8)) (k p s e:Int):(pB d k p s e).length=d.length+16:=by simp[pB]
def aGt(M:aC)(d:List (BitVec 8))(k p s e:Int)(y:AV)(N:aC):Prop:=
 aD M N []∧((wD d k p s e=true∧∃ x,y= .tup [x,i64 0]∧Gr N x (pB d k p s e)∧∀ c,aN x c→M.next≤c)∨(wD d k p s e=false∧y= .tup [.val (.slice none 0 0),i64 2]))
structure aEk (M P:aC) (row:hY) (u:AV) (l:List (BitVec 8)):Prop where
 gr:Gr P u l
 wf:P.WF
 box:P.get M.next=some row
 fresh:∀ c,aN u c→M.next<c
 keep:aD M P []
theorem aEk.step{M P P':aC}{row:hY}{u u':AV}{l l':List (BitVec 8)}(h:aEk M P row u l)(hg:eZ P P' u u')(hl:Gr P' u' l'):aEk M P' row u' l':=
 ⟨hl,hg.wf,by
  rw[hg.old M.next (h.wf _ _ h.box) (fun hc=>by have:=h.fresh _ hc;omega)]
  exact h.box,fun c hc=>by
  rcases hg.blk c hc with h1|h1
  ·exact Nat.lt_of_lt_of_le (h.wf _ _ h.box) h1
  ·exact h.fresh c h1,⟨hg.wf,Nat.le_trans h.keep.nxt hg.nxt,fun c hc _=>by
  rw[hg.old c (Nat.lt_of_lt_of_le hc h.keep.nxt) (fun hi=>by have:=h.fresh c hi;omega)]
  exact h.keep.old c hc (by simp)⟩⟩
theorem aP4{M:aC}{b:Nat}{v w:BitVec 8}(h:M.get b=some (.cells [rZ v,rZ w] true)):aI M (.sl b 0 2 2 none) [v,w]:=
 ⟨rfl,.inr ⟨b,0,2,none,rfl,⟨Nat.le_refl _,.inl rfl⟩,.inr ⟨_,_,h,Nat.le_refl _,rfl⟩⟩⟩
theorem uX(s:BitVec 32):IntKind.wrap .i64 (s.toNat:Int)=(s.toNat:Int):=by
 have:=s.isLt
 exact aL (by omega) (by omega)
theorem aJR{P:Program}{f4 fs:FuncId}(M:aC)(k p s e:Int)(d:List (BitVec 8))(hd:d.length≤64)(u:AV)(P0:aC)(h:aEk M P0 (.cells [i64 k,i64 p,i64 s,i64 e] true) u (d++[74#8,BitVec.ofInt 8 k]))
 (hok:wD d k p s e=true)
 (hput:∀ (M:aC) (_:M.WF) (x:AV) (l:List (BitVec 8)) (n:Int) (size:Nat) (_:Gr M x l) (_:size≤8) (_:l.length≤900000),aB P f4 [x,i64 n,i64 size] M fun y N=>Gr N y (l++be n size)∧eZ M N x y)
 (hof:∀ (M:aC) (x:AV) (l:List (BitVec 8)) (_:aI M x l) (_:l.length≤9223372036854775806),aB P fs [x] M fun y N=>y= .val (.int .u32 (more 0#32 l).toNat)∧N=M):
 aA (aH tb 3 (.ptr M.next 1) P0) fun y30=>zI .i64 y30.1 fun z31=>aA (aH tb 3 (.ptr M.next 2) P0) fun y32=>zI .i64 y32.1 fun z33=>aA (aH tb 3 (.ptr M.next 3) P0) fun y34=>zI .i64 y34.1 fun z35=>aB P f4 [u,(.val (.int .i64 z31)),(.val (.int .i64 2))] P0 fun y36 M37=>(aA (aH tb 3 (.ptr M.next 2) M37) fun y38=>(some (.val (.int .i64 z33)):Option AV)=
  some y38.1)∧(aA (aH tb 3 (.ptr M.next 3) M37) fun y39=>(some (.val (.int .i64 z35)):Option AV)=some y39.1)∧
  (aB P f4 [y36,(.val (.int .i64 z33)),(.val (.int .i64 4))] M37 fun y40 M41=>(aA (aH tb 3 (.ptr M.next 3) M41) fun y42=>(some (.val (.int .i64 z35)):Option AV)=some y42.1)∧
  (aB P f4 [y40,(.val (.int .i64 z35)),(.val (.int .i64 3))] M41 fun y43 M44=>aB P fs [y43] M44 fun y45 M46=>zI .u32 y45 fun z47=>aB P f4 [y43,(.val (.int .i64 (IntKind.wrap .i64 z47))),(.val (.int .i64 4))] M46 fun y48 M49=>aK (M49.new (.cells [(.val (.int .u8 0))] true)) fun M50=>aA (aR tb 25 25 y48 (.sl M49.next 0 1 1 none) M50) fun y51=>aGt M d k p s e (.tup [y51.1,(.val (.int .i64 0))]) y51.2)):=by
 obtain⟨_,l1,l2,l3,_⟩:=hU h.box
 refine aG (aS l1) ?_
 simp only[i64,aJ]
 refine aG (aS l2) ?_
 simp only[i64,aJ]
 refine aG (aS l3) ?_
 simp only[i64,aJ]
 refine (hput P0 h.wf u _ p 2 h.gr (by omega) (by simp;omega)).mono ?_
 rintro u1 P1 ⟨g1,h1⟩
 have L1:=h.step h1 g1
 obtain⟨_,_,m2,m3,_⟩:=hU L1.box
 refine⟨aG (aS m2) rfl,aG (aS m3) rfl,?_⟩
 refine (hput P1 L1.wf u1 _ s 4 L1.gr (by omega) (by simp;omega)).mono ?_
 rintro u2 P2 ⟨g2,h2⟩
 have L2:=L1.step h2 g2
 obtain⟨_,_,_,n3,_⟩:=hU L2.box
 refine⟨aG (aS n3) rfl,?_⟩
 refine (hput P2 L2.wf u2 _ e 3 L2.gr (by omega) (by simp;omega)).mono ?_
 rintro u3 P3 ⟨g3,h3⟩
 have L3:=L2.step h3 g3
 refine (hof P3 u3 (body d k p s e) L3.gr.at (by simp;omega)).mono ?_
 rintro y P3' ⟨rfl,rfl⟩
 simp only[aJ,uX]
 refine (hput P3' L3.wf u3 (body d k p s e) ((more 0#32 (body d k p s e)).toNat:Int) 4 L3.gr (by omega) (by simp;omega)).mono ?_
 rintro u4 P4 ⟨g4,h4⟩
 have L4:=L3.step h4 g4
 refine bE fun P5 hP5=>?_
 subst hP5
 obtain⟨u5,P5,q1,q2,q3⟩:=Gr.lit L4.wf L4.gr [0#8] (by simp) (by simp;omega)
 refine aG (show aR tb 25 25 u4 (.sl P4.next 0 1 1 none) (P4.new (.cells [.val (.int .u8 0)] true))=some (u5,P5) from q1) ?_
 have L5:=L4.step q3 q2
 exact⟨L5.keep,.inl ⟨hok,u5,rfl,L5.gr,fun c hc=>by have:=L5.fresh c hc;omega⟩⟩
theorem aI.ld{M:aC}{x:AV}{l:List (BitVec 8)}(h:aI M x l)(i:Nat)(hi:i<l.length):
 ∃ b o,bJ tb 25 x (.val (.int .i64 (i:Int)))=some (.ptr b o)∧aN x b∧aY tb 5 (.ptr b o) M=some (.val (.int .u8 (l[i].toNat:Int)))∧
   ∀ N:aC,N.get b=M.get b→aY tb 5 (.ptr b o) N=some (.val (.int .u8 (l[i].toNat:Int))):=by
 obtain⟨b,o,h1,h0,h2,_⟩:=aO.at h gG rfl vK rfl hi (k':= .i64)
 have hld:∀ N:aC,N.get b=M.get b→aY tb 5 (.ptr b o) N=some (.val (.int .u8 (l[i].toNat:Int))):=fun N hN=>by
  unfold aY
  rw[vK]
  have:=h2 0 (by omega)
  simp only[TI.isAgg,cond_false]
  rw[Nat.add_zero,Nat.mul_one,Nat.add_zero] at this
  unfold aC.cellAt at this ⊢
  rw[hN,this]
  simp[dH,hi,rZ]
 exact⟨b,o,h1,h0,hld M rfl,hld⟩
theorem aRN(M:aC)(b:BitVec 8):aB tb.P 159 [.val (.int .u8 (b.toNat:Int))] M fun y N=>y= .val (.bool (decide (b≠255#8)))∧N=M:=by
 refine aNy ?_
 unfold F159
 simp only[aJ]
 refine⟨?_,by trivial⟩
 congr 2
 rw[Bool.eq_iff_iff]
 simp only[bne_iff_ne,ne_eq,decide_eq_true_eq]
 refine not_congr ⟨fun h=>BitVec.eq_of_toNat_eq ?_,fun h=>by rw[h];rfl⟩
 have:(255#8).toNat=255:=rfl
 omega
theorem aLy(M:aC)(x:AV)(l:List (BitVec 8))(hx:aI M x l)(hl:l.length≤1000000):
 aB tb.P 186 [x,.fn 159 [] []] M fun y N=>N=M∧((∃ i:Nat,y=i64 i∧∃ h:i<l.length,l[i]≠255#8)∨(y=i64 (-1)∧∀ b∈l,b=255#8)):=by
 refine aMR ?_
 unfold F186
 refine aG (iO hx.len) ?_
 simp only[aJ]
 refine⟨fun z q P=>∃ i:Nat,z=i∧q=l.length-i∧i≤l.length∧P=M∧∀ b∈l.take i,b=255#8,⟨l.length,0,rfl,rfl,Nat.zero_le _,rfl,by simp⟩,?_⟩
 rintro _ z q P ⟨i,rfl,rfl,hi,rfl,hall⟩
 refine aT (fun hlt=>?_) (fun hge=>?_)
 ·have hlt:i<l.length:=by simpa using hlt
  obtain⟨b,o,hia,hld⟩:=hx.at hlt
  refine aG (bH hia) ?_
  refine aG (aS hld) ?_
  simp only[aJ]
  refine zN aSw ?_
  refine (aRN P l[i]).mono ?_
  rintro y N ⟨rfl,rfl⟩
  simp only[cO]
  refine aT (fun h=>⟨by trivial,.inl ⟨i,rfl,hlt,by simpa using h⟩⟩) (fun h=>?_)
  have h:l[i]=255#8:=by simpa using h
  refine⟨l.length-(i+1),by omega,i+1,dE (by omega),rfl,hlt,by trivial,fun b hb=>?_⟩
  rw[List.take_succ_eq_append_getElem hlt,List.mem_append] at hb
  rcases hb with hb|hb
  ·exact hall b hb
  ·simp only[List.mem_singleton] at hb
   rw[hb,h]
 ·have hge:i=l.length:=by have:¬ (i:Int)<l.length:=by simpa using hge
                          omega
  subst hge
  rw[List.take_length] at hall
  exact⟨rfl,.inr ⟨rfl,hall⟩⟩
def qJ(l:List (BitVec 8)):Bool:=l.all fun b=>decide (b=255#8)
theorem aE4(M:aC)(x:AV)(l:List (BitVec 8))(hx:aI M x l)(hl:l.length≤1000000):
 aB tb.P 158 [x,.fn 159 [] []] M fun y N=>y= .val (.bool (!qJ l))∧N=M:=by
 refine aMI ?_
 unfold F158
 refine (aLy M x l hx hl).mono ?_
 rintro y N ⟨rfl,h⟩
 rcases h with⟨i,rfl,hi,hne⟩|⟨rfl,hall⟩
 ·simp only[i64,aJ]
  have:qJ l=false:=by
   unfold qJ
   rw[List.all_eq_false]
   exact⟨l[i],List.getElem_mem _,by simpa using hne⟩
  simp[this]
 ·simp only[i64,aJ]
  have:qJ l=true:=by
   unfold qJ
   rw[List.all_eq_true]
   exact fun b hb=>by simpa using hall b hb
  simp[this]
def fK(r:List (BitVec 8)):Int:=((r.getD 1 0#8).toNat:Int)
def fP(r:List (BitVec 8)):Int:=(val ((r.take 4).drop 2):Int)
def fS(r:List (BitVec 8)):Int:=(val ((r.take 8).drop 4):Int)
def fE(r:List (BitVec 8)):Int:=(val ((r.take 11).drop 8):Int)
def yD(l:List (BitVec 8)):Bool:=decide (40≤l.length∧l.length≤80)
def uZ(l:List (BitVec 8)):Bool:=
 let r:=l.drop (l.length-16)
 decide (r.getD 0 0#8=74#8∧r.getD 15 0#8=0#8∧val ((r.take 15).drop 11)=(more 0#32 (l.take (l.length-16+11))).toNat)&&nD (fK r) (fP r) (fS r) (fE r)
def gM(l:List (BitVec 8)):Nat:=if yD l=true then (if qJ l=true then 0 else if uZ l=true then 1 else 2) else 2
def aEj(M:aC)(l:List (BitVec 8))(y:AV)(N:aC):Prop:=
 aD M N []∧((gM l=1∧∃ x,y= .tup [x,aBv (fK (l.drop (l.length-16))) (fP (l.drop (l.length-16))) (fS (l.drop (l.length-16))) (fE (l.drop (l.length-16))),i64 1]∧Gr N x (l.take (l.length-16))∧∀ c,aN x c→M.next≤c)∨
  (gM l≠1∧y= .tup [.val (.slice none 0 0),aBv 0 0 0 0,i64 (gM l)]))
theorem aRY{N:aC}{b:Nat}{k p s e:Int}{x y:AV}(hg:N.get b=some (.cells [i64 k,i64 p,i64 s,i64 e] true)):fO tb [.v x,.c 106 (.ptr b 0),.v y] N=some (.tup [x,aBv k p s e,y]):=by
 obtain⟨_,_,_,_,la⟩:=hU hg
 unfold fO lF lF lF lF
 simp only[la,Option.map_some]
theorem aCr{N:aC}{b:Nat}{cs:List AV}(k p s e:Int)(hg:N.get b=some (.cells cs true))(hl:cs.length=4):
 gT tb 106 (.ptr b 0) (aBv k p s e) N=some (N.put b (.cells [i64 k,i64 p,i64 s,i64 e] true)):=
 pP xM rfl hg hl (by intro v hv;simp only[List.mem_cons,List.not_mem_nil,or_false] at hv;rcases hv with rfl|rfl|rfl|rfl <;> rfl)
theorem wI{M N:aC}{l:List (BitVec 8)}{k p s e:Int}(st:Nat)(hs:gM l=st)(h1:st≠1)(hg:N.get M.next=some (.cells [i64 k,i64 p,i64 s,i64 e] true))(hw:N.WF)(hk:aD M N []):
 aA (cL tb 106 (.ptr M.next 0) (.agg [(.val (.int .i64 0)),(.val (.int .i64 0)),(.val (.int .i64 0)),(.val (.int .i64 0))]) N) fun y7=>aA (fO tb [.v (.val (.slice none 0 0)),.c 106 (.ptr M.next 0),.v (.val (.int .i64 (st:Int)))] y7.2) fun x8=>aEj M l x8 y7.2:=by
 refine aG (oF (aCr 0 0 0 0 hg rfl)) ?_
 refine aG (aRY (k:=0) (p:=0) (s:=0) (e:=0) (by rw[aC.get_put,if_pos rfl])) ?_
 refine⟨⟨hw.put (hw _ _ hg) _,hk.nxt,fun c hc _=>?_⟩,.inr ⟨by rw[hs];exact h1,by rw[hs];rfl⟩⟩
 rw[aC.get_put,if_neg (by omega)]
 exact hk.old c hc (by simp)
theorem drop_take{α:Type}(l:List α)(i:Nat):(l.take l.length).drop i=l.drop i:=by rw[List.take_length]
theorem aPH(M:aC)(hw:M.WF)(x:AV)(l:List (BitVec 8))(hx:aI M x l)(hl:l.length≤1000000):aB tb.P 122 [x] M (aEj M l):=by
 refine aL0 ?_
 unfold F122
 refine bE fun M1 hM1=>?_
 have hM1':M1=M.new (.cells [i64 0,i64 0,i64 0,i64 0] true):=hM1
 clear hM1
 have hw1:M1.WF:=by rw[hM1'];exact hw.new _
 have hk1:aD M M1 []:=by rw[hM1'];exact aD.new hw _
 have hg1:M1.get M.next=some (.cells [i64 0,i64 0,i64 0,i64 0] true):=by rw[hM1',aC.get_new,if_pos rfl]
 have hn1:M.next<M1.next:=hw1 _ _ hg1
 clear hM1'
 have hx1:aI M1 x l:=aO.keep0 hx hw hk1
 refine aG (iO hx1.len) ?_
 have e16:aW .i64 (l.length:Int) 16=(l.length:Int)-16:=by rw[aW,aL (by omega) (by omega)]
 simp only[aJ,e16]
 refine (aH9 M1 ((l.length:Int)-16) 24 64).mono ?_
 rintro y N ⟨rfl,rfl⟩
 simp only[cO]
 refine aT (fun h=>?_) (fun h=>?_)
 ·have hno:yD l=false:=by
   unfold yD
   simp only[Bool.not_eq_true',Bool.and_eq_false_iff,decide_eq_false_iff_not] at h ⊢
   omega
  exact wI 2 (by unfold gM;rw[hno];simp) (by omega) hg1 hw1 hk1
 have hlen:40≤l.length∧l.length≤80:=by
  simp only[Bool.not_eq_false',Bool.and_eq_true,decide_eq_true_eq] at h
  omega
 have hlok:yD l=true:=by unfold yD;simpa using hlen
 obtain⟨n,hn⟩:∃ n,l.length=n+16:=⟨l.length-16,by omega⟩
 have en:(l.length:Int)-16=(n:Int):=by omega
 have hn16:l.length-16=n:=by omega
 rw[en]
 refine (aE4 N x l hx1 hl).mono ?_
 rintro y N2 ⟨rfl,rfl⟩
 simp only[cO,Bool.not_not]
 refine aT (fun h=>wI 0 (by unfold gM;rw[hlok,h];simp) (by omega) hg1 hw1 hk1) (fun hff=>?_)
 obtain⟨y14,s14,b14⟩:=hx1.slice (lo:=some (.val (.int .i64 (n:Int)))) (hi:=none) (a:=n) (r:=l.length) (.inr rfl) (.inl ⟨rfl,rfl⟩) (by omega) (Nat.le_refl _)
 rw[drop_take] at b14
 refine aG (fH s14) ?_
 generalize hr:l.drop n=r at b14
 have hrl:r.length=16:=by rw[← hr];simp;omega
 refine bE fun M3 hM3=>?_
 have hget3:∀ c,M3.get c=N2.get c:=fun c=>by rw[hM3];rfl
 have hw3:M3.WF:=by rw[hM3];intro b q hb;have:=hw1 b q hb;show b<N2.next+1;omega
 have hn3:M3.next=N2.next+1:=by rw[hM3]
 have b3:aI M3 y14 r:=aO.rows b14 (by rw[hM3])
 have hx3:aI M3 x l:=aO.rows hx1 (by rw[hM3])
 have hg3:M3.get M.next=some (.cells [i64 0,i64 0,i64 0,i64 0] true):=by rw[hget3];exact hg1
 have hk13:∀ c,c<M.next→M3.get c=M.get c:=fun c hc=>by rw[hget3];exact hk1.old c hc (by simp)
 clear hM3
 obtain⟨p1,o1,ia1,in1,ld1,ld1'⟩:=b3.ld 1 (by omega)
 refine aG (bH ia1) ?_
 simp only[bV]
 obtain⟨y2,s2,r2⟩:=b3.slice (lo:=some (.val (.int .i64 ((2:Nat):Int)))) (hi:=some (.val (.int .i64 ((4:Nat):Int)))) (a:=2) (r:=4) (.inr rfl) (.inr rfl) (by omega) (by omega)
 obtain⟨y4,s4,r4⟩:=b3.slice (lo:=some (.val (.int .i64 ((4:Nat):Int)))) (hi:=some (.val (.int .i64 ((8:Nat):Int)))) (a:=4) (r:=8) (.inr rfl) (.inr rfl) (by omega) (by omega)
 obtain⟨y8,s8,r8⟩:=b3.slice (lo:=some (.val (.int .i64 ((8:Nat):Int)))) (hi:=some (.val (.int .i64 ((11:Nat):Int)))) (a:=8) (r:=11) (.inr rfl) (.inr rfl) (by omega) (by omega)
 refine aG (fH s2) ?_
 refine aG (fH s4) ?_
 refine aG (fH s8) ?_
 refine aG (aS ld1) ?_
 simp only[aJ]
 refine (tP M3 y2 _ r2 (by simp;omega)).mono ?_
 rintro y N4 ⟨rfl,rfl⟩
 simp only[i64,aJ]
 refine⟨aG (aS ld1) rfl,?_⟩
 refine (tP N4 y4 _ r4 (by simp;omega)).mono ?_
 rintro y N5 ⟨rfl,rfl⟩
 simp only[i64,aJ]
 refine⟨aG (aS ld1) rfl,?_⟩
 refine (tP N5 y8 _ r8 (by simp;omega)).mono ?_
 rintro y N6 ⟨rfl,rfl⟩
 simp only[i64,aJ,aEg]
 refine⟨aG (aS ld1) rfl,?_⟩
 have ek:(r[1].toNat:Int)=fK r:=by unfold fK;rw[uM (by omega)]
 rw[ek]
 refine bE fun M7 hM7=>?_
 have hM7':M7=N6.put N2.next (.cells [i64 0,i64 0,i64 0,i64 0] true):=hM7
 clear hM7
 have hg7:M7.get N2.next=some (.cells [i64 0,i64 0,i64 0,i64 0] true):=by rw[hM7',aC.get_put,if_pos rfl]
 refine aG (oF (aCr (fK r) (fP r) (fS r) (fE r) hg7 rfl)) ?_
 rw[hM7',aC.put_put]
 clear hg7 hM7'
 generalize hM8:N6.put N2.next (.cells [i64 (fK r),i64 (fP r),i64 (fS r),i64 (fE r)] true)=M8
 have hw8:M8.WF:=by rw[← hM8];exact hw3.put (by omega) _
 have hg8:M8.get N2.next=some (.cells [i64 (fK r),i64 (fP r),i64 (fS r),i64 (fE r)] true):=by rw[← hM8,aC.get_put,if_pos rfl]
 have hg8':M8.get M.next=some (.cells [i64 0,i64 0,i64 0,i64 0] true):=by rw[← hM8,aC.get_put,if_neg (by omega)];exact hg3
 have hk8:aD M M8 []:=⟨hw8,by rw[← hM8];show M.next≤N6.next;omega,fun c hc _=>by rw[← hM8,aC.get_put,if_neg (by omega)];exact hk13 c hc⟩
 have hold8:∀ c,c<N2.next→M8.get c=N6.get c:=fun c hc=>by rw[← hM8,aC.get_put,if_neg (by omega)]
 have b8:aI M8 y14 r:=aO.mono b3 fun c q hc hq=>by
  rw[hold8 c (by have:=aO.blk_lt b14 hw1 hc;omega)];exact hq
 have hx8:aI M8 x l:=aO.mono hx3 fun c q hc hq=>by
  rw[hold8 c (by have:=aO.blk_lt hx1 hw1 hc;omega)];exact hq
 clear hM8
 refine bE fun K hK=>?_
 have bad:∀ M':aC,M'.WF→aD M8 M' []→uZ l=false→K true M':=by
  intro M' hw' hk' hv
  rw[hK]
  simp only[jF]
  exact wI 2 (by unfold gM;rw[hlok,hff,hv];simp) (by omega) (hk'.get hw8 hg8' (by simp)) hw' (hk8.trans0 hk')
 have hv:uZ l=(decide (r.getD 0 0#8=74#8∧r.getD 15 0#8=0#8∧val ((r.take 15).drop 11)=(more 0#32 (l.take (n+11))).toNat)&&nD (fK r) (fP r) (fS r) (fE r)):=by
  unfold uZ
  rw[hn16,hr]
 obtain⟨p0,o0,ia0,in0,ld0,_⟩:=b8.ld 0 (by omega)
 refine aG (bH ia0) ?_
 simp only[bV]
 refine aG (aS ld0) ?_
 simp only[aJ]
 rw[show ((r[0].toNat:Int) != 74)=decide (r[0]≠BitVec.ofNat 8 74) from aLo r[0] 74 (by omega)]
 have g0:r.getD 0 0#8=r[0]:=uM (by omega)
 have g15:r.getD 15 0#8=r[15]:=uM (by omega)
 refine aT (fun h=>bad M8 hw8 (aD.refl hw8) ?_) (fun h0=>?_)
 ·rw[hv,g0]
  have:r[0]≠74#8:=by simpa using h
  simp[this]
 have h0:r[0]=74#8:=by simpa using h0
 obtain⟨p15,o15,ia15,in15,ld15,_⟩:=b8.ld 15 (by omega)
 refine aG (bH ia15) ?_
 simp only[bV]
 refine aG (aS ld15) ?_
 simp only[aJ]
 rw[show ((r[15].toNat:Int) != 0)=decide (r[15]≠BitVec.ofNat 8 0) from aLo r[15] 0 (by omega)]
 refine aT (fun h=>bad M8 hw8 (aD.refl hw8) ?_) (fun h15=>?_)
 ·rw[hv,g15]
  have:r[15]≠0#8:=by simpa using h
  simp[this]
 have h15:r[15]=0#8:=by simpa using h15
 obtain⟨y11,s11,r11⟩:=b8.slice (lo:=some (.val (.int .i64 ((11:Nat):Int)))) (hi:=some (.val (.int .i64 ((15:Nat):Int)))) (a:=11) (r:=15) (.inr rfl) (.inr rfl) (by omega) (by omega)
 refine aG (fH s11) ?_
 have e11:aM .i64 (n:Int) 11=((n+11:Nat):Int):=by rw[aM,aL (by omega) (by omega)];rfl
 rw[e11]
 obtain⟨yb,sb,rb⟩:=hx8.slice (lo:=none) (hi:=some (.val (.int .i64 ((n+11:Nat):Int)))) (a:=0) (r:=n+11) (.inl ⟨rfl,rfl⟩) (.inr rfl) (by omega) (by omega)
 rw[List.drop_zero] at rb
 refine aG (fH sb) ?_
 refine (tP M8 y11 _ r11 (by simp;omega)).mono ?_
 rintro y N9 ⟨rfl,rfl⟩
 simp only[i64,aJ]
 refine (aKe N9 yb _ rb (by simp;omega)).mono ?_
 rintro y N10 ⟨rfl,rfl⟩
 simp only[aJ,uX]
 refine aT (fun h=>bad N10 hw8 (aD.refl hw8) ?_) (fun hc=>?_)
 ·rw[hv]
  have:¬ val ((r.take 15).drop 11)=(more 0#32 (l.take (n+11))).toNat:=fun he=>by rw[he] at h;simp at h
  simp[this]
 have hc:val ((r.take 15).drop 11)=(more 0#32 (l.take (n+11))).toNat:=by
  have:((val ((r.take 15).drop 11):Nat):Int)=((more 0#32 (l.take (n+11))).toNat:Int):=by simpa using hc
  omega
 obtain⟨_,_,_,_,la⟩:=hU hg8
 refine aG (aS la) ?_
 refine⟨fK r,fP r,fS r,fE r,rfl,?_⟩
 refine (aOz N10 hw8 (fK r) (fP r) (fS r) (fE r)).mono ?_
 rintro y N11 ⟨rfl,hk11⟩
 simp only[cO]
 have hvm:uZ l=nD (fK r) (fP r) (fS r) (fE r):=by
  rw[hv,g0,g15]
  simp[h0,h15,hc]
 cases hm:nD (fK r) (fP r) (fS r) (fE r) with
 | false=>exact bad N11 hk11.wf hk11 (by rw[hvm,hm])
 | true=>
   rw[hK]
   simp only[Bool.not_true,fG]
   clear bad hK
   have hx11:aI N11 x l:=aO.keep0 hx8 hw8 hk11
   obtain⟨yd,sd,rd⟩:=hx11.slice (lo:=none) (hi:=some (.val (.int .i64 (n:Int)))) (a:=0) (r:=n) (.inl ⟨rfl,rfl⟩) (.inr rfl) (by omega) (by omega)
   rw[List.drop_zero] at rd
   refine aG (fH sd) ?_
   have hg11:=hk11.get hw8 hg8 (by simp)
   have hg11':=hk11.get hw8 hg8' (by simp)
   obtain⟨_,_,_,_,la11⟩:=hU hg11
   refine aG (aS la11) ?_
   refine⟨fK r,fP r,fS r,fE r,rfl,?_⟩
   refine (nN N11 hk11.wf yd (l.take n) rd (by simp;omega) (by simp;omega)).mono ?_
   rintro u N12 ⟨hu,hk12,hf12⟩
   have hg12:=hk12.get hk11.wf hg11 (by simp)
   have hg12':=hk12.get hk11.wf hg11' (by simp)
   obtain⟨_,_,_,_,la12⟩:=hU hg12
   refine⟨aG (aS la12) rfl,?_⟩
   refine aG (oF (aCr (fK r) (fP r) (fS r) (fE r) hg12' rfl)) ?_
   refine aG (aRY (by rw[aC.get_put,if_pos rfl])) ?_
   have hkM:aD M N12 []:=(hk8.trans0 hk11).trans0 hk12
   refine⟨⟨hk12.wf.put (hk12.wf _ _ hg12') _,hkM.nxt,fun c hc' _=>by
    show (N12.put M.next _).get c=_
    rw[aC.get_put,if_neg (by omega)];exact hkM.old c hc' (by simp)⟩,.inl ⟨?_,u,?_,?_,fun c hc'=>?_⟩⟩
   ·unfold gM;rw[hlok,hff,hvm,hm];simp
   ·rw[hn16,hr];rfl
   ·rw[hn16]
    refine hu.mono fun c q hc' hq=>?_
    have h1:=hf12 c hc'
    have h2:=hk11.nxt
    have h3:=hk8.nxt
    show (N12.put M.next _).get c=_
    rw[aC.get_put,if_neg (by
     have:=hw8 _ _ hg8'
     omega)];exact hq
   ·have h1:=hf12 c hc'
    have h2:=hk11.nxt
    have h3:=hk8.nxt
    omega
theorem aGk(m s:Nat):(vO (m:Int) s).toNat=m/256^s%256:=by
 unfold vO
 have e:(2:Int)^(8*s)=((256^s:Nat):Int):=by
  rw[Int.pow_mul,show (2:Int)^8=((256:Nat):Int) from rfl,← Int.natCast_pow]
 rw[e,Int.fdiv_eq_ediv_of_nonneg _ (Int.natCast_nonneg _),← Int.natCast_ediv,BitVec.toNat_ofInt]
 have e2:((2^8:Nat):Int)=((256:Nat):Int):=rfl
 rw[e2,← Int.natCast_emod,Int.toNat_natCast]
def aCH(a:Nat)(l:List (BitVec 8)):Nat:=l.foldl (fun n b=>n*256+b.toNat) a
theorem aAO(m:Nat):∀ (s a:Nat),aCH a (be (m:Int) s)=a*256^s+m%256^s
 | 0,a=>by simp[aCH,be,Nat.mod_one]
 | s+1,a=>by
   show aCH (a*256+(vO (m:Int) s).toNat) (be (m:Int) s)=_
   rw[aAO m s,aGk,Nat.add_mul]
   have h1:256^(s+1)=256^s*256:=Nat.pow_succ 256 s
   have h2:m%(256^s*256)=m%256^s+256^s*(m/256^s%256):=Nat.mod_mul
   rw[h1,h2,Nat.mul_assoc,Nat.mul_comm 256,Nat.mul_comm (m/256^s%256)]
   omega
theorem aKR{m s:Nat}(h:m<256^s):val (be (m:Int) s)=m:=by
 have:=aAO m s 0
 rw[Nat.zero_mul,Nat.zero_add,Nat.mod_eq_of_lt h] at this
 exact this
def iJ(k p s e:Int)(c:BitVec 32):List (BitVec 8):=[74#8,BitVec.ofInt 8 k]++be p 2++be s 4++be e 3++be (c.toNat:Int) 4++[0#8]
theorem aHd(d:List (BitVec 8))(k p s e:Int):pB d k p s e=d++iJ k p s e (more 0#32 (body d k p s e)):=by
 simp only[pB,body,iJ,List.append_assoc]
@[simp] theorem aLq (k p s e:Int) (c:BitVec 32):(iJ k p s e c).length=16:=by simp[iJ]
theorem aCc(d:List (BitVec 8))(k p s e:Int):(pB d k p s e).drop ((pB d k p s e).length-16)=iJ k p s e (more 0#32 (body d k p s e)):=by
 rw[lG,Nat.add_sub_cancel,aHd,List.drop_left]
theorem aId(d:List (BitVec 8))(k p s e:Int):(pB d k p s e).take ((pB d k p s e).length-16+11)=body d k p s e:=by
 rw[lG,Nat.add_sub_cancel]
 unfold pB
 rw[List.append_assoc,List.take_left' (by simp)]
section
variable (k p s e:Int) (c:BitVec 32)
theorem aKY:(iJ k p s e c).getD 0 0#8=74#8:=rfl
theorem aJa:(iJ k p s e c).getD 1 0#8=BitVec.ofInt 8 k:=rfl
theorem aLb:((iJ k p s e c).take 4).drop 2=be p 2:=rfl
theorem aLg:((iJ k p s e c).take 8).drop 4=be s 4:=rfl
theorem aJf:((iJ k p s e c).take 11).drop 8=be e 3:=rfl
theorem aJV:((iJ k p s e c).take 15).drop 11=be (c.toNat:Int) 4:=rfl
theorem aIp:(iJ k p s e c).getD 15 0#8=0#8:=rfl
end
theorem sS{n:Int}{s:Nat}(h0:0≤n)(h:n<((256^s:Nat):Int)):(val (be n s):Int)=n:=by
 obtain⟨m,rfl⟩:∃ m:Nat,n=(m:Int):=⟨n.toNat,by omega⟩
 rw[aKR (Int.ofNat_lt.1 h)]
theorem aFd(c:BitVec 32):val (be (c.toNat:Int) 4)=c.toNat:=aKR (by
 have:=c.isLt
 have e:(256:Nat)^4=2^32:=by decide
 rw[e];exact this)
theorem nR{k p s e:Int}{c:BitVec 32}(h:nD k p s e=true):fK (iJ k p s e c)=k∧fP (iJ k p s e c)=p∧fS (iJ k p s e c)=s∧fE (iJ k p s e c)=e:=by
 unfold nD at h
 simp only[decide_eq_true_eq] at h
 obtain⟨h1,h2,h3,h4,h5,h6,h7,h8,h9⟩:=h
 have e2:((256^2:Nat):Int)=65536:=by decide
 have e4:((256^4:Nat):Int)=4294967296:=by decide
 have e3:((256^3:Nat):Int)=16777216:=by decide
 unfold fK fP fS fE
 rw[aJa,aLb,aLg,aJf,sS h3 (by omega),sS h6 (by omega),sS h8 (by omega)]
 refine⟨?_,rfl,rfl,rfl⟩
 rw[← tA,vL]
 omega
theorem aFt{d:List (BitVec 8)}{k p s e:Int}(h:wD d k p s e=true):uZ (pB d k p s e)=true:=by
 unfold wD at h
 rw[Bool.and_eq_true] at h
 obtain⟨f1,f2,f3,f4⟩:=nR (c:=more 0#32 (body d k p s e)) h.2
 unfold uZ
 simp only
 rw[aCc,aId,f1,f2,f3,f4,h.2,aKY,aIp,aJV,aFd]
 simp
theorem aDZ{l:List (BitVec 8)}{i:Nat}(hi:i<l.length)(h:l.getD i 0#8≠255#8):qJ l=false:=by
 unfold qJ
 rw[List.all_eq_false]
 refine⟨l[i],List.getElem_mem _,?_⟩
 rw[uM hi] at h
 simpa using h
theorem aHG(l:List (BitVec 8))(n i:Nat):(l.drop n).getD i 0#8=l.getD (n+i) 0#8:=by
 rw[List.getD_eq_getElem?_getD,List.getD_eq_getElem?_getD,List.getElem?_drop]
theorem aFv{l:List (BitVec 8)}(hl:16≤l.length)(h:uZ l=true):qJ l=false:=by
 unfold uZ at h
 simp only[Bool.and_eq_true,decide_eq_true_eq] at h
 have h0:=h.1.1
 rw[aHG] at h0
 refine aDZ (i:=l.length-16+0) (by omega) ?_
 rw[h0];decide
theorem aFF{d:List (BitVec 8)}{k p s e:Int}(h:wD d k p s e=true):gM (pB d k p s e)=1:=by
 have hv:=aFt h
 have hf:=aFv (by simp) hv
 unfold wD at h
 rw[Bool.and_eq_true,decide_eq_true_eq] at h
 have hl:yD (pB d k p s e)=true:=by
  unfold yD
  simp only[lG,decide_eq_true_eq]
  omega
 unfold gM
 rw[hl,hf,hv];rfl
structure eF where
 bl:Int
 pg:Int
 by':Int
 sp:Int
 tr:Int
def cW(g:eF):List AV:=[i64 g.bl,i64 g.pg,i64 g.by',i64 g.sp,i64 g.tr]
def fX(g:eF):AV:= .agg (cW g)
def bB(b p:Int):AV:= .agg [i64 b,i64 p]
def yI(a lo hi:Int):Bool:=decide (lo≤a)&&decide (a≤hi)
def dV(g:eF):Bool:=yI g.bl 8 20&&(yI g.pg 4 8&&(yI g.by' 24 64&&(yI g.sp 0 4&&(yI g.tr 2 20&&decide (12≤(g.bl-g.sp-3)*g.pg)))))
theorem aIx:tb.ty.get 23=some ⟨.st [(0,1,false),(1,1,false),(2,1,false),(3,1,false),(4,1,false)],5,40,[.int .i64 0,.int .i64 0,.int .i64 0,.int .i64 0,.int .i64 0],some [3,3,3,3,3]⟩:=by kernel_rfl
theorem pR:tb.ty.get 101=some ⟨.st [(0,1,false),(1,1,false)],2,16,[.int .i64 0,.int .i64 0],some [3,3]⟩:=by kernel_rfl
theorem ty4:tb.ty.get 4=some ⟨.bool,1,1,[.bool false],none⟩:=by kernel_rfl
theorem bP{g:eF}:dV g=true↔(8≤g.bl∧g.bl≤20)∧(4≤g.pg∧g.pg≤8)∧(24≤g.by'∧g.by'≤64)∧(0≤g.sp∧g.sp≤4)∧(2≤g.tr∧g.tr≤20)∧12≤(g.bl-g.sp-3)*g.pg:=by
 unfold dV yI
 simp only[Bool.and_eq_true,decide_eq_true_eq]
theorem cC{M:aC}{b:Nat}{g:eF}{rw':Bool}(hg:M.get b=some (.cells (cW g) rw')):
 aY tb 3 (.ptr b 0) M=some (i64 g.bl)∧aY tb 3 (.ptr b 1) M=some (i64 g.pg)∧aY tb 3 (.ptr b 2) M=some (i64 g.by')∧aY tb 3 (.ptr b 3) M=some (i64 g.sp)∧aY tb 3 (.ptr b 4) M=some (i64 g.tr)∧aY tb 23 (.ptr b 0) M=some (fX g):=
 ⟨eB dX rfl hg rfl,eB dX rfl hg rfl,eB dX rfl hg rfl,eB dX rfl hg rfl,eB dX rfl hg rfl,eC (n:=5) aIx rfl rfl hg (by simp[cW])⟩
theorem bO{M:aC}{b:Nat}{k p:Int}{rw':Bool}(hg:M.get b=some (.cells [i64 k,i64 p] rw')):
 aY tb 3 (.ptr b 0) M=some (i64 k)∧aY tb 3 (.ptr b 1) M=some (i64 p)∧aY tb 101 (.ptr b 0) M=some (bB k p):=
 ⟨eB dX rfl hg rfl,eB dX rfl hg rfl,eC (n:=2) pR rfl rfl hg (by simp)⟩
theorem get_new(M:aC)(r:hY):(M.new r).get M.next=some r:=by rw[aC.get_new,if_pos rfl]
theorem zK{a b:Int}(ha: -1000≤a)(ha2:a≤1000)(hb:0≤b)(hb2:b≤1000): -1000000≤a*b∧a*b≤1000000:=by
 constructor
 ·have h1:(-1000)*b≤a*b:=Int.mul_le_mul_of_nonneg_right ha hb
  omega
 ·have h1:a*b≤1000*b:=Int.mul_le_mul_of_nonneg_right ha2 hb
  omega
theorem aCq{bl sp pg:Int}(h1:8≤bl∧bl≤20)(h2:4≤pg∧pg≤8)(h3:0≤sp∧sp≤4):aW .i64 (bT .i64 (aW .i64 (aW .i64 bl sp) 3) pg) 4=(bl-sp-3)*pg-4∧ -1000000≤(bl-sp-3)*pg∧(bl-sp-3)*pg≤1000000:=by
 have hm:=zK (a:=bl-sp-3) (b:=pg) (by omega) (by omega) (by omega) (by omega)
 refine⟨?_,hm⟩
 have e1:aW .i64 bl sp=bl-sp:=by rw[aW,aL (by omega) (by omega)]
 have e2:aW .i64 (bl-sp) 3=bl-sp-3:=by rw[aW,aL (by omega) (by omega)]
 have e3:bT .i64 (bl-sp-3) pg=(bl-sp-3)*pg:=by rw[bT,aL (by omega) (by omega)]
 rw[e1,e2,e3,aW,aL (by omega) (by omega)]
theorem pJ(M:aC)(a b c:Int):aB tb.P 85 [i64 a,i64 b,i64 c] M fun y N=>y= .val (.bool (yI a b c))∧N=M:=by
 refine aOW ?_
 unfold F85 yI
 simp only[i64,aJ,cY]
 refine aT (fun h=>?_) (fun h=>?_)
 ·have h:b≤a:=by simpa using h
  simp[h]
 ·have h:¬ b≤a:=by simpa using h
  simp[h]
theorem aIg(M:aC)(hw:M.WF)(g:eF)(h1:8≤g.bl∧g.bl≤20)(h2:4≤g.pg∧g.pg≤8)(h3:0≤g.sp∧g.sp≤4):aB tb.P 73 [fX g] M fun y N=>(∃ z,y=i64 z∧decide (z≥4)=decide (12≤(g.bl-g.sp-3)*g.pg))∧aD M N []:=by
 refine aJW ?_
 unfold F73
 refine⟨_,_,_,_,_,rfl,?_⟩
 simp only[cY]
 have hg:=get_new M (.cells (cW g) true)
 obtain⟨l0,l1,l2,l3,l4,_⟩:=cC hg
 have hK:=aD.new hw (.cells (cW g) true)
 refine aG (aS l0) ?_
 simp only[i64,aJ]
 refine aG (aS l3) ?_
 simp only[i64,aJ]
 refine aG (aS l1) ?_
 simp only[i64,aJ]
 obtain⟨e,hb1,hb2⟩:=aCq h1 h2 h3
 rw[e]
 generalize (g.bl-g.sp-3)*g.pg=m at hb1 hb2 ⊢
 refine⟨⟨_,rfl,?_⟩,hK⟩
 by_cases hp:0≤m-4
 ·rw[kV,Int.tdiv_eq_ediv_of_nonneg hp,aL (by omega) (by omega),decide_eq_decide]
  omega
 ·have e5:(m-4).tdiv 2= -((4-m)/2):=by
   rw[show m-4= -(4-m) by omega,Int.neg_tdiv,Int.tdiv_eq_ediv_of_nonneg (by omega)]
  rw[kV,e5,aL (by omega) (by omega),decide_eq_decide]
  omega
theorem jP(M:aC)(hw:M.WF)(g:eF):aB tb.P 57 [fX g] M fun y N=>y= .val (.bool (dV g))∧aD M N []:=by
 refine aQT ?_
 unfold F57
 refine⟨_,_,_,_,_,rfl,?_⟩
 simp only[cY]
 have hg:=get_new M (.cells (cW g) true)
 obtain⟨l0,l1,l2,l3,l4,l5⟩:=cC hg
 have hK:=aD.new hw (.cells (cW g) true)
 unfold dV
 refine aG (aS l0) ?_
 simp only[i64,aJ]
 refine (pJ _ g.bl 8 20).mono ?_
 rintro y N ⟨rfl,rfl⟩
 simp only[cO]
 generalize hh0:yI g.bl 8 20=q0
 refine aT (fun h=>?_) (fun h=>⟨by rw[h];rfl,hK⟩)
 subst h
 rw[Bool.true_and]
 refine aG (aS l1) ?_
 simp only[i64,aJ]
 refine (pJ _ g.pg 4 8).mono ?_
 rintro y N ⟨rfl,rfl⟩
 simp only[cO]
 generalize hh1:yI g.pg 4 8=q1
 refine aT (fun h=>?_) (fun h=>⟨by rw[h];rfl,hK⟩)
 subst h
 rw[Bool.true_and]
 refine aG (aS l2) ?_
 simp only[i64,aJ]
 refine (pJ _ g.by' 24 64).mono ?_
 rintro y N ⟨rfl,rfl⟩
 simp only[cO]
 generalize hh2:yI g.by' 24 64=q2
 refine aT (fun h=>?_) (fun h=>⟨by rw[h];rfl,hK⟩)
 subst h
 rw[Bool.true_and]
 refine aG (aS l3) ?_
 simp only[i64,aJ]
 refine (pJ _ g.sp 0 4).mono ?_
 rintro y N ⟨rfl,rfl⟩
 simp only[cO]
 generalize hh3:yI g.sp 0 4=q3
 refine aT (fun h=>?_) (fun h=>⟨by rw[h];rfl,hK⟩)
 subst h
 rw[Bool.true_and]
 refine aG (aS l4) ?_
 simp only[i64,aJ]
 refine (pJ _ g.tr 2 20).mono ?_
 rintro y N ⟨rfl,rfl⟩
 simp only[cO]
 generalize hh4:yI g.tr 2 20=q4
 refine aT (fun h=>?_) (fun h=>⟨by rw[h];rfl,hK⟩)
 subst h
 rw[Bool.true_and]
 refine aG (aS l5) ?_
 refine⟨_,_,_,_,_,rfl,?_⟩
 unfold yI at hh0 hh1 hh3
 simp only[Bool.and_eq_true,decide_eq_true_eq] at hh0 hh1 hh3
 refine (aIg _ hK.wf g hh0 hh1 hh3).mono ?_
 rintro y N ⟨⟨z,rfl,hz⟩,hk2⟩
 simp only[i64,aJ]
 exact⟨by rw[hz],hK.trans0 hk2⟩
def aV(g:eF):Nat:=(g.by'+16).toNat
def isG(g:eF)(b p:Int):Bool:=yI b 0 (g.bl-1)&&yI p 0 (g.pg-1)
theorem aJg(M:aC)(hw:M.WF)(g:eF)(h:dV g=true)(n:Int):aB tb.P 60 [fX g,i64 n] M fun y N=>y=i64 n∧aD M N []:=by
 refine aPj ?_
 unfold F60
 refine⟨_,_,_,_,_,rfl,?_⟩
 simp only[cY,i64,aJ]
 have hg:=get_new M (.cells (cW g) true)
 obtain⟨l0,l1,l2,l3,l4,l5⟩:=cC hg
 have hK:=aD.new hw (.cells (cW g) true)
 refine aG (aS l5) ?_
 refine⟨_,_,_,_,_,rfl,?_⟩
 refine (jP _ hK.wf g).mono ?_
 rintro y N ⟨rfl,hk⟩
 simp only[cO,h]
 exact aT (fun h=>by simp at h) (fun _=>⟨by trivial,hK.trans0 hk⟩)
theorem aJN(M:aC)(hw:M.WF)(g:eF)(h:dV g=true):aB tb.P 31 [fX g] M fun y N=>y=i64 (aV g)∧aD M N []:=by
 refine aO0 ?_
 unfold F31
 refine⟨_,_,_,_,_,rfl,?_⟩
 simp only[cY]
 have hg:=get_new M (.cells (cW g) true)
 obtain⟨l0,l1,l2,l3,l4,l5⟩:=cC hg
 have hK:=aD.new hw (.cells (cW g) true)
 refine aG (aS l5) ?_
 refine⟨_,_,_,_,_,rfl,?_⟩
 refine aG (aS l2) ?_
 simp only[i64,aJ]
 refine aG (aS l5) ?_
 refine⟨_,_,_,_,_,rfl,?_⟩
 refine (aJg _ hK.wf g h _).mono ?_
 rintro y N ⟨rfl,hk⟩
 simp only[i64,aJ]
 have hg2:=hk.get hK.wf hg (by simp)
 obtain⟨_,_,_,_,_,m5⟩:=cC hg2
 refine⟨aG (aS m5) rfl,?_⟩
 refine (aJg _ hk.wf g h _).mono ?_
 rintro y N' ⟨rfl,hk'⟩
 simp only[i64,aJ]
 refine⟨?_,hK.trans0 (hk.trans0 hk')⟩
 have hm:=bP.1 h
 rw[aM,aL (by omega) (by omega)]
 unfold aV
 congr 3
 omega
theorem aRw(M:aC)(hw:M.WF)(g:eF)(h:dV g=true)(b p:Int):aB tb.P 120 [fX g,bB b p] M fun y N=>y= .val (.bool (isG g b p))∧aD M N []:=by
 refine aMs ?_
 unfold F120
 refine⟨_,_,_,_,_,rfl,_,_,rfl,?_⟩
 simp only[cY]
 have hg:=get_new M (.cells (cW g) true)
 have hK:=aD.new hw (.cells (cW g) true)
 have hK2:=aD.new hK.wf (.cells [i64 b,i64 p] true)
 have hg2:=hK2.get hK.wf hg (by simp)
 have hp2:=get_new (M.new (.cells (cW g) true)) (.cells [i64 b,i64 p] true)
 obtain⟨l0,l1,l2,l3,l4,l5⟩:=cC hg2
 refine aG (aS l5) ?_
 refine⟨_,_,_,_,_,rfl,?_⟩
 refine (jP _ hK2.wf g).mono ?_
 rintro y N ⟨rfl,hk⟩
 simp only[cO,h]
 refine aT (fun _=>?_) (fun h=>by simp at h)
 have hgN:=hk.get hK2.wf hg2 (by simp)
 have hpN:=hk.get hK2.wf hp2 (by simp)
 obtain⟨k0,k1,_⟩:=cC hgN
 obtain⟨p0,p1,_⟩:=bO hpN
 have hm:=bP.1 h
 have hall:=hK.trans0 (hK2.trans0 hk)
 unfold isG
 refine aG (aS p0) ?_
 simp only[i64,aJ]
 refine aG (aS k0) ?_
 simp only[i64,aJ]
 rw[show aW .i64 g.bl 1=g.bl-1 by rw[aW,aL (by omega) (by omega)]]
 refine (pJ _ _ _ _).mono ?_
 rintro y N' ⟨rfl,rfl⟩
 simp only[cO]
 refine aT (fun hb=>?_) (fun hb=>⟨by rw[hb];rfl,hall⟩)
 rw[hb,Bool.true_and]
 refine aG (aS p1) ?_
 simp only[i64,aJ]
 refine aG (aS k1) ?_
 simp only[i64,aJ]
 rw[show aW .i64 g.pg 1=g.pg-1 by rw[aW,aL (by omega) (by omega)]]
 refine (pJ _ _ _ _).mono ?_
 rintro y N' ⟨rfl,rfl⟩
 simp only[cO]
 exact⟨by trivial,hall⟩
theorem aBm(M:aC)(hw:M.WF)(g:eF)(h:dV g=true)(b p:Int):aB tb.P 90 [fX g,bB b p] M fun y N=>(∃ z,y=i64 z∧decide (z<0)= !isG g b p)∧aD M N []:=by
 refine aKd ?_
 unfold F90
 refine⟨_,_,_,_,_,rfl,_,_,rfl,?_⟩
 simp only[cY]
 have hg:=get_new M (.cells (cW g) true)
 have hK:=aD.new hw (.cells (cW g) true)
 have hK2:=aD.new hK.wf (.cells [i64 b,i64 p] true)
 have hg2:=hK2.get hK.wf hg (by simp)
 have hp2:=get_new (M.new (.cells (cW g) true)) (.cells [i64 b,i64 p] true)
 obtain⟨l0,l1,l2,l3,l4,l5⟩:=cC hg2
 refine aG (aS l5) ?_
 refine⟨_,_,_,_,_,rfl,?_⟩
 refine (jP _ hK2.wf g).mono ?_
 rintro y N ⟨rfl,hk⟩
 simp only[cO,h]
 refine aT (fun h=>by simp at h) (fun _=>?_)
 have hgN:=hk.get hK2.wf hg2 (by simp)
 have hpN:=hk.get hK2.wf hp2 (by simp)
 obtain⟨_,_,_,_,_,k5⟩:=cC hgN
 obtain⟨_,_,p2⟩:=bO hpN
 refine aG (aS k5) ?_
 refine⟨_,_,_,_,_,rfl,?_⟩
 refine aG (aS p2) ?_
 refine⟨_,_,rfl,?_⟩
 refine (aRw _ hk.wf g h b p).mono ?_
 rintro y N' ⟨rfl,hk'⟩
 simp only[cO]
 have hall:=hK.trans0 (hK2.trans0 (hk.trans0 hk'))
 refine aT (fun hi=>?_) (fun hi=>?_)
 ·refine⟨⟨-1,rfl,?_⟩,hall⟩
  rw[hi];rfl
 have hi:isG g b p=true:=by simpa using hi
 obtain⟨_,k1,_⟩:=cC (hk'.get hk.wf hgN (by simp))
 obtain⟨p0,p1,_⟩:=bO (hk'.get hk.wf hpN (by simp))
 refine aG (aS p0) ?_
 simp only[i64,aJ]
 refine aG (aS k1) ?_
 simp only[i64,aJ]
 refine aG (aS p1) ?_
 simp only[i64,aJ]
 refine⟨⟨_,rfl,?_⟩,hall⟩
 rw[hi]
 unfold isG yI at hi
 simp only[Bool.and_eq_true,decide_eq_true_eq] at hi
 have hm:=bP.1 h
 have hb:=zK (a:=b) (b:=g.pg) (by omega) (by omega) (by omega) (by omega)
 have hn:0≤b*g.pg:=Int.mul_nonneg (by omega) (by omega)
 rw[bT,aL (n:=b*g.pg) (by omega) (by omega),aM,aL (by omega) (by omega)]
 simp only[Bool.not_true,decide_eq_false_iff_not]
 omega
structure nU where
 blk:Int
 fac:Bool
 aft:Int
def hZ(f:nU):List AV:=[i64 f.blk,.val (.bool f.fac),i64 f.aft]
def aHQ(f:nU):AV:= .agg (hZ f)
theorem aAE(f:nU):(hZ f).length=3:=rfl
def eG(M:aC)(x:AV)(fs:List nU):Prop:=aO 3 M x fs.length (fs.flatMap hZ)
theorem aIK:tb.ty.get 62=some ⟨.st [(0,1,false),(1,1,false),(2,1,false)],3,24,[.int .i64 0,.bool false,.int .i64 0],some [3,4,3]⟩:=by kernel_rfl
theorem aF3:tb.ty.get 24=some ⟨.sli 62,1,24,[.slice none 0 0],none⟩:=by kernel_rfl
theorem eG.len{M M':aC}{x:AV}{fs:List nU}(h:eG M x fs):bD tb false 24 x M'=some fs.length:=aO.len h aF3 rfl
theorem eG.at{M:aC}{x:AV}{fs:List nU}(h:eG M x fs){i:Nat}(hi:i<fs.length):
 ∃ b o,bJ tb 24 x (.val (.int .i64 (i:Int)))=some (.ptr b o)∧aY tb 62 (.ptr b o) M=some (aHQ fs[i]):=by
 obtain⟨b,o,h1,h2⟩:=aO.ldAgg h aF3 rfl aIK rfl rfl hi (k':= .i64)
 rw[rL aAE hi] at h2
 exact⟨b,o,h1,h2⟩
theorem wM{M:aC}{b:Nat}{f:nU}{rw':Bool}(hg:M.get b=some (.cells (hZ f) rw')):
 aY tb 3 (.ptr b 0) M=some (i64 f.blk)∧aY tb 4 (.ptr b 1) M=some (.val (.bool f.fac))∧aY tb 3 (.ptr b 2) M=some (i64 f.aft)∧aY tb 62 (.ptr b 0) M=some (aHQ f):=
 ⟨eB dX rfl hg rfl,eB ty4 rfl hg rfl,eB dX rfl hg rfl,eC (n:=3) aIK rfl rfl hg (by simp[hZ])⟩
theorem wJ{M:aC}{b:Nat}{cs:List AV}(f:nU)(hg:M.get b=some (.cells cs true))(hl:cs.length=3):gT tb 62 (.ptr b 0) (aHQ f) M=some (M.put b (.cells (hZ f) true)):=
 pP aIK rfl hg hl (by intro v hv;simp only[hZ,List.mem_cons,List.not_mem_nil,or_false] at hv;rcases hv with rfl|rfl|rfl <;> rfl)
theorem aNn(M:aC)(hw:M.WF)(f:nU)(q:Nat)(b:Int){rw':Bool}(hq:M.get q=some (.cells [i64 b] rw')):aB tb.P 87 [aHQ f,.ptr q 0] M fun y N=>y= .val (.bool (f.blk==b))∧aD M N []:=by
 refine aPd ?_
 unfold F87
 refine⟨_,_,_,rfl,?_⟩
 simp only[cY]
 have hg:=get_new M (.cells (hZ f) true)
 obtain⟨l0,_⟩:=wM hg
 have hK:=aD.new hw (.cells (hZ f) true)
 refine aG (aS l0) ?_
 simp only[i64,aJ]
 have l1:aY tb 3 (.ptr q 0) (M.new (.cells (hZ f) true))=some (i64 b):=eB dX rfl (hK.get hw hq (by simp)) rfl
 refine aG (aS l1) ?_
 simp only[i64,aJ]
 exact⟨by trivial,hK⟩
theorem aRJ:tb.fn.get 87=some Tryz.f87:=aST
theorem aN6(M:aC)(hw:M.WF)(x:AV)(fs:List nU)(hx:eG M x fs)(hl:fs.length≤1000)(q:Nat)(b:Int){rw':Bool}(hq:M.get q=some (.cells [i64 b] rw')):
 aB tb.P 86 [x,.fn 87 [] [.ptr q 0]] M fun y N=>aD M N []∧((∃ (i:Nat) (h:i<fs.length),y=i64 i∧fs[i].blk=b∧∀ (j:Nat) (hj:j<i),fs[j].blk≠b)∨(y=i64 (-1)∧∀ f∈fs,f.blk≠b)):=by
 refine aOU ?_
 unfold F86
 refine aG (iO hx.len) ?_
 simp only[aJ]
 refine⟨fun z n N=>∃ i:Nat,z=i∧n=fs.length-i∧i≤fs.length∧aD M N []∧∀ (j:Nat) (hj:j<fs.length),j<i→fs[j].blk≠b,⟨fs.length,0,rfl,rfl,Nat.zero_le _,aD.refl hw,fun j _ h=>by omega⟩,?_⟩
 rintro _ z n N ⟨i,rfl,rfl,hi,hk,hne⟩
 have hxN:eG N x fs:=aO.keep0 hx hw hk
 have hqN:=hk.get hw hq (by simp)
 refine aT (fun hlt=>?_) (fun hge=>?_)
 ·have hlt:i<fs.length:=by simpa using hlt
  obtain⟨p,o,h1,h2⟩:=hxN.at hlt
  refine aG (bH h1) ?_
  simp only[bV]
  refine aG (aS h2) ?_
  refine⟨_,_,_,rfl,?_⟩
  refine zN aRJ ?_
  refine (aNn N hk.wf fs[i] q b hqN).mono ?_
  rintro y N1 ⟨rfl,hk1⟩
  simp only[cO]
  refine aT (fun h=>?_) (fun h=>?_)
  ·exact⟨hk.trans0 hk1,.inl ⟨i,hlt,rfl,by simpa using h,fun j hj=>hne j (by omega) hj⟩⟩
  ·refine⟨fs.length-(i+1),by omega,i+1,dE (by omega),rfl,hlt,hk.trans0 hk1,fun j hj hji=>?_⟩
   by_cases hji':j=i
   ·subst hji';simpa using h
   ·exact hne j hj (by omega)
 ·have hge:i=fs.length:=by have:¬ (i:Int)<fs.length:=by simpa using hge
                           omega
  subst hge
  refine⟨hk,.inr ⟨rfl,fun f hf=>?_⟩⟩
  obtain⟨j,hj,rfl⟩:=List.getElem_of_mem hf
  exact hne j hj hj
def jA(fs:List nU)(b:Int):Option nU:=fs.find? fun f=>f.blk==b
def oM:nU:=⟨0,false,0⟩
theorem aFD(M:aC)(hw:M.WF)(x:AV)(fs:List nU)(hx:eG M x fs)(hl:fs.length≤1000)(b:Int):
 aB tb.P 58 [x,i64 b] M fun y N=>y= .tup [aHQ ((jA fs b).getD oM),.val (.bool (jA fs b).isSome)]∧aD M N []:=by
 refine aQ6 ?_
 unfold F58
 simp only[cY,i64,aJ]
 have hK:=aD.new hw (.cells [i64 b] true)
 have hK2:=aD.new hK.wf (.cells (hZ oM) true)
 have hq:=hK2.get hK.wf (get_new M (.cells [i64 b] true)) (by simp)
 have hf2:=get_new (M.new (.cells [i64 b] true)) (.cells (hZ oM) true)
 have hk2:=hK.trans0 hK2
 refine (aN6 _ hK2.wf x fs (aO.keep0 hx hw hk2) hl M.next b hq).mono ?_
 rintro y N ⟨hk,h⟩
 have hfN:=hk.get hK2.wf hf2 (by simp)
 have hall:=hk2.trans0 hk
 have hxN:eG N x fs:=aO.keep0 hx hw hall
 have fin:∀ f:nU,aD M (N.put (M.new (.cells [i64 b] true)).next (.cells (hZ f) true)) []:=fun f=>by
  refine hall.trans (aD.put hk.wf (hk.wf _ _ hfN) _) (by simp) (fun c hc hlt=>?_)
  simp only[List.mem_singleton] at hc
  subst hc
  exact absurd hlt (by simp)
 have res:∀ (f:nU) (o:Bool),fO tb [.c 62 (.ptr (M.new (.cells [i64 b] true)).next 0),.v (.val (.bool o))] (N.put (M.new (.cells [i64 b] true)).next (.cells (hZ f) true))=some (.tup [aHQ f,.val (.bool o)]):=fun f o=>by
  obtain⟨_,_,_,la⟩:=wM (f:=f) (b:=(M.new (.cells [i64 b] true)).next) (M:=N.put (M.new (.cells [i64 b] true)).next (.cells (hZ f) true)) (rw':=true) (by rw[aC.get_put,if_pos rfl])
  unfold fO lF lF lF
  simp only[la,Option.map_some]
 rcases h with⟨i,hi,rfl,hb,hne⟩|⟨rfl,hne⟩
 ·have hfind:jA fs b=some fs[i]:=by
   unfold jA
   rw[List.find?_eq_some_iff_getElem]
   exact⟨by simpa using hb,i,hi,rfl,fun j hj=>by simpa using hne j hj⟩
  rw[hfind]
  simp only[i64,aJ]
  refine aT (fun h=>by exfalso;simp at h;omega) (fun _=>?_)
  obtain⟨p,o,h1,h2⟩:=hxN.at hi
  refine aG (bH h1) ?_
  simp only[bV]
  refine aG (aS h2) ?_
  refine⟨_,_,_,rfl,?_⟩
  refine aG (oF (wJ fs[i] hfN rfl)) ?_
  refine aG (res fs[i] true) ?_
  exact⟨rfl,fin _⟩
 ·have hfind:jA fs b=none:=by
   unfold jA
   rw[List.find?_eq_none]
   exact fun f hf=>by simpa using hne f hf
  rw[hfind]
  simp only[i64,aJ]
  refine aT (fun _=>?_) (fun h=>by simp at h)
  refine aG (oF (wJ oM hfN rfl)) ?_
  refine aG (res oM false) ?_
  exact⟨rfl,fin _⟩
def gK(fs:List nU)(b d:Int):Bool:=match jA fs b with
 | some f=>decide (f.aft≤d)
 | none=>false
def aDP(fs:List nU)(b:Int):Bool:=match jA fs b with
 | some f=>f.fac
 | none=>false
theorem aOa(M:aC)(hw:M.WF)(x:AV)(fs:List nU)(hx:eG M x fs)(hl:fs.length≤1000)(b d:Int):aB tb.P 191 [x,i64 b,i64 d] M fun y N=>y= .val (.bool (gK fs b d))∧aD M N []:=by
 refine aNz ?_
 unfold F191
 simp only[i64,aJ]
 refine (aFD M hw x fs hx hl b).mono ?_
 rintro y N ⟨rfl,hk⟩
 refine⟨_,_,_,_,rfl,?_⟩
 simp only[cY]
 have hK:=aD.new hk.wf (.cells (hZ oM) true)
 refine aG (oF (wJ _ (get_new N (.cells (hZ oM) true)) rfl)) ?_
 rw[aC.new_put]
 have hK2:=hk.trans0 (aD.new hk.wf (.cells (hZ ((jA fs b).getD oM)) true))
 obtain⟨_,_,l2,_⟩:=wM (get_new N (.cells (hZ ((jA fs b).getD oM)) true))
 unfold gK
 cases hfd:jA fs b with
 | none=>exact⟨rfl,by rw[hfd] at hK2;exact hK2⟩
 | some f=>
   rw[hfd] at l2 hK2
   simp only[Option.isSome_some,jF]
   refine aG (aS l2) ?_
   simp only[i64,aJ]
   exact⟨rfl,hK2⟩
theorem aSp(M:aC)(hw:M.WF)(x:AV)(fs:List nU)(hx:eG M x fs)(hl:fs.length≤1000)(b:Int):aB tb.P 91 [x,i64 b] M fun y N=>y= .val (.bool (aDP fs b))∧aD M N []:=by
 refine aRc ?_
 unfold F91
 simp only[i64,aJ]
 refine (aFD M hw x fs hx hl b).mono ?_
 rintro y N ⟨rfl,hk⟩
 refine⟨_,_,_,_,rfl,?_⟩
 simp only[cY]
 refine aG (oF (wJ _ (get_new N (.cells (hZ oM) true)) rfl)) ?_
 rw[aC.new_put]
 have hK2:=hk.trans0 (aD.new hk.wf (.cells (hZ ((jA fs b).getD oM)) true))
 obtain⟨_,l1,_⟩:=wM (get_new N (.cells (hZ ((jA fs b).getD oM)) true))
 unfold aDP
 cases hfd:jA fs b with
 | none=>exact⟨rfl,by rw[hfd] at hK2;exact hK2⟩
 | some f=>
   rw[hfd] at l1 hK2
   simp only[Option.isSome_some,jF]
   refine aG (aS l1) ?_
   simp only[cO]
   exact⟨rfl,hK2⟩
def aEy(M:aC):aC:=⟨M.next+1,M.rows⟩
theorem aLv{M:aC}(h:M.WF):(aEy M).WF:=fun b r hb=>by have:=h b r hb;show b<M.next+1;omega
theorem aBy{M:aC}(h:M.WF):aD M (aEy M) []:=⟨aLv h,Nat.le_succ _,fun _ _ _=>rfl⟩
theorem aDw{M N:aC}(hw:M.WF)(hk:aD (aEy M) N [])(r:hY):aD M (N.put M.next r) []:=
 ⟨hk.wf.put (Nat.lt_of_lt_of_le (Nat.lt_succ_self _) hk.nxt) r,Nat.le_trans (Nat.le_succ _) hk.nxt,fun b hb _=>by
  rw[aC.get_put,if_neg (by omega)]
  exact hk.old b (by show b<M.next+1;omega) (by simp)⟩
def okF(g:eF)(pre:List nU)(f:nU):Bool:=
 !((jA pre f.blk).isSome||(decide (f.blk<0)||(decide (f.blk≥g.bl)||(decide (f.aft<0)||(decide (f.aft>1073741824)||(f.fac&&(f.aft != 0)))))))
def yS(g:eF)(fs:List nU):Bool:=dV g&&decide (fs.length≤8)&&(List.range fs.length).all fun i=>okF g (fs.take i) (fs.getD i oM)
theorem eG.take{M:aC}{x:AV}{fs:List nU}(h:eG M x fs){i:Nat}(hi:i≤fs.length):∃ y,dN tb 24 x none (some (.val (.int .i64 (i:Int)))) none=some y∧eG M y (fs.take i):=by
 obtain⟨y,h1,h2,_⟩:=aO.slice h aF3 rfl aIK rfl (lo:=none) (hi:=some (.val (.int .i64 (i:Int)))) (l:=0) (r:=i) (k1:= .i64) (k2:= .i64) (.inl ⟨rfl,rfl⟩) (.inr rfl) (Nat.zero_le _) hi
 refine⟨y,h1,?_⟩
 unfold eG
 have e1:(fs.take i).length=i-0:=by rw[List.length_take];omega
 have e2:(fs.take i).flatMap hZ=((fs.flatMap hZ).drop (0*3)).take ((i-0)*3):=by
  rw[Nat.zero_mul,List.drop_zero,Nat.sub_zero]
  conv=>rhs;rw[← List.take_append_drop i fs,List.flatMap_append]
  rw[List.take_left' (by rw[cA aAE,List.length_take,Nat.min_eq_left hi])]
 rw[e1,e2]
 exact h2
theorem aQV(M:aC)(hw:M.WF)(g:eF)(x:AV)(fs:List nU)(hx:eG M x fs)(hfl:fs.length≤9223372036854775807):aB tb.P 28 [fX g,x] M fun y N=>y= .val (.bool (yS g fs))∧aD M N []:=by
 refine aQ2 ?_
 unfold F28
 refine⟨_,_,_,_,_,rfl,?_⟩
 refine bE fun M6 hM6=>?_
 have hM6':M6=M.new (.cells (cW g) true):=hM6
 have hK:aD M M6 []:=by rw[hM6'];exact aD.new hw _
 have hg:M6.get M.next=some (.cells (cW g) true):=by rw[hM6'];exact get_new _ _
 clear hM6 hM6'
 refine bE fun K20 hK20=>?_
 obtain⟨_,_,_,_,_,l5⟩:=cC hg
 refine aG (aS l5) ?_
 refine⟨_,_,_,_,_,rfl,?_⟩
 refine (jP M6 hK.wf g).mono ?_
 rintro y N ⟨rfl,hk⟩
 simp only[cO]
 have hk1:=hK.trans0 hk
 have hgN:=hk.get hK.wf hg (by simp)
 have hxN:eG N x fs:=aO.keep0 hx hw hk1
 refine aT (fun h=>?_) (fun hm=>?_)
 ·have h:dV g=false:=by simpa using h
  rw[hK20]
  refine aT (fun _=>⟨?_,hk1⟩) (fun h=>by cases h)
  unfold yS
  rw[h];rfl
 have hm:dV g=true:=by simpa using hm
 refine aG (iO hxN.len) ?_
 simp only[aJ]
 rw[hK20]
 clear hK20 K20
 refine aT (fun h=>⟨?_,hk1⟩) (fun h=>?_)
 ·have h:¬ fs.length≤8:=by have:(8:Int)<fs.length:=by simpa using h
                           omega
  unfold yS
  rw[decide_eq_false h,Bool.and_false,Bool.false_and]
 have h8:fs.length≤8:=by have:¬ ((fs.length:Int)>8):=by simpa using h
                         omega
 clear h
 refine aG (iO hxN.len) ?_
 simp only[aJ]
 refine⟨fun z n P=>∃ i:Nat,z=i∧n=fs.length-i∧i≤fs.length∧aD N P []∧∀ j,j<i→okF g (fs.take j) (fs.getD j oM)=true,⟨fs.length,0,rfl,rfl,Nat.zero_le _,aD.refl hk.wf,fun j h=>by omega⟩,?_⟩
 rintro _ z n P ⟨i,rfl,rfl,hi,hkP,hok⟩
 have hxP:eG P x fs:=aO.keep0 hxN hk.wf hkP
 have hall:=hk1.trans0 hkP
 refine aT (fun hlt=>?_) (fun hge=>?_)
 rotate_left
 ·have hge:i=fs.length:=by have:¬ (i:Int)<fs.length:=by simpa using hge
                           omega
  subst hge
  refine⟨?_,hall⟩
  unfold yS
  rw[hm,decide_eq_true h8,List.all_eq_true.2 (fun j hj=>hok j (List.mem_range.1 hj))]
  rfl
 have hlt:i<fs.length:=by simpa using hlt
 obtain⟨p,o,h1,h2⟩:=hxP.at hlt
 have hgd:fs.getD i oM=fs[i]:=by rw[List.getD_eq_getElem?_getD,List.getElem?_eq_getElem hlt];rfl
 generalize hf:fs[i]=f at*
 refine aG (bH h1) ?_
 simp only[bV]
 refine aG (aS h2) ?_
 refine⟨_,_,_,rfl,?_⟩
 refine bE fun M35 hM35=>?_
 subst hM35
 refine aG (oF (wJ f (get_new P (.cells (hZ oM) true)) rfl)) ?_
 rw[aC.new_put]
 have hP1:=aD.new hkP.wf (.cells (hZ f) true)
 have hf1:=get_new P (.cells (hZ f) true)
 generalize hPn:P.new (.cells (hZ f) true)=P1 at hP1 hf1
 have hb:=aBy hP1.wf
 refine bE fun M37 hM37=>?_
 have hM37':M37=aEy P1:=hM37
 subst hM37'
 show aA (xQ tb 24 x none (some (.val (.int .i64 (i:Int)))) none (aEy P1)) _
 have hf2:=hb.get hP1.wf hf1 (by simp)
 have hx2:eG (aEy P1) x fs:=aO.keep0 hxP hkP.wf (hP1.trans0 hb)
 obtain⟨y,h3,h4⟩:=hx2.take (i:=i) (by omega)
 refine aG (fH h3) ?_
 obtain⟨l0,_⟩:=wM hf2
 refine aG (aS l0) ?_
 simp only[i64,aJ]
 refine (aFD _ hb.wf y _ h4 (by rw[List.length_take];omega) f.blk).mono ?_
 rintro y N2 ⟨rfl,hk2⟩
 refine⟨_,_,_,_,rfl,?_⟩
 refine bE fun M47 hM47=>?_
 subst hM47
 have hp:=aDw hP1.wf hk2 (.cells (hZ ((jA (fs.take i) f.blk).getD oM)) true)
 have hst:=wJ ((jA (fs.take i) f.blk).getD oM) (M:=N2.put P1.next (.cells (hZ oM) true)) (b:=P1.next) (by rw[aC.get_put,if_pos rfl]) rfl
 rw[aC.put_put] at hst
 refine aG (oF hst) ?_
 have hf3:=hp.get hP1.wf hf1 (by simp)
 have hkk:=hkP.trans0 (hP1.trans0 hp)
 have hg3:=hkk.get hk.wf hgN (by simp)
 have hall3:=hk1.trans0 hkk
 obtain⟨m0,m1,m2,_⟩:=wM hf3
 obtain⟨g0,_⟩:=cC hg3
 generalize N2.put P1.next (.cells (hZ ((jA (fs.take i) f.blk).getD oM)) true)=N3 at*
 refine bE fun K hKK=>?_
 have bad:okF g (fs.take i) f=false→K true:=fun h=>by
  rw[hKK]
  refine⟨?_,hall3⟩
  unfold yS
  rw[List.all_eq_false.2 ⟨i,List.mem_range.2 hlt,by rw[hgd,h];simp⟩,Bool.and_false]
 have good:okF g (fs.take i) f=true→K false:=fun h=>by
  rw[hKK]
  refine⟨fs.length-(i+1),by omega,i+1,dE (by omega),rfl,hlt,hkk,fun j hj=>?_⟩
  by_cases hji:j=i
  ·subst hji;rw[hgd];exact h
  ·exact hok j (by omega)
 have step:∀ b:Bool,b= !okF g (fs.take i) f→K b:=fun b hb=>by
  cases b with
  | true=>exact bad (by simpa using hb)
  | false=>exact good (by simpa using hb)
 unfold okF at step
 simp only[Bool.not_not] at step
 refine aT (fun q=>step true (by rw[q];rfl)) (fun q=>?_)
 rw[q,Bool.false_or] at step
 refine aG (aS m0) ?_
 simp only[i64,aJ]
 refine aT (fun q=>step true (by rw[q];rfl)) (fun q=>?_)
 rw[q,Bool.false_or] at step
 refine aG (aS m0) ?_
 simp only[i64,aJ]
 refine aG (aS g0) ?_
 simp only[i64,aJ]
 refine aT (fun q=>step true (by rw[q];rfl)) (fun q=>?_)
 rw[q,Bool.false_or] at step
 refine aG (aS m2) ?_
 simp only[i64,aJ]
 refine aT (fun q=>step true (by rw[q];rfl)) (fun q=>?_)
 rw[q,Bool.false_or] at step
 refine aG (aS m2) ?_
 simp only[i64,aJ]
 refine aT (fun q=>step true (by rw[q];rfl)) (fun q=>?_)
 rw[q,Bool.false_or] at step
 refine aG (aS m1) ?_
 simp only[cO]
 refine aT (fun q=>?_) (fun q=>step false (by rw[q];rfl))
 rw[q,Bool.true_and] at step
 refine aG (aS m2) ?_
 simp only[i64,aJ]
 exact step _ rfl
def aKA(fs:List nU):Prop:=∀ f∈fs,∀ h∈fs,f.blk=h.blk→f=h
structure vP where
 b:Nat
 by':List (BitVec 8)
 next:Int
 wear:Int
 done:Int
def jJ(B:vP):List AV:=[.sl B.b 0 B.by'.length B.by'.length none,i64 B.next,i64 B.wear,i64 B.done]
theorem dS(B:vP):(jJ B).length=4:=rfl
structure aQ where
 g:eF
 fsA:AV
 fs:List nU
 bb:Nat
 bs:List vP
 off:Bool
 ops:Int
 cuts:Int
 cop:Int
 cby:Int
 cf:BitVec 8
 turn:Int
def uU(C:aQ):AV:= .sl C.bb 0 C.bs.length C.bs.length (some 4)
def pT(C:aQ):List AV:=[i64 C.g.bl,i64 C.g.pg,i64 C.g.by',i64 C.g.sp,i64 C.g.tr,C.fsA,uU C,.val (.bool C.off),i64 C.ops,i64 C.cuts,i64 C.cop,i64 C.cby,rZ C.cf,i64 C.turn]
def foot(p:Nat)(C:aQ):List Nat:=p::C.bb::C.bs.map (·.b)
structure bF (M:aC) (p:Nat) (C:aQ):Prop where
 main:M.get p=some (.cells (pT C) true)
 tab:M.get C.bb=some (.cells (C.bs.flatMap jJ) true)
 dat:∀ B∈C.bs,M.get B.b=some (.cells (dH B.by') true)
 flt:eG M C.fsA C.fs
 nd:(foot p C).Nodup
 fsx:∀ c,aN C.fsA c→c∉foot p C
 one:C.fsA.one=true
 fsl:C.fs.length≤8
 may:dV C.g=true
 len:C.bs.length=C.g.bl.toNat
 ful:∀ B∈C.bs,B.by'.length=C.g.pg.toNat*aV C.g
 cby0:0≤C.cby
theorem bF.keep{M N:aC}{p:Nat}{C:aQ}(h:bF M p C)(hw:M.WF)(hk:aD M N []):bF N p C:=
 ⟨hk.get hw h.main (by simp),hk.get hw h.tab (by simp),fun B hB=>hk.get hw (h.dat B hB) (by simp),aO.keep0 h.flt hw hk,h.nd,h.fsx,h.one,h.fsl,h.may,h.len,h.ful,h.cby0⟩
theorem bF.keepS{M N:aC}{p:Nat}{C:aQ}{S:List Nat}(h:bF M p C)(hw:M.WF)(hk:aD M N S)(hs:∀ b∈S,b∉foot p C∧¬ aN C.fsA b):bF N p C:=by
 have hn:∀ b∈foot p C,b∉S:=fun b hb hS=>(hs b hS).1 hb
 refine⟨hk.get hw h.main (hn _ (by simp[foot])),hk.get hw h.tab (hn _ (by simp[foot])),fun B hB=>hk.get hw (h.dat B hB) (hn _ ?_),aO.keep h.flt hw hk (fun b hb hS=>(hs b hS).2 hb),h.nd,h.fsx,h.one,h.fsl,h.may,h.len,h.ful,h.cby0⟩
 simp only[foot,List.mem_cons,List.mem_map]
 exact .inr (.inr ⟨B,hB,rfl⟩)
structure dM (M N:aC) (p:Nat) (C C':aQ):Prop where
 at':bF N p C'
 keep:aD M N (foot p C)
 foot:foot p C'=foot p C
 fsA:C'.fsA=C.fsA
 fs:C'.fs=C.fs
 g:C'.g=C.g
theorem dM.refl{M:aC}{p:Nat}{C:aQ}(hw:M.WF)(h:bF M p C):dM M M p C C:=⟨h,aD.refl hw,rfl,rfl,rfl,rfl⟩
theorem dM.of0{M N:aC}{p:Nat}{C:aQ}(hw:M.WF)(h:bF M p C)(hk:aD M N []):dM M N p C C:=⟨h.keep hw hk,hk.mono (by simp),rfl,rfl,rfl,rfl⟩
theorem dM.trans{M N P:aC}{p:Nat}{C C' C'':aQ}(h:dM M N p C C')(k:dM N P p C' C''):dM M P p C C'':=
 ⟨k.at',h.keep.trans k.keep (fun _ h _=>h) (fun _ hb _=>h.foot▸hb),k.foot.trans h.foot,k.fsA.trans h.fsA,k.fs.trans h.fs,k.g.trans h.g⟩
theorem dM.pre{M N P:aC}{p:Nat}{C C':aQ}(h:aD M N [])(k:dM N P p C C'):dM M P p C C':=
 ⟨k.at',h.trans k.keep (by simp) (fun _ hb _=>hb),k.foot,k.fsA,k.fs,k.g⟩
theorem dM.wf{M N:aC}{p:Nat}{C C':aQ}(h:dM M N p C C'):N.WF:=h.keep.wf
theorem dM.post{M N P:aC}{p:Nat}{C C':aQ}(h:dM M N p C C')(k:aD N P []):dM M P p C C':=
 ⟨h.at'.keep h.wf k,h.keep.trans k (fun _ h _=>h) (by simp),h.foot,h.fsA,h.fs,h.g⟩
theorem aQW{p:Nat}{C:aQ}(h:(foot p C).Nodup):p≠C.bb∧∀ B∈C.bs,p≠B.b∧C.bb≠B.b:=by
 unfold foot at h
 rw[List.nodup_cons,List.nodup_cons] at h
 simp only[List.mem_cons,List.mem_map,not_or,not_exists,not_and] at h
 exact⟨h.1.1,fun B hB=>⟨fun e=>h.1.2 B hB e.symm,fun e=>h.2.1 B hB e.symm⟩⟩
theorem bF.set{M:aC}{p:Nat}{C:aQ}(h:bF M p C)(hw:M.WF)(C':aQ)(h1:C'.g=C.g)(h2:C'.fsA=C.fsA)(h3:C'.fs=C.fs)(h4:C'.bb=C.bb)(h5:C'.bs=C.bs)(h6:0≤C'.cby):
 dM M (M.put p (.cells (pT C') true)) p C C':=by
 have hp:=aQW h.nd
 have hf:_root_.Go.Proofs.YteaogiidncpofaaGreat.foot p C'=_root_.Go.Proofs.YteaogiidncpofaaGreat.foot p C:=by unfold foot;rw[h4,h5]
 refine⟨⟨by rw[aC.get_put,if_pos rfl],?_,?_,?_,by rw[hf];exact h.nd,by rw[hf,h2];exact h.fsx,by rw[h2];exact h.one,by rw[h3];exact h.fsl,by rw[h1];exact h.may,by rw[h1,h5];exact h.len,by rw[h1,h5];exact h.ful,h6⟩,
  (aD.put hw (hw _ _ h.main) _).mono (fun b hb _=>by simp only[List.mem_singleton] at hb;subst hb;simp[foot]),hf,h2,h3,h1⟩
 ·rw[h4,h5,aC.get_put,if_neg (fun e=>hp.1 e.symm)];exact h.tab
 ·rw[h5]
  intro B hB
  rw[aC.get_put,if_neg (fun e=>(hp.2 B hB).1 e.symm)];exact h.dat B hB
 ·rw[h2,h3]
  refine aO.mono h.flt fun b r hb hr=>?_
  rw[aC.get_put,if_neg (fun e=>h.fsx b hb (by rw[e];simp[foot]))];exact hr
theorem aBM{bs:List vP}{i:Nat}{B':vP}(hi:i<bs.length)(hb:B'.b=bs[i].b):(bs.set i B').map (·.b)=bs.map (·.b):=by
 rw[List.map_set]
 apply List.ext_getElem?
 intro j
 rw[List.getElem?_set]
 by_cases hj:i=j
 ·subst hj
  rw[if_pos rfl,if_pos (by simpa using hi),List.getElem?_map,List.getElem?_eq_getElem hi]
  simp[hb]
 ·rw[if_neg hj]
theorem aGH{bs:List vP}{i:Nat}{B B':vP}(h:B∈bs.set i B'):B∈bs∨B=B':=(List.mem_or_eq_of_mem_set h)
theorem bF.setB{M:aC}{p:Nat}{C:aQ}(h:bF M p C)(hw:M.WF){i:Nat}(hi:i<C.bs.length)(B':vP)(hb:B'.b=C.bs[i].b)(hy:B'.by'=C.bs[i].by'):
 dM M (M.put C.bb (.cells ((C.bs.set i B').flatMap jJ) true)) p C { C with bs:=C.bs.set i B' }:=by
 have hp:=aQW h.nd
 have hf:_root_.Go.Proofs.YteaogiidncpofaaGreat.foot p { C with bs:=C.bs.set i B' }=_root_.Go.Proofs.YteaogiidncpofaaGreat.foot p C:=by unfold foot;simp only;rw[aBM hi hb]
 have hB:∀ B∈C.bs.set i B',∃ B0∈C.bs,B.b=B0.b∧B.by'=B0.by':=fun B hB=>by
  rcases aGH hB with h1|rfl
  ·exact⟨B,h1,rfl,rfl⟩
  ·exact⟨_,List.getElem_mem hi,hb,hy⟩
 refine⟨⟨?_,by rw[aC.get_put,if_pos rfl],?_,?_,by rw[hf];exact h.nd,by rw[hf];exact h.fsx,h.one,h.fsl,h.may,by simpa using h.len,?_,h.cby0⟩,
  (aD.put hw (hw _ _ h.tab) _).mono (fun b hb _=>by simp only[List.mem_singleton] at hb;subst hb;simp[foot]),hf,rfl,rfl,rfl⟩
 ·rw[aC.get_put,if_neg hp.1,h.main]
  simp[pT,uU]
 ·intro B hBm
  obtain⟨B0,h1,h2,h3⟩:=hB B hBm
  rw[aC.get_put,h2,h3,if_neg (fun e=>(hp.2 B0 h1).2 e.symm)];exact h.dat B0 h1
 ·refine aO.mono h.flt fun b r hb hr=>?_
  rw[aC.get_put,if_neg (fun e=>h.fsx b hb (by rw[e];simp[foot]))];exact hr
 ·intro B hBm
  obtain⟨B0,h1,h2,h3⟩:=hB B hBm
  rw[h3];exact h.ful B0 h1
theorem aSP{p:Nat}{C:aQ}(h:(foot p C).Nodup){i j:Nat}(hi:i<C.bs.length)(hj:j<C.bs.length)(he:C.bs[i].b=C.bs[j].b):i=j:=by
 unfold foot at h
 rw[List.nodup_cons,List.nodup_cons] at h
 have:=h.2.2
 exact (List.getElem_inj (h₀:=by simpa using hi) (h₁:=by simpa using hj) this).1 (by simpa using he)
theorem bF.setD{M:aC}{p:Nat}{C:aQ}(h:bF M p C)(hw:M.WF){i:Nat}(hi:i<C.bs.length)(l:List (BitVec 8))(hl:l.length=C.bs[i].by'.length):
 dM M (M.put C.bs[i].b (.cells (dH l) true)) p C { C with bs:=C.bs.set i { C.bs[i] with by':=l } }:=by
 have hp:=aQW h.nd
 have hBi:=hp.2 _ (List.getElem_mem hi)
 have hf:_root_.Go.Proofs.YteaogiidncpofaaGreat.foot p { C with bs:=C.bs.set i { C.bs[i] with by':=l } }=_root_.Go.Proofs.YteaogiidncpofaaGreat.foot p C:=by unfold foot;simp only;rw[aBM (B':={ C.bs[i] with by':=l }) hi rfl]
 have hc:(C.bs.set i { C.bs[i] with by':=l }).flatMap jJ=C.bs.flatMap jJ:=by
  have h1:jJ { C.bs[i] with by':=l }=(jJ C.bs[i]).set 1 (i64 C.bs[i].next):=by unfold jJ;simp[hl]
  rw[← aEN dS hi (by omega) h1]
  have h2:=qV dS hi (j:=1) (by omega)
  apply List.ext_getElem?
  intro j
  rw[List.getElem?_set]
  by_cases hj:i*4+1=j
  ·subst hj
   rw[if_pos rfl,h2]
   split
   ·rfl
   ·rename_i hlt
    exfalso;apply hlt
    rw[cA dS];omega
  ·rw[if_neg hj]
 refine⟨⟨?_,?_,?_,?_,by rw[hf];exact h.nd,by rw[hf];exact h.fsx,h.one,h.fsl,h.may,by simpa using h.len,?_,h.cby0⟩,
  (aD.put hw (hw _ _ (h.dat _ (List.getElem_mem hi))) _).mono (fun b hb _=>by
   simp only[List.mem_singleton] at hb;subst hb
   simp only[foot,List.mem_cons,List.mem_map]
   exact .inr (.inr ⟨_,List.getElem_mem hi,rfl⟩)),hf,rfl,rfl,rfl⟩
 ·rw[aC.get_put,if_neg hBi.1,h.main]
  simp[pT,uU]
 ·show (M.put _ _).get C.bb=_
  rw[aC.get_put,if_neg hBi.2,hc];exact h.tab
 ·intro B hBm
  obtain⟨j,hj,rfl⟩:=List.getElem_of_mem hBm
  have hj':j<C.bs.length:=by simpa using hj
  rw[List.getElem_set]
  by_cases hji:i=j
  ·subst hji
   rw[if_pos rfl,aC.get_put,if_pos rfl]
  ·rw[if_neg hji,aC.get_put,if_neg (fun e=>hji (aSP h.nd hj' hi e).symm)]
   exact h.dat _ (List.getElem_mem hj')
 ·refine aO.mono h.flt fun b r hb hr=>?_
  rw[aC.get_put,if_neg (fun e=>h.fsx b hb (by
   rw[e]
   simp only[foot,List.mem_cons,List.mem_map]
   exact .inr (.inr ⟨_,List.getElem_mem hi,rfl⟩)))];exact hr
 ·intro B hBm
  rcases aGH hBm with h1|rfl
  ·exact h.ful B h1
  ·rw[hl];exact h.ful _ (List.getElem_mem hi)
theorem aC3:tb.ty.get 67=some ⟨.st [(0,5,true),(5,1,false),(6,1,false),(7,1,false),(8,1,false),(9,1,false),(10,3,true),(13,1,false)],14,144,[.int .i64 0,.int .i64 0,.int .i64 0,.int .i64 0,.int .i64 0,.slice none 0 0,.slice none 0 0,.bool false,.int .i64 0,.int .i64 0,.int .i64 0,.int .i64 0,.int .u8 0,.int .i64 0],some [23,24,63,4,3,3,65,3]⟩:=by kernel_rfl
theorem aF5:tb.ty.get 63=some ⟨.sli 70,1,24,[.slice none 0 0],none⟩:=by kernel_rfl
theorem aFr:tb.ty.get 70=some ⟨.st [(0,1,false),(1,1,false),(2,1,false),(3,1,false)],4,48,[.slice none 0 0,.int .i64 0,.int .i64 0,.int .i64 0],some [25,3,3,3]⟩:=by kernel_rfl
section
variable {p:Nat} {M:aC}
theorem fa0:cG tb 67 (.ptr p 0) 0 M=some (.ptr p 0,M):=bW (by unfold eZf;rw[aC3];rfl)
theorem fa1:cG tb 67 (.ptr p 0) 1 M=some (.ptr p 5,M):=bW (by unfold eZf;rw[aC3];rfl)
theorem fa2:cG tb 67 (.ptr p 0) 2 M=some (.ptr p 6,M):=bW (by unfold eZf;rw[aC3];rfl)
theorem fa3:cG tb 67 (.ptr p 0) 3 M=some (.ptr p 7,M):=bW (by unfold eZf;rw[aC3];rfl)
theorem fa4:cG tb 67 (.ptr p 0) 4 M=some (.ptr p 8,M):=bW (by unfold eZf;rw[aC3];rfl)
theorem fa5:cG tb 67 (.ptr p 0) 5 M=some (.ptr p 9,M):=bW (by unfold eZf;rw[aC3];rfl)
theorem fa6:cG tb 67 (.ptr p 0) 6 M=some (.ptr p 10,M):=bW (by unfold eZf;rw[aC3];rfl)
theorem fa7:cG tb 67 (.ptr p 0) 7 M=some (.ptr p 13,M):=bW (by unfold eZf;rw[aC3];rfl)
variable {C:aQ} (h:bF M p C)
include h
theorem aMD:aH tb 23 (.ptr p 0) M=some (fX C.g,M):=aS (eC (n:=5) aIx rfl rfl h.main (by simp[pT]))
theorem aSo:aH tb 3 (.ptr p 1) M=some (i64 C.g.pg,M):=aS (eB dX rfl h.main rfl)
theorem aOG:aH tb 24 (.ptr p 5) M=some (C.fsA,M):=aS (eB aF3 rfl h.main rfl)
theorem aBI:aH tb 63 (.ptr p 6) M=some (uU C,M):=aS (eB aF5 rfl h.main rfl)
theorem aJu:aH tb 4 (.ptr p 7) M=some (.val (.bool C.off),M):=aS (eB ty4 rfl h.main rfl)
theorem aKL:aH tb 3 (.ptr p 8) M=some (i64 C.ops,M):=aS (eB dX rfl h.main rfl)
theorem aNb:aH tb 3 (.ptr p 9) M=some (i64 C.cuts,M):=aS (eB dX rfl h.main rfl)
theorem aKD:aH tb 3 (.ptr p 11) M=some (i64 C.cby,M):=aS (eB dX rfl h.main rfl)
theorem aRA:aH tb 5 (.ptr p 12) M=some (rZ C.cf,M):=aS (eB vK rfl h.main rfl)
theorem aLD:aH tb 3 (.ptr p 13) M=some (i64 C.turn,M):=aS (eB dX rfl h.main rfl)
theorem aJk:cE tb false 63 (uU C) M=some (i64 (C.bs.length:Int),M):=iO (by unfold bD uU;rw[aF5];rfl)
theorem aDv{i:Nat}(hi:i<C.bs.length):bU tb 63 (uU C) (.val (.int .i64 (i:Int))) M=some (.ptr C.bb (i*4),M):=bH (by
 unfold bJ uU
 rw[aF5]
 have h0:decide (0≤(i:Int))=true:=by simp
 simp only[aFr,Int.toNat_natCast,blt_of hi,cond_true,h0,Nat.zero_add])
theorem aLa{i:Nat}(hi:i<C.bs.length):aH tb 25 (.ptr C.bb (i*4)) M=some (.sl C.bs[i].b 0 C.bs[i].by'.length C.bs[i].by'.length none,M):=aS (eB gG rfl h.tab (by
 have:=qV dS hi (j:=0) (by omega)
 rw[Nat.add_zero] at this;rw[this];rfl))
theorem aC9{i:Nat}(hi:i<C.bs.length):aH tb 3 (.ptr C.bb (i*4+1)) M=some (i64 C.bs[i].next,M):=aS (eB dX rfl h.tab (by rw[qV dS hi (by omega)];rfl))
theorem aNo{i:Nat}(hi:i<C.bs.length):aH tb 3 (.ptr C.bb (i*4+2)) M=some (i64 C.bs[i].wear,M):=aS (eB dX rfl h.tab (by rw[qV dS hi (by omega)];rfl))
theorem aCw{i:Nat}(hi:i<C.bs.length):aH tb 3 (.ptr C.bb (i*4+3)) M=some (i64 C.bs[i].done,M):=aS (eB dX rfl h.tab (by rw[qV dS hi (by omega)];rfl))
theorem aQJ{i:Nat}(hi:i<C.bs.length):aH tb 70 (.ptr C.bb (i*4)) M=some (.agg (jJ C.bs[i]),M):=aS (by
 rw[eC (n:=4) aFr rfl rfl h.tab (by rw[cA dS];omega),rL dS hi])
theorem zQ{t:TypeId}{ti:TI}{o:Nat}{v:AV}(C':aQ)(ht:tb.ty.get t=some ti)(hs:ti.size=1)(hv:v.one=true)(ho:o<14)(hc:pT C'=(pT C).set o v):
 cL tb t (.ptr p o) v M=some (eY,M.put p (.cells (pT C') true)):=by
 rw[hc]
 exact oF (dK ht hs hv h.main (by simpa[pT] using ho))
theorem aFn{i j:Nat}(hi:i<C.bs.length){z:Int}(B':vP)(hj:j<4)(hc:jJ B'=(jJ C.bs[i]).set j (i64 z)):
 cL tb 3 (.ptr C.bb (i*4+j)) (i64 z) M=some (eY,M.put C.bb (.cells ((C.bs.set i B').flatMap jJ) true)):=by
 rw[← aEN dS hi hj hc]
 exact oF (dK dX rfl rfl h.tab (by rw[cA dS];omega))
end
theorem aCA{p:Nat}{M:aC}{xo yo:Operand}:cZ tb .eql 28 xo yo (.ptr p 0) (.val (.pointer none)) M=some (.val (.bool false),M):=cB (by kernel_rfl)
theorem aFL{p:Nat}{M:aC}{xo yo:Operand}:cZ tb .neq 28 xo yo (.ptr p 0) (.val (.pointer none)) M=some (.val (.bool true),M):=cB (by kernel_rfl)
def bgn(C:aQ):Bool:= !(C.turn==0)&& !(aM .i64 C.ops 1 != C.turn)
def sA(C:aQ):aQ:=if bgn C=true then { C with ops:=aM .i64 C.ops 1,turn:=0,off:=true,cuts:=aM .i64 C.cuts 1 } else { C with ops:=aM .i64 C.ops 1 }
theorem aCY(M:aC)(hw:M.WF)(p:Nat)(C:aQ)(h:bF M p C):aB tb.P 155 [.ptr p 0] M fun y N=>y= .val (.bool (bgn C))∧dM M N p C (sA C):=by
 refine aNO ?_
 unfold F155
 have s1:=h.set hw { C with ops:=aM .i64 C.ops 1 } rfl rfl rfl rfl rfl h.cby0
 have t1:=zQ h { C with ops:=aM .i64 C.ops 1 } (o:=8) (v:=i64 (aM .i64 C.ops 1)) dX rfl rfl (by omega) rfl
 simp only[i64] at t1
 simp only[dB,eM,fa4,bV,aKL h,i64,aJ,t1]
 generalize hN1:M.put p (.cells (pT { C with ops:=aM .i64 C.ops 1 }) true)=N1 at s1
 have h1:=s1.at'
 have hw1:=s1.wf
 refine bE fun K hK=>?_
 have no:bgn C=false→K true:=fun hb=>by
  rw[hK]
  refine⟨by rw[hb],?_⟩
  unfold sA
  rw[hb]
  exact s1
 have yes:bgn C=true→K false:=fun hb=>by
  rw[hK]
  have s2:=h1.set hw1 { C with ops:=aM .i64 C.ops 1,turn:=0 } rfl rfl rfl rfl rfl h.cby0
  have t2:=zQ h1 { C with ops:=aM .i64 C.ops 1,turn:=0 } (o:=13) (v:=i64 0) dX rfl rfl (by omega) rfl
  simp only[i64] at t2
  simp only[fG,dB,eM,fa7,bV,t2]
  generalize N1.put p (.cells (pT { C with ops:=aM .i64 C.ops 1,turn:=0 }) true)=N2 at s2
  have h2:=s2.at'
  have s3:=h2.set s2.wf { C with ops:=aM .i64 C.ops 1,turn:=0,off:=true } rfl rfl rfl rfl rfl h.cby0
  have t3:=zQ h2 { C with ops:=aM .i64 C.ops 1,turn:=0,off:=true } (o:=7) (v:= .val (.bool true)) ty4 rfl rfl (by omega) rfl
  simp only[dB,eM,fa3,bV,t3]
  generalize N2.put p (.cells (pT { C with ops:=aM .i64 C.ops 1,turn:=0,off:=true }) true)=N3 at s3
  have h3:=s3.at'
  have s4:=h3.set s3.wf { C with ops:=aM .i64 C.ops 1,turn:=0,off:=true,cuts:=aM .i64 C.cuts 1 } rfl rfl rfl rfl rfl h.cby0
  have t4:=zQ h3 { C with ops:=aM .i64 C.ops 1,turn:=0,off:=true,cuts:=aM .i64 C.cuts 1 } (o:=9) (v:=i64 (aM .i64 C.cuts 1)) dX rfl rfl (by omega) rfl
  simp only[i64] at t4
  simp only[dB,eM,fa5,bV,aNb h3,i64,aJ,t4]
  refine⟨by rw[hb],?_⟩
  unfold sA
  rw[if_pos hb]
  exact s1.trans (s2.trans (s3.trans s4))
 simp only[dB,eM,fa7,fa4,bV,aLD h1,aKL h1,i64,aJ]
 refine aT (fun q=>no (by unfold bgn;rw[q];rfl)) (fun q=>?_)
 have hb:bgn C= !(aM .i64 C.ops 1 != C.turn):=by unfold bgn;rw[q];rfl
 cases hq:(aM .i64 C.ops 1 != C.turn) with
 | true=>exact no (by rw[hb,hq];rfl)
 | false=>exact yes (by rw[hb,hq];rfl)
def lZ(C:aQ)(b p:Int):Int:=if C.off=true then 9 else if isG C.g b p=true then 0 else 2
theorem aC1(M:aC)(hw:M.WF)(p:Nat)(C:aQ)(h:bF M p C)(b k:Int):aB tb.P 154 [.ptr p 0,bB b k] M fun y N=>y=i64 (lZ C b k)∧aD M N []:=by
 refine aMF ?_
 unfold F154
 refine⟨_,_,rfl,?_⟩
 simp only[cY]
 have hK:=aD.new hw (.cells [i64 b,i64 k] true)
 have hp:=get_new M (.cells [i64 b,i64 k] true)
 have h1:=h.keep hw hK
 simp only[aCA,eM,cO,fG,dB,fa3,bV,i64] at*
 simp only[aJu h1,eM,cO]
 unfold lZ
 refine aT (fun q=>⟨by rw[if_pos q],hK⟩) (fun q=>?_)
 rw[if_neg (by rw[q];simp)]
 simp only[fa0,eM,bV,aMD h1]
 refine⟨_,_,_,_,_,rfl,?_⟩
 obtain⟨_,_,l2⟩:=bO hp
 refine aG (aS l2) ?_
 refine⟨_,_,rfl,?_⟩
 refine (aBm _ hK.wf C.g h.may b k).mono ?_
 rintro y N ⟨⟨z,rfl,hz⟩,hk⟩
 simp only[i64,aJ]
 rw[hz]
 refine aT (fun q=>⟨?_,hK.trans0 hk⟩) (fun q=>⟨?_,hK.trans0 hk⟩)
 ·have q:isG C.g b k=false:=by simpa using q
  rw[q];rfl
 ·have q:isG C.g b k=true:=by simpa using q
  rw[q];rfl
theorem aLJ(M:aC)(hw:M.WF)(p:Nat)(C:aQ)(h:bF M p C):aB tb.P 42 [.ptr p 0] M fun y N=>y= .val (.bool (!C.off))∧N=M:=by
 refine aQH ?_
 unfold F42
 simp only[cY,aFL,eM,cO,jF,dB,fa3,bV,aJu h,and_self]
theorem aGM(M:aC)(hw:M.WF)(p:Nat)(C:aQ)(h:bF M p C)(b:Int):aB tb.P 63 [.ptr p 0,i64 b] M fun y N=>y= .val (.bool (aDP C.fs b))∧aD M N []:=by
 refine aPc ?_
 unfold F63
 simp only[cY,aFL,eM,cO,jF,dB,fa1,bV,aOG h,i64,aJ]
 refine (aSp M hw _ _ h.flt (by have:=h.fsl;omega) b).mono ?_
 rintro y N ⟨rfl,hk⟩
 simp only[cO]
 exact⟨by trivial,hk⟩
def rE(C:aQ)(b:Int):Bool:=decide (0≤b)&&match C.bs[b.toNat]? with
 | some B=>gK C.fs b B.done
 | none=>false
theorem aA5(M:aC)(hw:M.WF)(p:Nat)(C:aQ)(h:bF M p C)(b:Int):aB tb.P 171 [.ptr p 0,i64 b] M fun y N=>y= .val (.bool (rE C b))∧aD M N []:=by
 refine aOb ?_
 unfold F171
 simp only[cY,aFL,eM,cO,jF,dB,fa1,fa2,bV,aOG h,aBI h,aJk h,i64,aJ]
 unfold rE
 refine aT (fun q=>?_) (fun q=>?_)
 rotate_left
 ·have q:¬ 0≤b:=by simpa using q
  exact⟨by rw[decide_eq_false q];rfl,aD.refl hw⟩
 have q:0≤b:=by simpa using q
 obtain⟨i,rfl⟩:∃ i:Nat,b=(i:Int):=⟨b.toNat,by omega⟩
 rw[decide_eq_true q,Bool.true_and,Int.toNat_natCast]
 refine aT (fun q=>?_) (fun q=>?_)
 rotate_left
 ·have q:¬ i<C.bs.length:=by simpa using q
  exact⟨by rw[List.getElem?_eq_none (by omega)],aD.refl hw⟩
 have hi:i<C.bs.length:=by simpa using q
 rw[List.getElem?_eq_getElem hi]
 simp only[aDv h hi,eM,bV,aCw h hi,i64,aJ]
 refine (aOa M hw _ _ h.flt (by have:=h.fsl;omega) _ _).mono ?_
 rintro y N ⟨rfl,hk⟩
 simp only[cO]
 exact⟨by trivial,hk⟩
def aEl:List AV:=[.val (.slice none 0 0),i64 0,i64 0,i64 0]
theorem aJD{M:aC}{b:Nat}{cs vs:List AV}(hg:M.get b=some (.cells cs true))(hl:cs.length=4)(hv:vs.length=4)(hone:∀ v∈vs,v.one=true):cL tb 70 (.ptr b 0) (.agg vs) M=some (eY,M.put b (.cells vs true)):=
 oF (pP aFr (by rw[hv]) hg (by rw[hl,hv]) hone)
theorem aGu{M:aC}{b:Nat}{vs:List AV}(hg:M.get b=some (.cells vs true))(hv:vs.length=4):fO tb [.c 70 (.ptr b 0)] M=some (.agg vs):=by
 have l:=eC (T:=tb) (n:=4) (o:=0) aFr rfl rfl hg (by omega)
 rw[List.drop_zero,List.take_of_length_le (by omega)] at l
 unfold fO lF lF
 simp only[l,Option.map_some]
def atC(C:aQ)(b:Int):List AV:=if 0≤b then (match C.bs[b.toNat]? with|some B=>jJ B|none=>aEl) else aEl
theorem aR5(M:aC)(hw:M.WF)(p:Nat)(C:aQ)(h:bF M p C)(b:Int):aB tb.P 172 [.ptr p 0,i64 b] M fun y N=>y= .agg (atC C b)∧aD M N []:=by
 refine aLI ?_
 unfold F172
 simp only[i64,aJ]
 refine bE fun M2 hM2=>?_
 have hM2':M2=M.new (.cells aEl true):=hM2
 subst hM2'
 have hK:=aD.new hw (.cells aEl true)
 have hg:=get_new M (.cells aEl true)
 have h1:=h.keep hw hK
 have fin:∀ vs:List AV,aD M ((M.new (.cells aEl true)).put M.next (.cells vs true)) []:=fun vs=>by
  rw[aC.new_put];exact aD.new hw _
 refine bE fun K hK1=>?_
 have no:atC C b=aEl→K true:=fun ha=>by
  rw[hK1]
  simp only[jF]
  refine aG (aJD hg rfl rfl (by intro v hv;simp only[List.mem_cons,List.not_mem_nil,or_false] at hv;rcases hv with rfl|rfl|rfl|rfl <;> rfl)) ?_
  refine aG (aGu (vs:=aEl) (by rw[aC.get_put,if_pos rfl];rfl) rfl) ?_
  exact⟨by rw[ha],fin _⟩
 simp only[aCA,eM,cO,fG,dB,fa2,bV,aBI h1,aJk h1,i64,aJ]
 refine aT (fun q=>no ?_) (fun q=>?_)
 ·have q:b<0:=by simpa using q
  unfold atC
  rw[if_neg (by omega)]
 have q:0≤b:=by have:¬ b<0:=by simpa using q
                omega
 obtain⟨i,rfl⟩:∃ i:Nat,b=(i:Int):=⟨b.toNat,by omega⟩
 by_cases hi:i<C.bs.length
 rotate_left
 ·rw[show decide ((i:Int)≥(C.bs.length:Int))=true by simpa using hi]
  refine no ?_
  unfold atC
  rw[if_pos q,Int.toNat_natCast,List.getElem?_eq_none (by omega)]
 rw[show decide ((i:Int)≥(C.bs.length:Int))=false by simpa using hi,hK1]
 have ha:atC C (i:Int)=jJ C.bs[i]:=by
  unfold atC
  rw[if_pos q,Int.toNat_natCast,List.getElem?_eq_getElem hi]
 simp only[fG,dB,eM,fa2,bV,aBI h1,aDv h1 hi,aQJ h1 hi]
 refine⟨_,_,_,_,rfl,?_⟩
 refine aG (aJD (vs:=jJ C.bs[i]) hg rfl rfl (by intro v hv;simp only[jJ,List.mem_cons,List.not_mem_nil,or_false] at hv;rcases hv with rfl|rfl|rfl|rfl <;> rfl)) ?_
 refine aG (aGu (vs:=jJ C.bs[i]) (by rw[aC.get_put,if_pos rfl]) rfl) ?_
 exact⟨by rw[ha],fin _⟩
def zV(C:aQ)(b:Int):Int:=if 0≤b then (match C.bs[b.toNat]? with|some B=>B.wear|none=>0) else 0
def zW(C:aQ)(b:Int):Int:=if 0≤b then (match C.bs[b.toNat]? with|some B=>B.next|none=>0) else 0
theorem aLd(C:aQ)(b:Int):∃ x d,atC C b=[x,i64 (zW C b),i64 (zV C b),i64 d]:=by
 unfold atC zW zV
 split
 ·split
  ·exact⟨_,_,rfl⟩
  ·exact⟨_,_,rfl⟩
 ·exact⟨_,_,rfl⟩
theorem aQN(M:aC)(hw:M.WF)(p:Nat)(C:aQ)(h:bF M p C)(b:Int):aB tb.P 137 [.ptr p 0,i64 b] M fun y N=>y=i64 (zV C b)∧aD M N []:=by
 refine aL6 ?_
 unfold F137
 simp only[i64,aJ]
 refine (aR5 M hw p C h b).mono ?_
 rintro y N ⟨rfl,hk⟩
 obtain⟨x,d,e⟩:=aLd C b
 rw[e]
 exact⟨_,_,_,_,rfl,rfl,hk⟩
theorem zE{g:eF}{b k:Int}:isG g b k=true↔(0≤b∧b≤g.bl-1)∧0≤k∧k≤g.pg-1:=by
 unfold isG yI
 simp only[Bool.and_eq_true,decide_eq_true_eq]
theorem bF.place{M:aC}{p:Nat}{C:aQ}(h:bF M p C){b k:Int}(hp:isG C.g b k=true):
 ∃ (i j:Nat) (hi:i<C.bs.length),b=(i:Int)∧k=(j:Int)∧j<C.g.pg.toNat∧C.g.pg.toNat≤8∧40≤aV C.g∧aV C.g≤80∧C.bs[i].by'.length=C.g.pg.toNat*aV C.g∧(j+1)*aV C.g≤C.bs[i].by'.length∧C.bs[i].by'.length≤640:=by
 obtain⟨⟨h1,h2⟩,h3,h4⟩:=zE.1 hp
 have hm:=bP.1 h.may
 have hi:b.toNat<C.bs.length:=by rw[h.len];omega
 have hf:=h.ful _ (List.getElem_mem hi)
 have hr:40≤aV C.g∧aV C.g≤80:=by unfold aV;omega
 have hpg:C.g.pg.toNat≤8:=by omega
 have hj:k.toNat+1≤C.g.pg.toNat:=by omega
 refine⟨b.toNat,k.toNat,hi,by omega,by omega,by omega,hpg,hr.1,hr.2,hf,?_,?_⟩
 ·rw[hf];exact Nat.mul_le_mul_right _ hj
 ·rw[hf]
  have:C.g.pg.toNat*aV C.g≤8*80:=Nat.mul_le_mul hpg hr.2
  omega
def jD(B:vP)(raw j:Nat):List (BitVec 8):=(B.by'.drop (j*raw)).take raw
theorem aFJ(M:aC)(hw:M.WF)(p:Nat)(C:aQ)(h:bF M p C){i j:Nat}(hi:i<C.bs.length)(hp:isG C.g i j=true):
 aB tb.P 156 [.ptr p 0,bB i j] M fun y N=>y= .sl C.bs[i].b (j*aV C.g) (aV C.g) (C.bs[i].by'.length-j*aV C.g) none∧aD M N []:=by
 obtain⟨i',j',hi',e1,e2,hj,hpg,hr1,hr2,hf,hle,hmax⟩:=h.place hp
 have e1:i'=i:=by omega
 have e2:j'=j:=by omega
 subst e1 e2
 refine aNu ?_
 unfold F156
 refine⟨_,_,rfl,?_⟩
 refine bE fun M3 hM3=>?_
 have hM3':M3=M.new (.cells [i64 (i':Int),i64 (j':Int)] true):=hM3
 have hK:aD M M3 []:=by rw[hM3'];exact aD.new hw _
 have hpl:M3.get M.next=some (.cells [i64 (i':Int),i64 (j':Int)] true):=by rw[hM3'];exact get_new _ _
 clear hM3 hM3'
 have h1:=h.keep hw hK
 simp only[dB,eM,fa0,bV,aMD h1]
 refine⟨_,_,_,_,_,rfl,?_⟩
 refine (aJN _ hK.wf C.g h.may).mono ?_
 rintro y N ⟨rfl,hk⟩
 have h2:=h1.keep hK.wf hk
 obtain⟨p0,p1,_⟩:=bO (hk.get hK.wf hpl (by simp))
 have hb1:j'*aV C.g≤640:=by
  have:(j'+1)*aV C.g=j'*aV C.g+aV C.g:=by rw[Nat.add_mul,Nat.one_mul]
  omega
 have m1:bT .i64 (j':Int) (aV C.g:Int)=((j'*aV C.g:Nat):Int):=by
  rw[bT,← Int.natCast_mul,aL (by omega) (by omega)]
 have m2:bT .i64 (aM .i64 (j':Int) 1) (aV C.g:Int)=(((j'+1)*aV C.g:Nat):Int):=by
  rw[dE (by omega),bT,← Int.natCast_mul,aL (by omega) (by omega)]
 simp only[i64,aJ,dB,eM,fa2,bV,aBI h2,aS p0,aS p1,aDv h2 hi,aLa h2 hi,m1,m2]
 have hsl:=aFS (T:=tb) gG vK (b:=C.bs[i'].b) (o:=0) (n:=C.bs[i'].by'.length) (c:=C.bs[i'].by'.length) (l:=j'*aV C.g) (h:=(j'+1)*aV C.g) (Nat.mul_le_mul_right _ (by omega)) hle (k1:= .i64) (k2:= .i64)
 have hd:(j'+1)*aV C.g-j'*aV C.g=aV C.g:=by rw[Nat.add_mul,Nat.one_mul];omega
 rw[AM.beq_false (show C.bs[i'].by'.length≠j'*aV C.g by
  have:(j'+1)*aV C.g=j'*aV C.g+aV C.g:=by rw[Nat.add_mul,Nat.one_mul]
  omega),cond_false,Nat.zero_add,hd] at hsl
 refine aG (fH hsl) ?_
 exact⟨rfl,hK.trans0 hk⟩
theorem aLK{M:aC}{p:Nat}{C:aQ}(h:bF M p C){i j:Nat}(hi:i<C.bs.length)(hp:isG C.g i j=true):
 aI M (.sl C.bs[i].b (j*aV C.g) (aV C.g) (C.bs[i].by'.length-j*aV C.g) none) (jD C.bs[i] (aV C.g) j)∧(jD C.bs[i] (aV C.g) j).length=aV C.g:=by
 obtain⟨i',j',hi',e1,e2,hj,hpg,hr1,hr2,hf,hle,hmax⟩:=h.place hp
 have e1:i'=i:=by omega
 have e2:j'=j:=by omega
 subst e1 e2
 have hs:(j'+1)*aV C.g=j'*aV C.g+aV C.g:=by rw[Nat.add_mul,Nat.one_mul]
 have hl:(jD C.bs[i'] (aV C.g) j').length=aV C.g:=by
  unfold jD
  rw[List.length_take,List.length_drop];omega
 refine⟨⟨by simp,.inr ⟨_,_,_,none,by rw[hl],⟨by rw[hl];omega,.inl rfl⟩,.inr ⟨_,_,h.dat _ (List.getElem_mem hi),by rw[hl,fM];omega,?_⟩⟩⟩,hl⟩
 rw[hl,Nat.mul_one]
 unfold jD dH
 rw[List.map_take,List.map_drop]
def zG(C:aQ)(b k:Int):Int:=if lZ C b k=0 then (if bgn C=true then 9 else 0) else lZ C b k
def yO(C:aQ)(b k:Int):aQ:=if lZ C b k=0 then sA C else C
def rdB(C:aQ)(b k:Int):List (BitVec 8):=if zG C b k=0 then (match C.bs[b.toNat]? with|some B=>jD B (aV C.g) k.toNat|none=>[]) else[]
theorem wC{C:aQ}{b k:Int}(h:lZ C b k=0):C.off=false∧isG C.g b k=true:=by
 unfold lZ at h
 split at h
 ·omega
 ·rename_i h1
  split at h
  ·rename_i h2;exact⟨by simpa using h1,h2⟩
  ·omega
theorem aCS(C:aQ):(sA C).bs=C.bs∧(sA C).g=C.g∧(sA C).fs=C.fs∧(sA C).cby=C.cby∧(sA C).cf=C.cf:=by
 unfold sA
 split <;> exact⟨rfl,rfl,rfl,rfl,rfl⟩
theorem aQZ(M:aC)(hw:M.WF)(p:Nat)(C:aQ)(h:bF M p C)(b k:Int):
 aB tb.P 121 [.ptr p 0,bB b k] M fun y N=>∃ u,y= .tup [u,i64 (zG C b k)]∧Gr N u (rdB C b k)∧(∀ c,aN u c→M.next≤c)∧dM M N p C (yO C b k):=by
 refine aM0 ?_
 unfold F121
 refine⟨_,_,rfl,?_⟩
 refine bE fun M3 hM3=>?_
 have hM3':M3=M.new (.cells [i64 b,i64 k] true):=hM3
 have hK:aD M M3 []:=by rw[hM3'];exact aD.new hw _
 have hpl:M3.get M.next=some (.cells [i64 b,i64 k] true):=by rw[hM3'];exact get_new _ _
 clear hM3 hM3'
 have h1:=h.keep hw hK
 have hpn:M.next<M3.next:=hK.wf _ _ hpl
 obtain⟨_,_,l2⟩:=bO hpl
 refine aG (aS l2) ?_
 refine⟨_,_,rfl,?_⟩
 refine (aC1 _ hK.wf p C h1 b k).mono ?_
 rintro y N ⟨rfl,hk⟩
 have h2:=h1.keep hK.wf hk
 have hKN:=hK.trans0 hk
 simp only[i64,aJ]
 refine aT (fun q=>?_) (fun q=>?_)
 ·have q:¬ lZ C b k=0:=by simpa using q
  have e1:zG C b k=lZ C b k:=by unfold zG;rw[if_neg q]
  refine⟨.val (.slice none 0 0),by rw[e1],?_,fun c hc=>hc.elim,?_⟩
  ·unfold rdB
   rw[if_neg (by rw[e1];exact q)]
   exact .inl ⟨rfl,rfl⟩
  ·unfold yO
   rw[if_neg q]
   exact dM.of0 hw h hKN
 have q:lZ C b k=0:=by simpa using q
 obtain⟨hoff,hp⟩:=wC q
 refine (aCY N hk.wf p C h2).mono ?_
 rintro y N2 ⟨rfl,hs⟩
 simp only[cO]
 refine aT (fun q2=>?_) (fun q2=>?_)
 ·have e1:zG C b k=9:=by unfold zG;rw[if_pos q,if_pos q2]
  refine⟨.val (.slice none 0 0),by rw[e1],?_,fun c hc=>hc.elim,?_⟩
  ·unfold rdB
   rw[if_neg (by rw[e1];decide)]
   exact .inl ⟨rfl,rfl⟩
  ·unfold yO
   rw[if_pos q]
   exact hs.pre hKN
 have e1:zG C b k=0:=by unfold zG;rw[if_pos q,q2];rfl
 have hplN:N2.get M.next=some (.cells [i64 b,i64 k] true):=hs.keep.get hk.wf (hk.get hK.wf hpl (by simp)) (fun hm=>by
  have hlt:∀ c∈foot p C,c<M.next:=by
   intro c hc
   simp only[foot,List.mem_cons,List.mem_map] at hc
   rcases hc with rfl|rfl|⟨B,hB,rfl⟩
   ·exact hw _ _ h.main
   ·exact hw _ _ h.tab
   ·exact hw _ _ (h.dat B hB)
  have:=hlt _ hm
  omega)
 obtain⟨_,_,l3⟩:=bO hplN
 refine aG (aS l3) ?_
 refine⟨_,_,rfl,?_⟩
 have h3:=hs.at'
 obtain⟨i,j,hi,rfl,rfl,_⟩:=h.place hp
 have hbb:=aCS C
 have hi3:i<(sA C).bs.length:=by rw[hbb.1];exact hi
 have hp3:isG (sA C).g i j=true:=by rw[hbb.2.1];exact hp
 refine (aFJ N2 hs.wf p (sA C) h3 hi3 hp3).mono ?_
 rintro y N3 ⟨rfl,hk3⟩
 have h4:=h3.keep hs.wf hk3
 obtain⟨hpa,hpl⟩:=aLK h4 hi3 hp3
 have hm:=bP.1 h4.may
 have hr:40≤aV (sA C).g∧aV (sA C).g≤80:=by unfold aV;omega
 refine (nN N3 hk3.wf _ _ hpa (by rw[hpl];omega) (by rw[hpl];omega)).mono ?_
 rintro y N4 ⟨hg,hk4,hfr⟩
 refine⟨y,by rw[e1],?_,fun c hc=>Nat.le_trans hKN.nxt (Nat.le_trans hs.keep.nxt (Nat.le_trans hk3.nxt (hfr c hc))),?_⟩
 ·unfold rdB
  rw[if_pos e1,Int.toNat_natCast,Int.toNat_natCast,List.getElem?_eq_getElem hi]
  have:jD (sA C).bs[i] (aV (sA C).g) j=jD C.bs[i] (aV C.g) j:=by simp only[hbb.1,hbb.2.1]
  rw[this] at hg
  exact hg
 ·unfold yO
  rw[if_pos q]
  exact (hs.pre hKN).post (hk3.trans0 hk4)
theorem bF.lt{M:aC}{p:Nat}{C:aQ}(h:bF M p C)(hw:M.WF):∀ c∈foot p C,c<M.next:=by
 intro c hc
 simp only[foot,List.mem_cons,List.mem_map] at hc
 rcases hc with rfl|rfl|⟨B,hB,rfl⟩
 ·exact hw _ _ h.main
 ·exact hw _ _ h.tab
 ·exact hw _ _ (h.dat B hB)
theorem uB{M N:aC}{p:Nat}{C C':aQ}(s:dM M N p C C')(hw:M.WF){c:Nat}{r:hY}(hg:M.get c=some r)(hc:c∉foot p C):N.get c=some r:=s.keep.get hw hg hc
def aQ.upB(C:aQ)(i:Nat)(B:vP):aQ:={ C with bs:=C.bs.set i B }
theorem oY(C:aQ)(i:Nat)(B:vP):(C.upB i B).bs.length=C.bs.length:=by simp[aQ.upB]
theorem fQ{C:aQ}{i:Nat}{B:vP}(h:i<(C.upB i B).bs.length):(C.upB i B).bs[i]=B:=by simp[aQ.upB]
theorem pG(C:aQ)(i:Nat)(B B':vP):(C.upB i B).upB i B'=C.upB i B':=by simp[aQ.upB]
section
variable {M:aC} {p:Nat} {C:aQ} (h:bF M p C) (hw:M.WF) {i:Nat} (hi:i<C.bs.length)
include h hw
theorem uP(z:Int):∃ N,cL tb 3 (.ptr C.bb (i*4+1)) (.val (.int .i64 z)) M=some (eY,N)∧dM M N p C (C.upB i { C.bs[i] with next:=z }):=
 ⟨_,aFn h hi (z:=z) { C.bs[i] with next:=z } (j:=1) (by omega) rfl,h.setB hw hi _ rfl rfl⟩
theorem aJd(z:Int):∃ N,cL tb 3 (.ptr C.bb (i*4+2)) (.val (.int .i64 z)) M=some (eY,N)∧dM M N p C (C.upB i { C.bs[i] with wear:=z }):=
 ⟨_,aFn h hi (z:=z) { C.bs[i] with wear:=z } (j:=2) (by omega) rfl,h.setB hw hi _ rfl rfl⟩
theorem aEw(z:Int):∃ N,cL tb 3 (.ptr C.bb (i*4+3)) (.val (.int .i64 z)) M=some (eY,N)∧dM M N p C (C.upB i { C.bs[i] with done:=z }):=
 ⟨_,aFn h hi (z:=z) { C.bs[i] with done:=z } (j:=3) (by omega) rfl,h.setB hw hi _ rfl rfl⟩
end
def over(l:List (BitVec 8))(o:Nat)(m:List (BitVec 8)):List (BitVec 8):=l.take o++m++l.drop (o+m.length)
theorem aDC{l:List (BitVec 8)}{o:Nat}{m:List (BitVec 8)}(h:o+m.length≤l.length):(over l o m).length=l.length:=by
 unfold over
 simp only[List.length_append,List.length_take,List.length_drop];omega
theorem aIH(l:List (BitVec 8))(o:Nat):over l o []=l:=by simp[over]
theorem rU{l:List (BitVec 8)}{o:Nat}{m:List (BitVec 8)}(h:o+m.length≤l.length):setAt (dH l) o (dH m)=dH (over l o m):=by
 have h1:dH l=dH (l.take o)++dH ((l.drop o).take m.length)++dH (l.drop (o+m.length)):=by
  rw[← iW,← iW]
  congr 1
  conv=>lhs;rw[← List.take_append_drop o l,← List.take_append_drop m.length (l.drop o)]
  rw[List.drop_drop,List.append_assoc]
 have h2:=rN (dH m) (dH (l.take o)) (dH (l.drop (o+m.length))) (dH ((l.drop o).take m.length)) (by simp;omega)
 rw[fM,List.length_take,Nat.min_eq_left (by omega)] at h2
 rw[h1,h2]
 unfold over
 rw[iW,iW]
theorem aCf{M:aC}{p:Nat}{C:aQ}(h:bF M p C)(hw:M.WF){i j:Nat}(hi:i<C.bs.length)(hp:isG C.g i j=true){x:AV}{m:List (BitVec 8)}(hx:aI M x m)(hm:m.length≤aV C.g):
 ∃ N,hG tb 25 (.sl C.bs[i].b (j*aV C.g) (aV C.g) (C.bs[i].by'.length-j*aV C.g) none) x M=some (i64 (m.length:Int),N)∧
   dM M N p C (C.upB i { C.bs[i] with by':=over C.bs[i].by' (j*aV C.g) m }):=by
 obtain⟨i',j',hi',e1,e2,hj,hpg,hr1,hr2,hf,hle,hmax⟩:=h.place hp
 have e1:i'=i:=by omega
 have e2:j'=j:=by omega
 subst e1 e2
 have hs:(j'+1)*aV C.g=j'*aV C.g+aV C.g:=by rw[Nat.add_mul,Nat.one_mul]
 have hfit:j'*aV C.g+m.length≤C.bs[i'].by'.length:=by omega
 have hmin:Nat.min m.length (aV C.g)=m.length:=Nat.min_eq_left hm
 unfold hG
 rw[gG]
 simp only[vK]
 have he1:evLen (.sl C.bs[i'].b (j'*aV C.g) (aV C.g) (C.bs[i'].by'.length-j'*aV C.g) none)=some (aV C.g):=rfl
 rw[he1,aO.evLen hx]
 simp only[hmin,aO.evFirst hx]
 by_cases h0:m.length=0
 ·have hnil:m=[]:=List.eq_nil_of_length_eq_zero h0
  subst hnil
  refine⟨M,rfl,?_⟩
  have:C.upB i' { C.bs[i'] with by':=over C.bs[i'].by' (j'*aV C.g) [] }=C:=by
   rw[aIH]
   unfold aQ.upB
   rw[show ({ C.bs[i'] with by':=C.bs[i'].by' }:vP)=C.bs[i'] from rfl,List.set_getElem_self]
  rw[this]
  exact dM.refl hw h
 ·have hb:Nat.beq m.length 0=false:=AM.beq_ne h0
  rw[hb,cond_false]
  have hst:M.storeAt C.bs[i'].b (j'*aV C.g) (dH m)=some (M.put C.bs[i'].b (.cells (dH (over C.bs[i'].by' (j'*aV C.g) m)) true)):=by
   unfold aC.storeAt
   rw[h.dat _ (List.getElem_mem hi)]
   simp only[fM,AM.ble_of hfit,cond_true,rJ (tT m),rU hfit]
  rw[hst]
  exact⟨_,rfl,h.setD hw hi _ (aDC hfit)⟩
def pgS(C:aQ)(cut:Bool)(i j:Nat)(d:List (BitVec 8)):aQ×Int:=
 match C.bs[i]? with
 | none=>(C,0)
 | some B=>
   if gK C.fs i B.done=true then (C,10)
   else if (j:Int)≠B.next then (C,11)
   else if cut=true then (C.upB i { B with by':=over B.by' (j*aV C.g) (d.take (min C.cby.toNat d.length)),next:=aM .i64 B.next 1 },0)
   else (C.upB i { B with by':=over B.by' (j*aV C.g) d,next:=aM .i64 B.next 1,done:=aM .i64 B.done 1 },0)
def pgR(C:aQ)(b k:Int)(d:List (BitVec 8)):aQ×Int:=
 if lZ C b k=0 then
  (if d.length=aV C.g then ((pgS (sA C) (bgn C) b.toNat k.toNat d).1,if bgn C=true then 9 else (pgS (sA C) (bgn C) b.toNat k.toNat d).2) else (C,2))
 else (C,lZ C b k)
theorem aH8(M:aC)(hw:M.WF)(p:Nat)(C:aQ)(h:bF M p C)(b k:Int)(x:AV)(d:List (BitVec 8))(hx:aI M x d)(hd:d.length≤9223372036854775807)(hxf:∀ c,aN x c→c∉foot p C):
 aB tb.P 177 [.ptr p 0,bB b k,x] M fun y N=>y=i64 (pgR C b k d).2∧dM M N p C (pgR C b k d).1:=by
 refine aLN ?_
 unfold F177
 refine⟨_,_,rfl,?_⟩
 refine bE fun M3 hM3=>?_
 have hM3':M3=M.new (.cells [i64 b,i64 k] true):=hM3
 have hK:aD M M3 []:=by rw[hM3'];exact aD.new hw _
 have hpl:M3.get M.next=some (.cells [i64 b,i64 k] true):=by rw[hM3'];exact get_new _ _
 clear hM3 hM3'
 have h1:=h.keep hw hK
 have hpn:M.next∉foot p C:=fun hm=>by have:=h.lt hw _ hm;omega
 obtain⟨_,_,l2⟩:=bO hpl
 refine aG (aS l2) ?_
 refine⟨_,_,rfl,?_⟩
 refine (aC1 _ hK.wf p C h1 b k).mono ?_
 rintro y M8 ⟨rfl,hk8⟩
 have h8:=h1.keep hK.wf hk8
 have hK8:=hK.trans0 hk8
 simp only[i64,aJ]
 refine aT (fun q=>?_) (fun q=>?_)
 ·have q:¬ lZ C b k=0:=by simpa using q
  unfold pgR
  rw[if_neg q]
  exact⟨rfl,dM.of0 hw h hK8⟩
 have q:lZ C b k=0:=by simpa using q
 have hpg:=(wC q).2
 have hx8:aI M8 x d:=aO.keep0 hx hw hK8
 refine aG (iO hx8.len) ?_
 simp only[aJ,dB,eM,fa0,bV,aMD h8]
 refine⟨_,_,_,_,_,rfl,?_⟩
 refine (aJN _ hk8.wf C.g h.may).mono ?_
 rintro y M23 ⟨rfl,hk23⟩
 have h23:=h8.keep hk8.wf hk23
 have hK23:=hK8.trans0 hk23
 simp only[i64,aJ]
 refine aT (fun q2=>?_) (fun q2=>?_)
 ·have q2:¬ d.length=aV C.g:=fun e=>by rw[e] at q2;simp at q2
  unfold pgR
  rw[if_pos q,if_neg q2]
  exact⟨rfl,dM.of0 hw h hK23⟩
 have q2:d.length=aV C.g:=by
  have:(d.length:Int)=aV C.g:=by simpa using q2
  omega
 unfold pgR
 rw[if_pos q,if_pos q2]
 obtain⟨i,j,hi,rfl,rfl,hj,hpg8,hr1,hr2,hf,hle,hmax⟩:=h.place hpg
 simp only[Int.toNat_natCast]
 have hplN:M23.get M.next=some (.cells [i64 (i:Int),i64 (j:Int)] true):=(hk8.trans0 hk23).get hK.wf hpl (by simp)
 obtain⟨a0,_,_⟩:=bO hplN
 simp only[dB,eM,fa2,bV,aBI h23,aS a0,i64,aJ,aDv h23 hi]
 refine (aCY M23 hk23.wf p C h23).mono ?_
 rintro y M36 ⟨rfl,hs⟩
 simp only[cO]
 have hbb:=aCS C
 have hft:foot p (sA C)=foot p C:=hs.foot
 have hS36:=hs.pre hK23
 have h36:=hs.at'
 have hpl36:=uB hs hk23.wf hplN hpn
 generalize hC1:sA C=C1 at*
 have hi1:i<C1.bs.length:=by rw[hbb.1];exact hi
 have hp1:isG C1.g i j=true:=by rw[hbb.2.1];exact hpg
 have hrw:aV C1.g=aV C.g:=by rw[hbb.2.1]
 have hx36:aI M36 x d:=aO.keep hx hw hS36.keep hxf
 have hbbe:C1.bb=C.bb:=by rw[← hC1];unfold sA;split <;> rfl
 generalize bgn C=cut at*
 refine bE fun K hK85=>?_
 have kk:∀ (z:Int) (N:aC) (C2:aQ),pgS C1 cut i j d=(C2,z)→dM M36 N p C1 C2→K z N:=by
  intro z N C2 e s
  rw[hK85,e]
  refine aT (fun hc=>⟨by rw[hc];rfl,hS36.trans s⟩) (fun hc=>⟨by rw[hc];rfl,hS36.trans s⟩)
 obtain⟨b0,_,_⟩:=bO hpl36
 refine aG (aS b0) ?_
 simp only[i64,aJ]
 refine (aA5 M36 hs.wf p C1 h36 (i:Int)).mono ?_
 rintro y M41 ⟨rfl,hk41⟩
 have h41:=h36.keep hs.wf hk41
 have hs41:=dM.of0 hs.wf h36 hk41
 have hfl:rE C1 (i:Int)=gK C1.fs i C1.bs[i].done:=by
  unfold rE
  rw[Int.toNat_natCast,List.getElem?_eq_getElem hi1,decide_eq_true (by omega),Bool.true_and]
 have hpgS:∀ r,(if gK C1.fs i C1.bs[i].done=true then (C1,10)
  else if (j:Int)≠C1.bs[i].next then (C1,11)
  else if cut=true then (C1.upB i { C1.bs[i] with by':=over C1.bs[i].by' (j*aV C1.g) (d.take (min C1.cby.toNat d.length)),next:=aM .i64 C1.bs[i].next 1 },0)
  else (C1.upB i { C1.bs[i] with by':=over C1.bs[i].by' (j*aV C1.g) d,next:=aM .i64 C1.bs[i].next 1,done:=aM .i64 C1.bs[i].done 1 },(0:Int)))=r→pgS C1 cut i j d=r:=fun r hr=>by
  unfold pgS
  rw[List.getElem?_eq_getElem hi1]
  exact hr
 simp only[cO]
 rw[hfl]
 refine aT (fun q3=>kk 10 M41 C1 (hpgS _ (by rw[if_pos q3])) hs41) (fun q3=>?_)
 have q3':¬ gK C1.fs i C1.bs[i].done=true:=by rw[q3];simp
 have hpl41:=hk41.get hs.wf hpl36 (by simp)
 obtain⟨_,c1,c2⟩:=bO hpl41
 have hnx:=aC9 h41 hi1
 rw[hbbe] at hnx
 simp only[aS c1,eM,i64,aJ,hnx]
 refine aT (fun q4=>kk 11 M41 C1 (hpgS _ (by rw[if_neg q3',if_pos (by simpa using q4)])) hs41) (fun q4=>?_)
 have q4:¬ (j:Int)≠C1.bs[i].next:=by simpa using q4
 have hx41:aI M41 x d:=aO.keep0 hx36 hs.wf hk41
 refine aT (fun hc=>?_) (fun hc=>?_)
 ·
  have hcb:=aKD h41
  simp only[dB,eM,fa6,bV,aS c2]
  refine⟨_,_,rfl,?_⟩
  simp only[Nat.reduceAdd,hcb,eM,i64,aJ]
  refine aG (iO hx41.len) ?_
  simp only[aJ]
  have hcby:=h41.cby0
  have hmin:yM tb #[3,3] 3 [.int .i64 C1.cby,.int .i64 (d.length:Int)] M41=some (.val (.int .i64 ((min C1.cby.toNat d.length:Nat):Int)),M41):=by
   have:yM tb #[3,3] 3 [.int .i64 C1.cby,.int .i64 (d.length:Int)] M41=some (.val (.int .i64 (if (d.length:Int)<C1.cby then (d.length:Int) else C1.cby)),M41):=rfl
   rw[this]
   congr 4
   split <;> omega
  refine aG hmin ?_
  simp only[aJ]
  obtain⟨y60,hsl,hy60⟩:=hx41.slice (lo:=none) (hi:=some (.val (.int .i64 ((min C1.cby.toNat d.length:Nat):Int)))) (a:=0) (r:=min C1.cby.toNat d.length) (.inl ⟨rfl,rfl⟩) (.inr rfl) (by omega) (by omega)
  rw[List.drop_zero] at hy60
  refine aG (fH hsl) ?_
  refine (aFJ M41 hk41.wf p C1 h41 hi1 hp1).mono ?_
  rintro y M62 ⟨rfl,hk62⟩
  have h62:=h41.keep hk41.wf hk62
  have hx62:aI M62 x d:=aO.keep0 hx41 hk41.wf hk62
  refine⟨aG (aKD h62) rfl,aG (iO hx62.len) rfl,?_⟩
  have hy62:aI M62 y60 (d.take (min C1.cby.toNat d.length)):=aO.keep0 hy60 hk41.wf hk62
  obtain⟨N,hcp,hsN⟩:=aCf h62 hk62.wf hi1 hp1 hy62 (by rw[List.length_take];omega)
  refine aG hcp ?_
  simp only[i64,aJ]
  have hiN:i<(C1.upB i { C1.bs[i] with by':=over C1.bs[i].by' (j*aV C1.g) (d.take (min C1.cby.toNat d.length)) }).bs.length:=by rw[oY];exact hi1
  have hn1:=aC9 hsN.at' hiN
  rw[fQ] at hn1
  have hbN:(C1.upB i { C1.bs[i] with by':=over C1.bs[i].by' (j*aV C1.g) (d.take (min C1.cby.toNat d.length)) }).bb=C.bb:=hbbe
  rw[hbN] at hn1
  simp only[hn1,eM,i64,aJ]
  obtain⟨N2,hst,hs2⟩:=uP hsN.at' hsN.wf hiN (aM .i64 C1.bs[i].next 1)
  rw[hbN] at hst
  refine aG hst ?_
  rw[pG] at hs2
  simp only[fQ] at hs2
  refine kk 0 N2 _ (hpgS _ (by rw[if_neg q3',if_neg q4,if_pos hc])) (hs41.trans (dM.pre hk62 (hsN.trans hs2)))
 ·have hc':¬ cut=true:=by rw[hc];simp
  simp only[aS c2,eM]
  refine⟨_,_,rfl,?_⟩
  refine (aFJ M41 hk41.wf p C1 h41 hi1 hp1).mono ?_
  rintro y M74 ⟨rfl,hk74⟩
  have h74:=h41.keep hk41.wf hk74
  have hx74:aI M74 x d:=aO.keep0 hx41 hk41.wf hk74
  obtain⟨N,hcp,hsN⟩:=aCf h74 hk74.wf hi1 hp1 hx74 (by rw[q2,hrw];exact Nat.le_refl _)
  refine aG hcp ?_
  simp only[i64,aJ]
  have hiN:i<(C1.upB i { C1.bs[i] with by':=over C1.bs[i].by' (j*aV C1.g) d }).bs.length:=by rw[oY];exact hi1
  have hn1:=aC9 hsN.at' hiN
  rw[fQ] at hn1
  have hbN:(C1.upB i { C1.bs[i] with by':=over C1.bs[i].by' (j*aV C1.g) d }).bb=C.bb:=hbbe
  rw[hbN] at hn1
  simp only[hn1,eM,i64,aJ]
  obtain⟨N2,hst,hs2⟩:=uP hsN.at' hsN.wf hiN (aM .i64 C1.bs[i].next 1)
  rw[hbN] at hst
  refine aG hst ?_
  rw[pG] at hs2
  simp only[fQ] at hs2
  have hi2:i<(C1.upB i { C1.bs[i] with by':=over C1.bs[i].by' (j*aV C1.g) d,next:=aM .i64 C1.bs[i].next 1 }).bs.length:=by rw[oY];exact hi1
  have hd1:=aCw hs2.at' hi2
  rw[fQ] at hd1
  have hb2:(C1.upB i { C1.bs[i] with by':=over C1.bs[i].by' (j*aV C1.g) d,next:=aM .i64 C1.bs[i].next 1 }).bb=C.bb:=hbbe
  rw[hb2] at hd1
  simp only[hd1,eM,i64,aJ]
  obtain⟨N3,hst3,hs3⟩:=aEw hs2.at' hs2.wf hi2 (aM .i64 C1.bs[i].done 1)
  rw[hb2] at hst3
  refine aG hst3 ?_
  rw[pG] at hs3
  simp only[fQ] at hs3
  refine kk 0 N3 _ (hpgS _ (by rw[if_neg q3',if_neg q4,if_neg hc'])) (hs41.trans (dM.pre hk74 (hsN.trans (hs2.trans hs3))))
theorem aJP{α:Type}(a:α){l:List α}{q:Nat}(h:q<l.length):(List.replicate q a++l.drop q).set q a=List.replicate (q+1) a++l.drop (q+1):=by
 rw[List.set_append_right _ _ (by simp),List.length_replicate,Nat.sub_self,← List.getElem_cons_drop h,List.set_cons_zero,List.replicate_succ',List.append_assoc,List.singleton_append]
theorem aRF{b n c q:Nat}{M:aC}(h:q<n):bU tb 25 (.sl b 0 n c none) (.val (.int .i64 (q:Int))) M=some (.ptr b q,M):=bH (by
 unfold bJ
 rw[gG]
 have h0:decide (0≤(q:Int))=true:=by simp
 simp only[vK,Int.toNat_natCast,AM.blt_of h,cond_true,h0,Nat.zero_add,Nat.mul_one])
def erS(C:aQ)(fill:BitVec 8)(i:Nat):aQ×Int:=
 match C.bs[i]? with
 | none=>(C,0)
 | some B=>
   if gK C.fs i B.done=true then (C,10)
   else (C.upB i { B with by':=List.replicate B.by'.length fill,next:=if fill=255#8 then 0 else C.g.pg,wear:=aM .i64 B.wear 1,done:=aM .i64 B.done 1 },0)
def erF(C:aQ):BitVec 8:=if bgn C=true then C.cf else 255#8
def erR(C:aQ)(b:Int):aQ×Int:=
 if lZ C b 0=0 then ((erS (sA C) (erF C) b.toNat).1,if bgn C=true then 9 else (erS (sA C) (erF C) b.toNat).2)
 else (C,lZ C b 0)
theorem aM9(M:aC)(hw:M.WF)(p:Nat)(C:aQ)(h:bF M p C)(b:Int):
 aB tb.P 132 [.ptr p 0,i64 b] M fun y N=>y=i64 (erR C b).2∧dM M N p C (erR C b).1:=by
 refine aOj ?_
 unfold F132
 simp only[i64,aJ]
 refine (aC1 M hw p C h b 0).mono ?_
 rintro y M3 ⟨rfl,hk3⟩
 have h3:=h.keep hw hk3
 simp only[i64,aJ]
 refine aT (fun q=>?_) (fun q=>?_)
 ·have q:¬ lZ C b 0=0:=by simpa using q
  unfold erR
  rw[if_neg q]
  exact⟨rfl,dM.of0 hw h hk3⟩
 have q:lZ C b 0=0:=by simpa using q
 have hpg:=(wC q).2
 unfold erR
 rw[if_pos q]
 obtain⟨i,j,hi,rfl,_,hj,hpg8,hr1,hr2,hf,hle,hmax⟩:=h.place hpg
 simp only[Int.toNat_natCast]
 refine (aCY M3 hk3.wf p C h3).mono ?_
 rintro y M6 ⟨rfl,hs⟩
 simp only[cO]
 have hbb:=aCS C
 have hS6:=hs.pre hk3
 have h6:=hs.at'
 unfold erF
 have hcf:C.cf=(sA C).cf:=hbb.2.2.2.2.symm
 rw[hcf]
 have hbbe:(sA C).bb=C.bb:=by unfold sA;split <;> rfl
 generalize hC1:sA C=C1 at*
 have hi1:i<C1.bs.length:=by rw[hbb.1];exact hi
 have hf1:C1.bs[i].by'.length≤640:=by
  have:C1.bs[i]=C.bs[i]:=by simp only[hbb.1]
  rw[this];exact hmax
 generalize bgn C=cut at*
 refine bE fun K hK=>?_
 have fin:∀ fill:BitVec 8,(if cut=true then C1.cf else 255#8)=fill→K (fill.toNat:Int):=by
  intro fill hfill
  rw[hK,hfill]
  clear hK K
  refine bE fun K59 hK59=>?_
  have kk:∀ (z:Int) (N:aC) (C2:aQ),erS C1 fill i=(C2,z)→dM M6 N p C1 C2→K59 z N:=by
   intro z N C2 e s
   rw[hK59,e]
   refine aT (fun hc=>⟨by rw[hc];rfl,hS6.trans s⟩) (fun hc=>⟨by rw[hc];rfl,hS6.trans s⟩)
  clear hK59
  refine (aA5 M6 hs.wf p C1 h6 (i:Int)).mono ?_
  rintro y M17 ⟨rfl,hk17⟩
  have h17:=h6.keep hs.wf hk17
  have hs17:=dM.of0 hs.wf h6 hk17
  have hfl:rE C1 (i:Int)=gK C1.fs i C1.bs[i].done:=by
   unfold rE
   rw[Int.toNat_natCast,List.getElem?_eq_getElem hi1,decide_eq_true (by omega),Bool.true_and]
  have hpgS:∀ r,(if gK C1.fs i C1.bs[i].done=true then (C1,10)
   else (C1.upB i { C1.bs[i] with by':=List.replicate C1.bs[i].by'.length fill,next:=if fill=255#8 then 0 else C1.g.pg,wear:=aM .i64 C1.bs[i].wear 1,done:=aM .i64 C1.bs[i].done 1 },(0:Int)))=r→erS C1 fill i=r:=fun r hr=>by
   unfold erS
   rw[List.getElem?_eq_getElem hi1]
   exact hr
  simp only[cO]
  rw[hfl]
  refine aT (fun q3=>?_) (fun q3=>kk 10 M17 C1 (hpgS _ (by rw[if_pos (by simpa using q3)])) hs17)
  have q3':¬ gK C1.fs i C1.bs[i].done=true:=by simpa using q3
  simp only[dB,eM,fa2,bV,aBI h17,aDv h17 hi1,aLa h17 hi1]
  refine aG (iO (show bD tb false 25 (.sl C1.bs[i].b 0 C1.bs[i].by'.length C1.bs[i].by'.length none) M17=some C1.bs[i].by'.length by unfold bD;rw[gG];rfl)) ?_
  simp only[aJ]
  refine⟨fun z n P=>∃ k:Nat,z=k∧n=C1.bs[i].by'.length-k∧k≤C1.bs[i].by'.length∧dM M17 P p C1 (C1.upB i { C1.bs[i] with by':=List.replicate k fill++C1.bs[i].by'.drop k }),⟨C1.bs[i].by'.length,0,rfl,rfl,Nat.zero_le _,?_⟩,?_⟩
  ·have:C1.upB i { C1.bs[i] with by':=List.replicate 0 fill++C1.bs[i].by'.drop 0 }=C1:=by
    unfold aQ.upB
    rw[List.drop_zero,List.replicate_zero,List.nil_append,show ({ C1.bs[i] with by':=C1.bs[i].by' }:vP)=C1.bs[i] from rfl,List.set_getElem_self]
   rw[this]
   exact dM.refl hk17.wf h17
  rintro _ z n P ⟨k,rfl,rfl,hk,hsP⟩
  have hiP:i<(C1.upB i { C1.bs[i] with by':=List.replicate k fill++C1.bs[i].by'.drop k }).bs.length:=by rw[oY];exact hi1
  have hbP:(C1.upB i { C1.bs[i] with by':=List.replicate k fill++C1.bs[i].by'.drop k }).bb=C1.bb:=rfl
  refine aT (fun hlt=>?_) (fun hge=>?_)
  ·have hlt:k<C1.bs[i].by'.length:=by simpa using hlt
   have hl:=aLa hsP.at' hiP
   rw[fQ,hbP] at hl
   have hlen:(List.replicate k fill++C1.bs[i].by'.drop k).length=C1.bs[i].by'.length:=by simp;omega
   simp only[hl,hlen,eM]
   simp only[aRF hlt,eM,bV]
   have hdat:=hsP.at'.dat _ (List.getElem_mem hiP)
   rw[fQ] at hdat
   have hst:=aEG hdat (i:=k) (by rw[hlen];exact hlt) fill
   rw[aJP fill hlt] at hst
   refine aG (oF hst) ?_
   have hsD:=hsP.at'.setD hsP.wf hiP (List.replicate (k+1) fill++C1.bs[i].by'.drop (k+1)) (by rw[fQ,hlen];simp;omega)
   have he:({ C1.upB i { C1.bs[i] with by':=List.replicate k fill++C1.bs[i].by'.drop k } with bs:=(C1.upB i { C1.bs[i] with by':=List.replicate k fill++C1.bs[i].by'.drop k }).bs.set i { (C1.upB i { C1.bs[i] with by':=List.replicate k fill++C1.bs[i].by'.drop k }).bs[i] with by':=List.replicate (k+1) fill++C1.bs[i].by'.drop (k+1) } }:aQ)=C1.upB i { C1.bs[i] with by':=List.replicate (k+1) fill++C1.bs[i].by'.drop (k+1) }:=by
    simp[aQ.upB]
   rw[he] at hsD
   rw[fQ] at hsD
   exact⟨C1.bs[i].by'.length-(k+1),by omega,k+1,dE (by omega),rfl,hlt,hsP.trans hsD⟩
  ·have hge:k=C1.bs[i].by'.length:=by have:¬ (k:Int)<C1.bs[i].by'.length:=by simpa using hge
                                      omega
   subst hge
   rw[List.drop_length,List.append_nil] at hsP hiP
   obtain⟨N2,hst,hs2⟩:=uP hsP.at' hsP.wf hiP 0
   have hb1:(C1.upB i { C1.bs[i] with by':=List.replicate C1.bs[i].by'.length fill }).bb=C1.bb:=rfl
   rw[hb1] at hst
   refine aG hst ?_
   rw[pG] at hs2
   simp only[fQ] at hs2
   have hs02:=hsP.trans hs2
   clear hs2 hst
   refine bE fun K50 hK50=>?_
   have k50:∀ (N:aC),dM M17 N p C1 (C1.upB i { C1.bs[i] with by':=List.replicate C1.bs[i].by'.length fill,next:=if fill=255#8 then 0 else C1.g.pg })→K50 N:=by
    intro N sN
    rw[hK50]
    generalize (if fill=255#8 then (0:Int) else C1.g.pg)=nx at*
    have hiN:i<(C1.upB i { C1.bs[i] with by':=List.replicate C1.bs[i].by'.length fill,next:=nx }).bs.length:=by rw[oY];exact hi1
    have hw1:=aNo sN.at' hiN
    rw[fQ] at hw1
    have hbN:(C1.upB i { C1.bs[i] with by':=List.replicate C1.bs[i].by'.length fill,next:=nx }).bb=C1.bb:=rfl
    rw[hbN] at hw1
    simp only[hw1,eM,i64,aJ]
    obtain⟨N3,hst3,hs3⟩:=aJd sN.at' sN.wf hiN (aM .i64 C1.bs[i].wear 1)
    rw[hbN] at hst3
    refine aG hst3 ?_
    rw[pG] at hs3
    simp only[fQ] at hs3
    have hi3:i<(C1.upB i { C1.bs[i] with by':=List.replicate C1.bs[i].by'.length fill,next:=nx,wear:=aM .i64 C1.bs[i].wear 1 }).bs.length:=by rw[oY];exact hi1
    have hd1:=aCw hs3.at' hi3
    rw[fQ] at hd1
    have hb3:(C1.upB i { C1.bs[i] with by':=List.replicate C1.bs[i].by'.length fill,next:=nx,wear:=aM .i64 C1.bs[i].wear 1 }).bb=C1.bb:=rfl
    rw[hb3] at hd1
    simp only[hd1,eM,i64,aJ]
    obtain⟨N4,hst4,hs4⟩:=aEw hs3.at' hs3.wf hi3 (aM .i64 C1.bs[i].done 1)
    rw[hb3] at hst4
    refine aG hst4 ?_
    rw[pG] at hs4
    simp only[fQ] at hs4
    exact kk 0 N4 _ (hpgS _ (by rw[if_neg q3'])) (hs17.trans (sN.trans (hs3.trans hs4)))
   have hz:((fill.toNat:Int) != 255)=decide (fill≠255#8):=aLo fill 255 (by omega)
   rw[hz]
   refine aT (fun hc=>?_) (fun hc=>?_)
   ·have hc:fill≠255#8:=by simpa using hc
    have hpg:=aSo hs02.at'
    simp only[dB,eM,fa0,bV,Nat.zero_add,hpg,i64,aJ]
    have hi2:i<(C1.upB i { C1.bs[i] with by':=List.replicate C1.bs[i].by'.length fill,next:=0 }).bs.length:=by rw[oY];exact hi1
    obtain⟨N3,hst3,hs3⟩:=uP hs02.at' hs02.wf hi2 C1.g.pg
    refine aG hst3 ?_
    rw[pG] at hs3
    simp only[fQ] at hs3
    refine k50 N3 ?_
    rw[if_neg hc]
    exact hs02.trans hs3
   ·have hc:fill=255#8:=by simpa using hc
    refine k50 N2 ?_
    rw[if_pos hc]
    exact hs02
 refine aT (fun hc=>?_) (fun hc=>?_)
 ·have hld:=aRA h6
  simp only[dB,eM,fa6,bV,Nat.reduceAdd,hld,rZ,aJ]
  exact fin _ (by rw[if_pos hc])
 ·exact fin 255#8 (by rw[hc];rfl)
end Go.Proofs.YteaogiidncpofaaGreat
