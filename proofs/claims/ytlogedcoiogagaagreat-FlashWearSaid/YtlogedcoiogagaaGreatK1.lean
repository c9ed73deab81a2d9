import Derived.Test.YtlogedcoiogagaaGreatB3
import Derived.Test.YtlogedcoiogagaaGreatQA
set_option linter.unusedSimpArgs false
set_option linter.unusedVariables false
set_option linter.unusedSectionVars false
set_option maxRecDepth 100000
namespace Go.Proofs.YtlogedcoiogagaaGreat
open Go.AM
theorem ty37:tb.ty.get 37=some ⟨.sli 5,1,24,[.slice none 0 0],none⟩:=by kernel_rfl
theorem ty5:tb.ty.get 5=some ⟨.int .u8,1,1,[.int .u8 0],none⟩:=by kernel_rfl
def bv8(b:BitVec 8):AV:= .val (.int .u8 (b.toNat:Int))
def bvs(l:List (BitVec 8)):List AV:=l.map bv8
@[simp] theorem bvs_length (l:List (BitVec 8)):(bvs l).length=l.length:=by simp[bvs]
theorem bvs_append(l m:List (BitVec 8)):bvs (l++m)=bvs l++bvs m:=by simp[bvs]
theorem bvs_one(l:List (BitVec 8)):∀ v∈bvs l,v.one=true:=by
 intro v hv
 obtain⟨b,_,rfl⟩:=List.mem_map.1 hv
 rfl
def BytesAt(M:Mem)(x:AV)(l:List (BitVec 8)):Prop:=SlAt 1 M x l.length (bvs l)
theorem BytesAt.len{M M':Mem}{x:AV}{l:List (BitVec 8)}(h:BytesAt M x l):evLenCap tb false 37 x M'=some l.length:=SlAt.len h ty37 rfl
theorem BytesAt.at{M:Mem}{x:AV}{l:List (BitVec 8)}(h:BytesAt M x l){i:Nat}(hi:i<l.length):
 ∃ b o,evIndexAddr tb 37 x (.val (.int .i64 (i:Int)))=some (.ptr b o)∧evLoad tb 5 (.ptr b o) M=some (.val (.int .u8 (l[i].toNat:Int))):=by
 obtain⟨b,o,h1,_,h2,_⟩:=SlAt.at h ty37 rfl ty5 rfl hi (k':= .i64)
 refine⟨b,o,h1,?_⟩
 unfold evLoad
 rw[ty5]
 have:=h2 0 (by omega)
 simp only[TI.isAgg,cond_false]
 rw[Nat.add_zero,Nat.mul_one,Nat.add_zero] at this
 rw[this]
 simp[bvs,hi,bv8]
theorem iInc{i:Nat}(h:i<9223372036854775807):iAdd .i64 (i:Int) 1=((i+1:Nat):Int):=by
 rw[iAdd,wrap_i64' (by omega) (by omega)];rfl
theorem take_succ_eq{l m:List (BitVec 8)}{i:Nat}(hl:i<l.length)(hm:i<m.length)(h:l.take i=m.take i)(he:l[i]=m[i]):l.take (i+1)=m.take (i+1):=by
 rw[List.take_succ_eq_append_getElem hl,List.take_succ_eq_append_getElem hm,h,he]
theorem same_bytes(M:Mem)(x y:AV)(l m:List (BitVec 8))(hx:BytesAt M x l)(hy:BytesAt M y m)(hl:l.length≤9223372036854775806):
 CallA tb.P 31 [x,y] M fun v N=>v= .val (.bool (decide (l=m)))∧N=M:=by
 refine F31_ok ?_
 unfold F31
 refine bZi (lZl hx.len) ?_
 simp only[zZi]
 refine bZi (lZl hy.len) ?_
 simp only[zZi]
 refine cZi (fun hne=>?_) (fun heq=>?_)
 ·have:l≠m:=fun h=>by subst h;simp at hne
  simp[this]
 ·have hlen:l.length=m.length:=by simp at heq;omega
  refine⟨fun z n N=>∃ i:Nat,z=i∧n=l.length-i∧i≤l.length∧N=M∧l.take i=m.take i,⟨l.length,0,rfl,rfl,Nat.zero_le _,rfl,by simp⟩,?_⟩
  rintro _ z n N ⟨i,rfl,rfl,hi,rfl,htk⟩
  refine bZi (lZl hx.len) ?_
  simp only[zZi]
  refine cZi (fun hlt=>?_) (fun hge=>?_)
  ·have hlt:i<l.length:=by simpa using hlt
   have hlt':i<m.length:=by omega
   obtain⟨b,o,hia,hld⟩:=hx.at hlt
   obtain⟨b',o',hia',hld'⟩:=hy.at hlt'
   refine bZi (eIA_some hia) ?_
   refine bZi (eIA_some hia') ?_
   refine bZi (lZs hld) ?_
   simp only[zZi]
   refine bZi (lZs hld') ?_
   simp only[zZi]
   refine cZi (fun hd=>?_) (fun hd=>?_)
   ·have hne:l[i]≠m[i]:=fun h=>by rw[h] at hd;simp at hd
    have:l≠m:=fun h=>by subst h;exact hne rfl
    simp[this]
   ·have he:l[i]=m[i]:=by
     apply BitVec.eq_of_toNat_eq
     have:(l[i].toNat:Int)=m[i].toNat:=by simpa using hd
     omega
    exact⟨l.length-(i+1),by omega,i+1,iInc (by omega),rfl,hlt,by trivial,take_succ_eq hlt hlt' htk he⟩
  ·have hge:i=l.length:=by have:¬ (i:Int)<l.length:=by simpa using hge
                           omega
   subst hge
   have:l=m:=by
    rw[List.take_of_length_le (Nat.le_refl _),List.take_of_length_le (by omega)] at htk
    exact htk
   simp[this]
theorem ty3:tb.ty.get 3=some ⟨.int .i64,1,8,[.int .i64 0],none⟩:=by kernel_rfl
def i64(z:Int):AV:= .val (.int .i64 z)
def Gr(M:Mem)(x:AV)(l:List (BitVec 8)):Prop:=(x= .val (.slice none 0 0)∧l=[])∨∃ b,Grown 1 M x l.length (bvs l) b
theorem Gr.at{M:Mem}{x:AV}{l:List (BitVec 8)}(h:Gr M x l):BytesAt M x l:=by
 rcases h with⟨rfl,rfl⟩|⟨b,h⟩
 ·exact SlAt.nil
 ·exact h.at
theorem Gr.mono{M N:Mem}{x:AV}{l:List (BitVec 8)}(h:Gr M x l)(hk:∀ c r,inBlk x c→M.get c=some r→N.get c=some r):Gr N x l:=by
 rcases h with h|⟨b,h1,h2,h3,h4⟩
 ·exact .inl h
 ·exact .inr ⟨b,h1,h2,h3,hk b _ (by rw[h1];exact⟨by omega,rfl⟩) h4⟩
theorem bytes_one{M:Mem}{b:Nat}{v:BitVec 8}{rw':Bool}(h:M.get b=some (.cells [bv8 v] rw')):BytesAt M (.sl b 0 1 1 none) [v]:=
 ⟨rfl,.inr ⟨b,0,1,none,rfl,⟨Nat.le_refl _,.inl rfl⟩,.inr ⟨_,_,h,Nat.le_refl _,rfl⟩⟩⟩
theorem BytesAt.slice{M:Mem}{x:AV}{l:List (BitVec 8)}(h:BytesAt M x l){lo hi:Option AV}{a r:Nat}
 (hlo:(lo=none∧a=0)∨lo=some (.val (.int .i64 (a:Int)))) (hhi:(hi=none∧r=l.length)∨hi=some (.val (.int .i64 (r:Int)))) (har:a≤r) (hrn:r≤l.length):
 ∃ y,evSliceAt tb 37 x lo hi none=some y∧BytesAt M y ((l.take r).drop a):=by
 obtain⟨y,h1,h2,_⟩:=SlAt.slice h ty37 rfl ty5 rfl (k1:= .i64) (k2:= .i64) hlo hhi har hrn
 refine⟨y,h1,?_⟩
 unfold BytesAt
 have e1:((l.take r).drop a).length=r-a:=by simp;omega
 have e2:bvs ((l.take r).drop a)=((bvs l).drop (a*1)).take ((r-a)*1):=by
  unfold bvs
  rw[Nat.mul_one,Nat.mul_one,List.map_drop,List.map_take,List.drop_take]
 rw[e1,e2];exact h2
theorem bvs_set(l:List (BitVec 8))(i:Nat)(v:BitVec 8):(bvs l).set i (bv8 v)=bvs (l.set i v):=by simp[bvs,List.map_set]
theorem cells_store{M:Mem}{b i:Nat}{l:List (BitVec 8)}(hg:M.get b=some (.cells (bvs l) true))(hi:i<l.length)(v:BitVec 8):
 evStore tb 5 (.ptr b i) (bv8 v) M=some (M.put b (.cells (bvs (l.set i v)) true)):=by
 have hc:(bv8 v).cells=[bv8 v]:=rfl
 have h1:ones [bv8 v]=true:=rfl
 unfold evStore
 rw[ty5]
 simp only[hc,List.length_singleton,AM.beq_self,cond_true]
 unfold Mem.storeAt
 rw[hg]
 simp only[bvs_length,List.length_singleton,ble_of (show i+1≤l.length by omega),cond_true,h1,setAt_cons,setAt_nil,bvs_set]
theorem getD_get{l:List (BitVec 8)}{i:Nat}(h:i<l.length):l.getD i 0#8=l[i]:=by
 rw[List.getD_eq_getElem?_getD,List.getElem?_eq_getElem h];rfl
structure GrowTo (M N:Mem) (x x':AV):Prop where
 wf:N.WF
 nxt:M.next≤N.next
 old:∀ c,c<M.next→¬ inBlk x c→N.get c=M.get c
 blk:∀ c,inBlk x' c→M.next≤c∨inBlk x c
theorem GrowTo.refl{M:Mem}(hw:M.WF)(x:AV):GrowTo M M x x:=⟨hw,Nat.le_refl _,fun _ _ _=>rfl,fun _ h=> .inr h⟩
theorem GrowTo.trans{M N P:Mem}{x x' x'':AV}(h:GrowTo M N x x')(k:GrowTo N P x' x''):GrowTo M P x x'':=
 ⟨k.wf,Nat.le_trans h.nxt k.nxt,fun c hc hx=>by
  have h1:¬ inBlk x' c:=fun h2=>by
   rcases h.blk c h2 with h3|h3
   ·omega
   ·exact hx h3
  rw[k.old c (Nat.lt_of_lt_of_le hc h.nxt) h1,h.old c hc hx],fun c hc=>by
  rcases k.blk c hc with h1|h1
  ·exact .inl (Nat.le_trans h.nxt h1)
  ·exact h.blk c h1⟩
theorem GrowTo.pre{M N P:Mem}{x x':AV}(h:Keep M N [])(k:GrowTo N P x x'):GrowTo M P x x':=
 ⟨k.wf,Nat.le_trans h.nxt k.nxt,fun c hc hx=>by rw[k.old c (Nat.lt_of_lt_of_le hc h.nxt) hx,h.old c hc (by simp)],fun c hc=>(k.blk c hc).imp (Nat.le_trans h.nxt) id⟩
theorem Gr.grow{M:Mem}{x y:AV}{l m:List (BitVec 8)}(hw:M.WF)(h:Gr M x l)(hy:BytesAt M y m)(hm:0<m.length)(hb:l.length+m.length≤1000000):
 ∃ x' N,evAppend tb 37 37 x y M=some (x',N)∧Gr N x' (l++m)∧GrowTo M N x x'∧∀ c,inBlk x' c→c=M.next:=by
 rcases h with⟨rfl,rfl⟩|⟨b,hg⟩
 ·obtain⟨N,h1,rfl⟩:=append_nil (T:=tb) (k:=1) ty37 rfl ty5 rfl hy hm ⟨by simp only;simp only[List.length_nil] at hb;omega,by simp only[List.length_nil] at hb;omega⟩
  refine⟨_,_,h1,?_,⟨hw.new _,Nat.le_succ _,fun c hc _=>?_,fun c hc=> .inl (by rw[← hc.2];exact Nat.le_refl _)⟩,fun c hc=>hc.2.symm⟩
  ·rw[List.nil_append]
   exact .inr ⟨M.next,rfl,hm,by simp,by rw[Mem.get_new,if_pos rfl]⟩
  ·rw[Mem.get_new,if_neg (by omega)]
 ·obtain⟨N,h1,rfl⟩:=append_grown (T:=tb) (k:=1) ty37 rfl ty5 rfl hg hy hm (bvs_one m) ⟨by simp only;omega,by omega⟩
  refine⟨_,_,h1,?_,⟨(hw.kill _).new _,Nat.le_succ _,fun c hc hn=>?_,fun c hc=> .inl (by rw[← hc.2];exact Nat.le_refl _)⟩,fun c hc=>hc.2.symm⟩
  ·refine .inr ⟨M.next,by simp,by simp;omega,by simp,?_⟩
   rw[Mem.get_new,if_pos (by rfl),bvs_append]
  ·have hcb:c≠b:=fun he=>by
    subst he
    exact hn (by rw[hg.1];exact⟨by have:=hg.2.1;omega,rfl⟩)
   rw[Mem.get_new,if_neg (by simp;omega),Mem.get_kill,if_neg hcb]
theorem Gr.lit{M:Mem}{x:AV}{l:List (BitVec 8)}(hw:M.WF)(h:Gr M x l)(m:List (BitVec 8))(hm:0<m.length)(hb:l.length+m.length≤1000000):
 ∃ x' N,evAppend tb 37 37 x (.sl M.next 0 m.length m.length none) (M.new (.cells (bvs m) true))=some (x',N)∧Gr N x' (l++m)∧GrowTo M N x x':=by
 have hs:BytesAt (M.new (.cells (bvs m) true)) (.sl M.next 0 m.length m.length none) m:=
  ⟨by simp,.inr ⟨M.next,0,m.length,none,rfl,⟨Nat.le_refl _,.inl rfl⟩,.inr ⟨_,_,by rw[Mem.get_new,if_pos rfl],by simp,by rw[List.drop_zero,Nat.mul_one,List.take_of_length_le (by simp)]⟩⟩⟩
 have hg:Gr (M.new (.cells (bvs m) true)) x l:=h.mono fun c r _ hc=>by rw[Mem.get_new,if_neg (by have:=hw c r hc;omega)];exact hc
 obtain⟨x',N,h1,h2,h3,_⟩:=Gr.grow (hw.new _) hg hs hm hb
 exact⟨x',N,h1,h2,h3.pre (Keep.new hw _)⟩
theorem eq_nil_sl(M:Mem)(b o n c:Nat)(ex:Option Nat):eBin tb .eql 37 (.tmp 3) (.const (.slice none 0 0)) (.sl b o n c ex) (.val (.slice none 0 0)) M=some (.val (.bool false),M):=by
 refine eBin_some ?_
 show (eqRes .eql (addrEq tb 37 (.sl b o n c ex) (.val (.slice none 0 0))))=_
 unfold addrEq
 rw[ty37]
 rfl
theorem t_clone(M:Mem)(hw:M.WF)(x:AV)(l:List (BitVec 8))(hx:BytesAt M x l)(h0:0<l.length)(hl:l.length≤1000000):
 CallA tb.P 52 [x] M fun y N=>Gr N y l∧Keep M N []∧∀ c,inBlk y c→M.next≤c:=by
 refine F52_ok ?_
 unfold F52
 rcases hx.2 with⟨_,hn⟩|⟨b,o,cp,ex,rfl,_⟩
 ·omega
 ·refine bZi (eq_nil_sl _ _ _ _ _ _) ?_
  simp only[zZb]
  refine cZi (fun h=>by cases h) (fun _=>?_)
  refine lZi fun M3 hM3=>?_
  subst hM3
  have hw3:=hw.new (.cells [] true)
  have hx3:BytesAt (M.new (.cells [] true)) (.sl b o l.length cp ex) l:=SlAt.keep0 hx hw (Keep.new hw _)
  have hap:evAppend tb 37 37 (.sl M.next 0 0 0 none) (.sl b o l.length cp ex) (M.new (.cells [] true))=some (.sl (M.next+1) 0 l.length l.length (some 1),(M.new (.cells [] true)).new (.cells (bvs l) true)):=by
   unfold evAppend isInt
   rw[ty37]
   simp only[ty5,SlAt.evLen hx3,SlAt.evFirst hx3,bvs_length,Nat.mul_one,AM.beq_self,cond_true,Nat.zero_add,ble_not (show ¬ l.length≤0 by omega),cond_false]
   unfold evGrow roomy
   simp only[Nat.zero_add,ble_of (show (3*l.length+4096)*1≤281474976710656 by omega),ble_of (show l.length≤1152921504606846976 by omega),cond_true]
   rfl
  refine bZi hap ?_
  refine⟨.inr ⟨M.next+1,rfl,h0,by simp,by rw[Mem.get_new,if_pos (by rfl)]⟩,(Keep.new hw _).trans0 (Keep.new hw3 _),fun c hc=>?_⟩
  have:=hc.2
  omega
theorem wrap_i64_u8(b:BitVec 8):IntKind.wrap .i64 (b.toNat:Int)=(b.toNat:Int):=by
 have:=b.isLt
 exact wrap_i64' (by omega) (by omega)
theorem ne_u8(b:BitVec 8)(n:Nat)(hn:n<256):((b.toNat:Int) != (n:Int))=decide (b≠BitVec.ofNat 8 n):=by
 rw[Bool.eq_iff_iff]
 simp only[bne_iff_ne,ne_eq,decide_eq_true_eq]
 refine not_congr ⟨fun h=>BitVec.eq_of_toNat_eq ?_,fun h=>by rw[h];simp;omega⟩
 simp;omega
set_option maxRecDepth 100000
def bit(r:BitVec 32):BitVec 32:=if r &&& 1#32=1#32 then (r>>>1) ^^^ 3988292384#32 else r>>>1
def bits:Nat→BitVec 32→BitVec 32
 | 0,r=>r
 | n+1,r=>bits n (bit r)
def reg(r:BitVec 32)(l:List (BitVec 8)):BitVec 32:=l.foldl (fun r x=>bits 8 (r ^^^ x.setWidth 32)) r
def more(s:BitVec 32)(l:List (BitVec 8)):BitVec 32:= ~~~ (reg (~~~ s) l)
theorem reg_take(r:BitVec 32)(l:List (BitVec 8))(i:Nat)(hi:i<l.length):reg r (l.take (i+1))=bits 8 (reg r (l.take i) ^^^ l[i].setWidth 32):=by
 rw[List.take_succ_eq_append_getElem hi]
 unfold reg
 rw[List.foldl_append]
 rfl
theorem bit_t{r:BitVec 32}(h:r &&& 1#32=1#32):bit r=(r>>>1) ^^^ 3988292384#32:=by unfold bit;rw[if_pos h]
theorem bit_f{r:BitVec 32}(h:¬ r &&& 1#32=1#32):bit r=r>>>1:=by unfold bit;rw[if_neg h]
theorem wrap_u8_u32(b:BitVec 8):IntKind.u32.wrap (b.toNat:Int)=((b.setWidth 32).toNat:Int):=by
 rw[wrap_u32,BitVec.toNat_setWidth]
 have:=b.isLt
 omega
theorem iXor_u32(a b:BitVec 32):iXor .u32 (a.toNat:Int) (b.toNat:Int)=((a ^^^ b).toNat:Int):=by
 show IntKind.u32.wrap ((BitVec.ofInt 32 (a.toNat:Int) ^^^ BitVec.ofInt 32 (b.toNat:Int)).toNat:Int)=_
 rw[ofInt_bv,ofInt_bv,wrap_u32_bv]
theorem iXor_poly(a:BitVec 32):iXor .u32 (a.toNat:Int) 3988292384=((a ^^^ 3988292384#32).toNat:Int):=iXor_u32 a 3988292384#32
theorem iAnd1_u32(a:BitVec 32):iAnd .u32 (a.toNat:Int) 1=((a &&& 1#32).toNat:Int):=by
 show IntKind.u32.wrap ((BitVec.ofInt 32 (a.toNat:Int) &&& BitVec.ofInt 32 ((1#32).toNat:Int)).toNat:Int)=_
 rw[ofInt_bv,ofInt_bv,wrap_u32_bv]
theorem iShr1_u32(a:BitVec 32):iShr .u32 (a.toNat:Int) 1=((a>>>1).toNat:Int):=by
 show Int.fdiv (a.toNat:Int) 2=_
 rw[Int.fdiv_eq_ediv_of_nonneg _ (by omega),BitVec.toNat_ushiftRight,Nat.shiftRight_eq_div_pow]
 omega
theorem eq1_u32(a:BitVec 32):((a.toNat:Int)==1)=decide (a=1#32):=by
 rw[Bool.eq_iff_iff]
 simp only[beq_iff_eq,decide_eq_true_eq]
 constructor
 ·intro h;exact BitVec.eq_of_toNat_eq (by simp;omega)
 ·intro h;rw[h];rfl
theorem crc_more(M:Mem)(s:BitVec 32)(x:AV)(l:List (BitVec 8))(hx:BytesAt M x l)(hl:l.length≤9223372036854775806):
 CallA tb.P 158 [.val (.int .u32 s.toNat),x] M fun y N=>y= .val (.int .u32 (more s l).toNat)∧N=M:=by
 refine F158_ok ?_
 unfold F158
 simp only[zZi]
 refine bZi (eUn_some (not_u32 _ s)) ?_
 simp only[ofV,zZi]
 refine bZi (lZl hx.len) ?_
 simp only[zZi]
 refine⟨fun z k n N=>∃ i:Nat,z=((reg (~~~ s) (l.take i)).toNat:Int)∧k=i∧n=l.length-i∧i≤l.length∧N=M,⟨l.length,0,rfl,rfl,rfl,Nat.zero_le _,rfl⟩,?_⟩
 rintro _ z k n N ⟨i,rfl,rfl,rfl,hi,rfl⟩
 refine cZi (fun hlt=>?_) (fun hge=>?_)
 ·have hlt:i<l.length:=by simpa using hlt
  obtain⟨b,o,hia,hld⟩:=hx.at hlt
  refine bZi (eIA_some hia) ?_
  refine bZi (lZs hld) ?_
  simp only[zZi,wrap_u8_u32,iXor_u32]
  refine⟨fun z k n N'=>∃ (r:BitVec 32) (q:Nat),z=(r.toNat:Int)∧k=((8-q:Nat):Int)∧q≤8∧n=q∧N'=N∧bits q r=reg (~~~ s) (l.take (i+1)),⟨8,_,8,rfl,rfl,Nat.le_refl _,rfl,rfl,(reg_take _ l i hlt).symm⟩,?_⟩
  rintro _ z k n N' ⟨r,q,rfl,rfl,hq,rfl,rfl,hr⟩
  refine cZi (fun hlt'=>?_) (fun hge'=>?_)
  ·have hn0:0<n:=by have:((8-n:Nat):Int)<8:=by simpa using hlt'
                    omega
   have hbits:bits (n-1) (bit r)=reg (~~~ s) (l.take (i+1)):=by
    rw[← hr,show n=(n-1)+1 by omega];rfl
   simp only[letP_eq,iShr1_u32,iXor_poly,iAnd1_u32,eq1_u32,iInc (show 8-n<9223372036854775807 by omega)]
   refine cZi (fun hb=>?_) (fun hb=>?_)
   ·exact⟨n-1,by omega,_,n-1,rfl,by rw[show 8-(n-1)=8-n+1 by omega],by omega,rfl,by trivial,by rw[← bit_t (by simpa using hb)];exact hbits⟩
   ·exact⟨n-1,by omega,_,n-1,rfl,by rw[show 8-(n-1)=8-n+1 by omega],by omega,rfl,by trivial,by rw[← bit_f (by simpa using hb)];exact hbits⟩
  ·have hn0:n=0:=by have:¬ ((8-n:Nat):Int)<8:=by simpa using hge'
                    omega
   subst hn0
   refine⟨l.length-(i+1),by omega,i+1,?_,iInc (by omega),rfl,hlt,rfl⟩
   rw[← hr];rfl
 ·have hge:i=l.length:=by have:¬ (i:Int)<l.length:=by simpa using hge
                          omega
  subst hge
  refine bZi (eUn_some (not_u32 _ _)) ?_
  simp only[ofV,zZi,List.take_length,more,and_self]
theorem crc_of(M:Mem)(x:AV)(l:List (BitVec 8))(hx:BytesAt M x l)(hl:l.length≤9223372036854775806):
 CallA tb.P 135 [x] M fun y N=>y= .val (.int .u32 (more 0#32 l).toNat)∧N=M:=by
 refine F135_ok ((crc_more M 0#32 x l hx hl).mono ?_)
 rintro y N ⟨rfl,rfl⟩
 simp only[zZi,and_self]
theorem ty90:tb.ty.get 90=some ⟨.st [(0,1,false),(1,1,false),(2,1,false),(3,1,false)],4,32,[.int .i64 0,.int .i64 0,.int .i64 0,.int .i64 0],some [3,3,3,3]⟩:=by kernel_rfl
theorem t_in(M:Mem)(a b c:Int):CallA tb.P 131 [i64 a,i64 b,i64 c] M fun y N=>y= .val (.bool (decide (b≤a)&&decide (a≤c)))∧N=M:=by
 refine F131_ok ?_
 unfold F131
 simp only[i64,zZi,letP_eq]
 refine cZi (fun h=>?_) (fun h=>?_)
 ·have h:b≤a:=by simpa using h
  simp[h]
 ·have h:¬ b≤a:=by simpa using h
  simp[h]
def mayT(k p s e:Int):Bool:=decide (1≤k∧k≤3∧0≤p∧p≤65535∧(k=3→p=0)∧0≤s∧s≤4294967295∧0≤e∧e≤16777215)
def tagA(k p s e:Int):AV:= .agg [i64 k,i64 p,i64 s,i64 e]
theorem tag_ld{M:Mem}{b:Nat}{k p s e:Int}(hg:M.get b=some (.cells [i64 k,i64 p,i64 s,i64 e] true)):
 evLoad tb 3 (.ptr b 0) M=some (i64 k)∧evLoad tb 3 (.ptr b 1) M=some (i64 p)∧evLoad tb 3 (.ptr b 2) M=some (i64 s)∧evLoad tb 3 (.ptr b 3) M=some (i64 e)∧evLoad tb 90 (.ptr b 0) M=some (tagA k p s e):=
 ⟨lZc ty3 rfl hg rfl,lZc ty3 rfl hg rfl,lZc ty3 rfl hg rfl,lZc ty3 rfl hg rfl,ld_agg (n:=4) ty90 rfl rfl hg (by simp)⟩
theorem t_may(M:Mem)(hw:M.WF)(k p s e:Int):CallA tb.P 136 [tagA k p s e] M fun y N=>y= .val (.bool (mayT k p s e))∧Keep M N []:=by
 refine F136_ok ?_
 unfold F136
 refine⟨k,p,s,e,rfl,?_⟩
 simp only[letP_eq]
 have hg:(M.new (.cells [i64 k,i64 p,i64 s,i64 e] true)).get M.next=some (.cells [i64 k,i64 p,i64 s,i64 e] true):=by rw[Mem.get_new,if_pos rfl]
 obtain⟨l0,l1,l2,l3,_⟩:=tag_ld hg
 have hK:=Keep.new hw (.cells [i64 k,i64 p,i64 s,i64 e] true)
 refine bZi (lZs l0) ?_
 simp only[i64,zZi]
 refine (t_in _ k 1 3).mono ?_
 rintro y N ⟨rfl,rfl⟩
 simp only[zZb]
 refine cZi (fun h1=>?_) (fun h1=>⟨?_,hK⟩)
 rotate_left
 ·have:mayT k p s e=false:=by
   unfold mayT
   simp only[Bool.and_eq_false_iff,decide_eq_false_iff_not] at h1 ⊢
   omega
  rw[this]
 simp only[Bool.and_eq_true,decide_eq_true_eq] at h1
 refine bZi (lZs l1) ?_
 simp only[i64,zZi]
 refine (t_in _ p 0 65535).mono ?_
 rintro y N ⟨rfl,rfl⟩
 simp only[zZb]
 refine cZi (fun h2=>?_) (fun h2=>⟨?_,hK⟩)
 rotate_left
 ·have:mayT k p s e=false:=by
   unfold mayT
   simp only[Bool.and_eq_false_iff,decide_eq_false_iff_not] at h2 ⊢
   omega
  rw[this]
 simp only[Bool.and_eq_true,decide_eq_true_eq] at h2
 have tail:(k=3→p=0)→bindO (eLd tb 3 (.ptr M.next 2) (M.new (.cells [i64 k,i64 p,i64 s,i64 e] true))) (fun y18=>zI .i64 y18.1 fun z19=>CallA tb.P 131 [(.val (.int .i64 z19)),(.val (.int .i64 0)),(.val (.int .i64 4294967295))] (M.new (.cells [i64 k,i64 p,i64 s,i64 e] true)) fun y20 M21=>zB y20 fun b22=>
  condB (b22) (bindO (eLd tb 3 (.ptr M.next 3) M21) fun y23=>zI .i64 y23.1 fun z24=>CallA tb.P 131 [(.val (.int .i64 z24)),(.val (.int .i64 0)),(.val (.int .i64 16777215))] M21 fun y25 M26=>zB y25 fun b27=>AV.val (.bool b27)= .val (.bool (mayT k p s e))∧Keep M M26 []) (AV.val (.bool false)= .val (.bool (mayT k p s e))∧Keep M M21 [])):=by
  intro h3
  refine bZi (lZs l2) ?_
  simp only[i64,zZi]
  refine (t_in _ s 0 4294967295).mono ?_
  rintro y N ⟨rfl,rfl⟩
  simp only[zZb]
  refine cZi (fun h4=>?_) (fun h4=>⟨?_,hK⟩)
  ·simp only[Bool.and_eq_true,decide_eq_true_eq] at h4
   refine bZi (lZs l3) ?_
   simp only[i64,zZi]
   refine (t_in _ e 0 16777215).mono ?_
   rintro y N ⟨rfl,rfl⟩
   simp only[zZb]
   refine⟨?_,hK⟩
   congr 2
   unfold mayT
   rw[Bool.eq_iff_iff]
   simp only[Bool.and_eq_true,decide_eq_true_eq]
   constructor
   ·intro h;exact⟨h1.1,h1.2,h2.1,h2.2,h3,h4.1,h4.2,h.1,h.2⟩
   ·intro h;exact⟨h.2.2.2.2.2.2.2.1,h.2.2.2.2.2.2.2.2⟩
  ·have:mayT k p s e=false:=by
    unfold mayT
    simp only[Bool.and_eq_false_iff,decide_eq_false_iff_not] at h4 ⊢
    omega
   rw[this]
 refine bZi (lZs l0) ?_
 simp only[i64,zZi]
 refine cZi (fun h3=>?_) (fun h3=>?_)
 ·exact tail (fun h=>by subst h;simp at h3)
 ·refine bZi (lZs l1) ?_
  simp only[i64,zZi]
  refine cZi (fun h5=>?_) (fun h5=>⟨?_,hK⟩)
  ·exact tail (fun _=>by simpa using h5)
  ·have hk3:k=3:=by simpa using h3
   have hp0:p≠0:=by simpa using h5
   have:mayT k p s e=false:=by
    unfold mayT
    simp only[decide_eq_false_iff_not]
    rintro⟨_,_,_,_,h,_⟩
    exact hp0 (h hk3)
   rw[this]
def byteOf(n:Int)(i:Nat):BitVec 8:=BitVec.ofInt 8 (n.fdiv (2^(8*i)))
def be(n:Int):Nat→List (BitVec 8)
 | 0=>[]
 | s+1=>byteOf n s::be n s
@[simp] theorem be_length (n:Int):∀ s,(be n s).length=s
  | 0=>rfl
  | s+1=>by simp[be,be_length n s]
theorem wrap_ofInt(z:Int):IntKind.wrap .u8 z=((BitVec.ofInt 8 z).toNat:Int):=by
 rw[wrap_u8,BitVec.toNat_ofInt]
 have:(0:Int)≤z%256:=by omega
 show z%256=((z%((2^8:Nat):Int)).toNat:Int)
 have e:((2^8:Nat):Int)=256:=rfl
 rw[e];omega
theorem shr_eq(xo yo:Operand)(n:Int)(i:Nat)(hi:i≤7)(M:Mem):eBin tb .shr 3 xo yo (.val (.int .i64 n)) (.val (.int .i64 (iMul .i64 8 (i:Int)))) M=some (.val (.int .i64 (n.fdiv (2^(8*i)))),M):=by
 refine eBin_some ?_
 have e:iMul .i64 8 (i:Int)=((8*i:Nat):Int):=by
  rw[iMul,wrap_i64' (by omega) (by omega)];omega
 rw[e]
 show (shiftBin .shr .i64 n ((8*i:Nat):Int)).map AV.val=_
 unfold shiftBin
 have h0:decide (((8*i:Nat):Int)<0)=false:=by rw[decide_eq_false_iff_not];omega
 have hb:IntKind.i64.bits=64:=rfl
 rw[h0,cond_false,hb,Int.toNat_natCast,Nat.min_eq_left (by omega)]
 rfl
theorem put_go(M:Mem)(hw:M.WF)(x:AV)(l:List (BitVec 8))(n:Int)(size:Nat)(hx:Gr M x l)(hs:size≤8)(hl:l.length≤900000):
 ∃ J3:AV→Int→Nat→Mem→Prop,(∃ n4:Nat,J3 x (iSub .i64 (size:Int) 1) n4 M)∧
   ∀ (_:Nat→Option AV) (x5:AV) (z6:Int) (n7:Nat) (M8:Mem),J3 x5 z6 n7 M8→
   (condB (decide (z6≥(0:Int))) (bindO (eBin tb .shr 3 (.tmp 15) (.tmp 17) (.val (.int .i64 n)) (.val (.int .i64 (iMul .i64 8 z6))) M8) fun y9=>zI .i64 y9.1 fun z10=>letP (M8.new (.cells [(.val (.int .u8 (IntKind.wrap .u8 z10)))] true)) fun M11=>bindO (evAppend tb 37 37 x5 (.sl M8.next 0 1 1 none) M11) fun y12=>∃ k13:Nat,k13<n7∧
    (J3 y12.1 (iSub .i64 z6 1) k13 y12.2)) (Gr M8 x5 (l++be n size)∧GrowTo M M8 x x5)):=by
 have eS:∀ j:Nat,j≤8→iSub .i64 (j:Int) 1=(j:Int)-1:=fun j hj=>by rw[iSub,wrap_i64' (by omega) (by omega)]
 refine⟨fun u z q P=>∃ (j:Nat) (pre:List (BitVec 8)),z=(j:Int)-1∧q=j∧j≤size∧pre++be n j=be n size∧Gr P u (l++pre)∧GrowTo M P x u,⟨size,size,[],eS size hs,rfl,Nat.le_refl _,rfl,by simpa using hx,GrowTo.refl hw x⟩,?_⟩
 rintro _ u z q P ⟨j,pre,rfl,rfl,hj,hpre,hu,hgr⟩
 refine cZi (fun hge=>?_) (fun hlt=>?_)
 ·have hj0:0<q:=by have:(q:Int)-1≥0:=by simpa using hge
                   omega
  obtain⟨i,rfl⟩:∃ i,q=i+1:=⟨q-1,by omega⟩
  have ei:((i+1:Nat):Int)-1=(i:Int):=by omega
  rw[ei]
  refine bZi (shr_eq _ _ n i (by omega) P) ?_
  simp only[zZi,wrap_ofInt]
  have hlen:pre.length+(i+1)=size:=by
   have:=congrArg List.length hpre
   simpa using this
  obtain⟨u',P',h1,h2,h3⟩:=Gr.lit hgr.wf hu [byteOf n i] (by simp) (by simp;omega)
  refine lZi fun P1 hP1=>?_
  subst hP1
  refine bZi (show evAppend tb 37 37 u (.sl P.next 0 1 1 none) (P.new (.cells [.val (.int .u8 ((BitVec.ofInt 8 (n.fdiv (2^(8*i)))).toNat:Int))] true))=some (u',P') from h1) ?_
  refine⟨i,by omega,i,pre++[byteOf n i],eS i (by omega),rfl,by omega,?_,?_,hgr.trans h3⟩
  ·rw[List.append_assoc];exact hpre
  ·rw[← List.append_assoc];exact h2
 ·have hj0:q=0:=by have:¬ (q:Int)-1≥0:=by simpa using hlt
                   omega
  subst hj0
  have:pre=be n size:=by simpa[be] using hpre
  rw[← this]
  exact⟨hu,hgr⟩
def val(l:List (BitVec 8)):Nat:=l.foldl (fun n b=>n*256+b.toNat) 0
theorem val_take{l:List (BitVec 8)}{i:Nat}(h:i<l.length):val (l.take (i+1))=val (l.take i)*256+l[i].toNat:=by
 rw[List.take_succ_eq_append_getElem h]
 unfold val
 rw[List.foldl_append]
 rfl
theorem val_lt:∀ (l:List (BitVec 8)) (i:Nat),i≤l.length→val (l.take i)<256^i
 | l,0,_=>by simp[val]
 | l,i+1,h=>by
   rw[val_take (by omega)]
   have h1:=val_lt l i (by omega)
   have h2:=(l[i]'(by omega)).isLt
   have e:256^(i+1)=256^i*256:=Nat.pow_succ 256 i
   rw[e]
   have h3:(val (l.take i)+1)*256≤256^i*256:=Nat.mul_le_mul_right 256 h1
   omega
theorem or_shl(a:Nat)(b:BitVec 8)(ha:a<2^32):iOr .i64 (iShl .i64 (a:Int) 8) (IntKind.wrap .i64 (b.toNat:Int))=((a*256+b.toNat:Nat):Int):=by
 have hb:=b.isLt
 have hp:(2:Nat)^32=4294967296:=by decide
 rw[hp] at ha
 have e1:iShl .i64 (a:Int) 8=((a*256:Nat):Int):=by
  show IntKind.i64.wrap ((a:Int)*2^(min (8:Int).toNat IntKind.i64.bits))=_
  have:(2:Int)^(min (8:Int).toNat IntKind.i64.bits)=256:=by decide
  rw[this,wrap_i64' (by omega) (by omega)];omega
 have e2:IntKind.wrap .i64 (b.toNat:Int)=(b.toNat:Int):=wrap_i64' (by omega) (by omega)
 rw[e1,e2]
 show IntKind.i64.wrap ((BitVec.ofInt 64 ((a*256:Nat):Int) ||| BitVec.ofInt 64 (b.toNat:Int)).toNat:Int)=_
 have e3:(BitVec.ofInt 64 ((a*256:Nat):Int) ||| BitVec.ofInt 64 (b.toNat:Int)).toNat=a*256+b.toNat:=by
  rw[BitVec.toNat_or,BitVec.ofInt_natCast,BitVec.ofInt_natCast,BitVec.toNat_ofNat,BitVec.toNat_ofNat,Nat.mod_eq_of_lt (by omega),Nat.mod_eq_of_lt (by omega)]
  have:a*256=a<<<8:=by rw[Nat.shiftLeft_eq]
  rw[this]
  exact (Nat.shiftLeft_add_eq_or_of_lt (by omega) a).symm
 rw[e3,wrap_i64' (by omega) (by omega)]
theorem val_small{l:List (BitVec 8)}(hl:l.length≤4){i:Nat}(hi:i≤l.length):val (l.take i)<4294967296:=by
 have h1:=val_lt l i hi
 have h2:256^i≤256^4:=Nat.pow_le_pow_right (by omega) (by omega)
 have h3:(256:Nat)^4=4294967296:=by decide
 omega
theorem t_number(M:Mem)(x:AV)(l:List (BitVec 8))(hx:BytesAt M x l)(hl:l.length≤4):
 CallA tb.P 134 [x] M fun y N=>y=i64 (val l)∧N=M:=by
 refine F134_ok ?_
 unfold F134
 refine bZi (lZl hx.len) ?_
 simp only[zZi]
 refine⟨fun z k q P=>∃ i:Nat,k=i∧q=l.length-i∧i≤l.length∧z=(val (l.take i):Int)∧P=M,⟨l.length,0,rfl,rfl,Nat.zero_le _,rfl,rfl⟩,?_⟩
 rintro _ z k q P ⟨i,rfl,rfl,hi,rfl,rfl⟩
 refine cZi (fun hlt=>?_) (fun hge=>?_)
 ·have hlt:i<l.length:=by simpa using hlt
  obtain⟨b,o,hia,hld⟩:=hx.at hlt
  refine bZi (eIA_some hia) ?_
  refine bZi (lZs hld) ?_
  simp only[zZi]
  have hsm:=val_small hl hi
  rw[or_shl _ _ (by omega),← val_take hlt]
  exact⟨l.length-(i+1),by omega,i+1,iInc (by omega),rfl,hlt,rfl,by trivial⟩
 ·have hge:i=l.length:=by have:¬ (i:Int)<l.length:=by simpa using hge
                          omega
  subst hge
  rw[List.take_length]
  exact⟨rfl,by trivial⟩
def body(d:List (BitVec 8))(k p s e:Int):List (BitVec 8):=d++[74#8,BitVec.ofInt 8 k]++be p 2++be s 4++be e 3
def laid(d:List (BitVec 8))(k p s e:Int):List (BitVec 8):=body d k p s e++be ((more 0#32 (body d k p s e)).toNat:Int) 4++[0#8]
def okL(d:List (BitVec 8))(k p s e:Int):Bool:=decide (24≤d.length∧d.length≤64)&&mayT k p s e
@[simp] theorem body_length (d:List (BitVec 8)) (k p s e:Int):(body d k p s e).length=d.length+11:=by simp[body]
@[simp] theorem laid_length (d:List (BitVec 8)) (k p s e:Int):(laid d k p s e).length=d.length+16:=by simp[laid]
def LayPost(M:Mem)(d:List (BitVec 8))(k p s e:Int)(y:AV)(N:Mem):Prop:=
 Keep M N []∧((okL d k p s e=true∧∃ x,y= .tup [x,i64 0]∧Gr N x (laid d k p s e)∧∀ c,inBlk x c→M.next≤c)∨(okL d k p s e=false∧y= .tup [.val (.slice none 0 0),i64 2]))
structure Lying (M P:Mem) (row:Row) (u:AV) (l:List (BitVec 8)):Prop where
 gr:Gr P u l
 wf:P.WF
 box:P.get M.next=some row
 fresh:∀ c,inBlk u c→M.next<c
 keep:Keep M P []
theorem Lying.step{M P P':Mem}{row:Row}{u u':AV}{l l':List (BitVec 8)}(h:Lying M P row u l)(hg:GrowTo P P' u u')(hl:Gr P' u' l'):Lying M P' row u' l':=
 ⟨hl,hg.wf,by
  rw[hg.old M.next (h.wf _ _ h.box) (fun hc=>by have:=h.fresh _ hc;omega)]
  exact h.box,fun c hc=>by
  rcases hg.blk c hc with h1|h1
  ·exact Nat.lt_of_lt_of_le (h.wf _ _ h.box) h1
  ·exact h.fresh c h1,⟨hg.wf,Nat.le_trans h.keep.nxt hg.nxt,fun c hc _=>by
  rw[hg.old c (Nat.lt_of_lt_of_le hc h.keep.nxt) (fun hi=>by have:=h.fresh c hi;omega)]
  exact h.keep.old c hc (by simp)⟩⟩
theorem two_at{M:Mem}{b:Nat}{v w:BitVec 8}(h:M.get b=some (.cells [bv8 v,bv8 w] true)):BytesAt M (.sl b 0 2 2 none) [v,w]:=
 ⟨rfl,.inr ⟨b,0,2,none,rfl,⟨Nat.le_refl _,.inl rfl⟩,.inr ⟨_,_,h,Nat.le_refl _,rfl⟩⟩⟩
theorem wrap_i64_u32(s:BitVec 32):IntKind.wrap .i64 (s.toNat:Int)=(s.toNat:Int):=by
 have:=s.isLt
 exact wrap_i64' (by omega) (by omega)
theorem lay_tail{P:Program}{f4 fs:FuncId}(M:Mem)(k p s e:Int)(d:List (BitVec 8))(hd:d.length≤64)(u:AV)(P0:Mem)(h:Lying M P0 (.cells [i64 k,i64 p,i64 s,i64 e] true) u (d++[74#8,BitVec.ofInt 8 k]))
 (hok:okL d k p s e=true)
 (hput:∀ (M:Mem) (_:M.WF) (x:AV) (l:List (BitVec 8)) (n:Int) (size:Nat) (_:Gr M x l) (_:size≤8) (_:l.length≤900000),CallA P f4 [x,i64 n,i64 size] M fun y N=>Gr N y (l++be n size)∧GrowTo M N x y)
 (hof:∀ (M:Mem) (x:AV) (l:List (BitVec 8)) (_:BytesAt M x l) (_:l.length≤9223372036854775806),CallA P fs [x] M fun y N=>y= .val (.int .u32 (more 0#32 l).toNat)∧N=M):
 bindO (eLd tb 3 (.ptr M.next 1) P0) fun y30=>zI .i64 y30.1 fun z31=>bindO (eLd tb 3 (.ptr M.next 2) P0) fun y32=>zI .i64 y32.1 fun z33=>bindO (eLd tb 3 (.ptr M.next 3) P0) fun y34=>zI .i64 y34.1 fun z35=>CallA P f4 [u,(.val (.int .i64 z31)),(.val (.int .i64 2))] P0 fun y36 M37=>(bindO (eLd tb 3 (.ptr M.next 2) M37) fun y38=>(some (.val (.int .i64 z33)):Option AV)=
  some y38.1)∧(bindO (eLd tb 3 (.ptr M.next 3) M37) fun y39=>(some (.val (.int .i64 z35)):Option AV)=some y39.1)∧
  (CallA P f4 [y36,(.val (.int .i64 z33)),(.val (.int .i64 4))] M37 fun y40 M41=>(bindO (eLd tb 3 (.ptr M.next 3) M41) fun y42=>(some (.val (.int .i64 z35)):Option AV)=some y42.1)∧
  (CallA P f4 [y40,(.val (.int .i64 z35)),(.val (.int .i64 3))] M41 fun y43 M44=>CallA P fs [y43] M44 fun y45 M46=>zI .u32 y45 fun z47=>CallA P f4 [y43,(.val (.int .i64 (IntKind.wrap .i64 z47))),(.val (.int .i64 4))] M46 fun y48 M49=>letP (M49.new (.cells [(.val (.int .u8 0))] true)) fun M50=>bindO (evAppend tb 37 37 y48 (.sl M49.next 0 1 1 none) M50) fun y51=>LayPost M d k p s e (.tup [y51.1,(.val (.int .i64 0))]) y51.2)):=by
 obtain⟨_,l1,l2,l3,_⟩:=tag_ld h.box
 refine bZi (lZs l1) ?_
 simp only[i64,zZi]
 refine bZi (lZs l2) ?_
 simp only[i64,zZi]
 refine bZi (lZs l3) ?_
 simp only[i64,zZi]
 refine (hput P0 h.wf u _ p 2 h.gr (by omega) (by simp;omega)).mono ?_
 rintro u1 P1 ⟨g1,h1⟩
 have L1:=h.step h1 g1
 obtain⟨_,_,m2,m3,_⟩:=tag_ld L1.box
 refine⟨bZi (lZs m2) rfl,bZi (lZs m3) rfl,?_⟩
 refine (hput P1 L1.wf u1 _ s 4 L1.gr (by omega) (by simp;omega)).mono ?_
 rintro u2 P2 ⟨g2,h2⟩
 have L2:=L1.step h2 g2
 obtain⟨_,_,_,n3,_⟩:=tag_ld L2.box
 refine⟨bZi (lZs n3) rfl,?_⟩
 refine (hput P2 L2.wf u2 _ e 3 L2.gr (by omega) (by simp;omega)).mono ?_
 rintro u3 P3 ⟨g3,h3⟩
 have L3:=L2.step h3 g3
 refine (hof P3 u3 (body d k p s e) L3.gr.at (by simp;omega)).mono ?_
 rintro y P3' ⟨rfl,rfl⟩
 simp only[zZi,wrap_i64_u32]
 refine (hput P3' L3.wf u3 (body d k p s e) ((more 0#32 (body d k p s e)).toNat:Int) 4 L3.gr (by omega) (by simp;omega)).mono ?_
 rintro u4 P4 ⟨g4,h4⟩
 have L4:=L3.step h4 g4
 refine lZi fun P5 hP5=>?_
 subst hP5
 obtain⟨u5,P5,q1,q2,q3⟩:=Gr.lit L4.wf L4.gr [0#8] (by simp) (by simp;omega)
 refine bZi (show evAppend tb 37 37 u4 (.sl P4.next 0 1 1 none) (P4.new (.cells [.val (.int .u8 0)] true))=some (u5,P5) from q1) ?_
 have L5:=L4.step q3 q2
 exact⟨L5.keep,.inl ⟨hok,u5,rfl,L5.gr,fun c hc=>by have:=L5.fresh c hc;omega⟩⟩
theorem BytesAt.ld{M:Mem}{x:AV}{l:List (BitVec 8)}(h:BytesAt M x l)(i:Nat)(hi:i<l.length):
 ∃ b o,evIndexAddr tb 37 x (.val (.int .i64 (i:Int)))=some (.ptr b o)∧inBlk x b∧evLoad tb 5 (.ptr b o) M=some (.val (.int .u8 (l[i].toNat:Int)))∧
   ∀ N:Mem,N.get b=M.get b→evLoad tb 5 (.ptr b o) N=some (.val (.int .u8 (l[i].toNat:Int))):=by
 obtain⟨b,o,h1,h0,h2,_⟩:=SlAt.at h ty37 rfl ty5 rfl hi (k':= .i64)
 have hld:∀ N:Mem,N.get b=M.get b→evLoad tb 5 (.ptr b o) N=some (.val (.int .u8 (l[i].toNat:Int))):=fun N hN=>by
  unfold evLoad
  rw[ty5]
  have:=h2 0 (by omega)
  simp only[TI.isAgg,cond_false]
  rw[Nat.add_zero,Nat.mul_one,Nat.add_zero] at this
  unfold Mem.cellAt at this ⊢
  rw[hN,this]
  simp[bvs,hi,bv8]
 exact⟨b,o,h1,h0,hld M rfl,hld⟩
theorem t_lit(M:Mem)(b:BitVec 8):CallA tb.P 133 [.val (.int .u8 (b.toNat:Int))] M fun y N=>y= .val (.bool (decide (b≠255#8)))∧N=M:=by
 refine F133_ok ?_
 unfold F133
 simp only[zZi]
 refine⟨?_,by trivial⟩
 congr 2
 rw[Bool.eq_iff_iff]
 simp only[bne_iff_ne,ne_eq,decide_eq_true_eq]
 refine not_congr ⟨fun h=>BitVec.eq_of_toNat_eq ?_,fun h=>by rw[h];rfl⟩
 have:(255#8).toNat=255:=rfl
 omega
theorem t_index(M:Mem)(x:AV)(l:List (BitVec 8))(hx:BytesAt M x l)(hl:l.length≤1000000):
 CallA tb.P 157 [x,.fn 133 [] []] M fun y N=>N=M∧((∃ i:Nat,y=i64 i∧∃ h:i<l.length,l[i]≠255#8)∨(y=i64 (-1)∧∀ b∈l,b=255#8)):=by
 refine F157_ok ?_
 unfold F157
 refine bZi (lZl hx.len) ?_
 simp only[zZi]
 refine⟨fun z q P=>∃ i:Nat,z=i∧q=l.length-i∧i≤l.length∧P=M∧∀ b∈l.take i,b=255#8,⟨l.length,0,rfl,rfl,Nat.zero_le _,rfl,by simp⟩,?_⟩
 rintro _ z q P ⟨i,rfl,rfl,hi,rfl,hall⟩
 refine cZi (fun hlt=>?_) (fun hge=>?_)
 ·have hlt:i<l.length:=by simpa using hlt
  obtain⟨b,o,hia,hld⟩:=hx.at hlt
  refine bZi (eIA_some hia) ?_
  refine bZi (lZs hld) ?_
  simp only[zZi]
  refine eCall_i fn133 ?_
  refine (t_lit P l[i]).mono ?_
  rintro y N ⟨rfl,rfl⟩
  simp only[zZb]
  refine cZi (fun h=>⟨by trivial,.inl ⟨i,rfl,hlt,by simpa using h⟩⟩) (fun h=>?_)
  have h:l[i]=255#8:=by simpa using h
  refine⟨l.length-(i+1),by omega,i+1,iInc (by omega),rfl,hlt,by trivial,fun b hb=>?_⟩
  rw[List.take_succ_eq_append_getElem hlt,List.mem_append] at hb
  rcases hb with hb|hb
  ·exact hall b hb
  ·simp only[List.mem_singleton] at hb
   rw[hb,h]
 ·have hge:i=l.length:=by have:¬ (i:Int)<l.length:=by simpa using hge
                          omega
  subst hge
  rw[List.take_length] at hall
  exact⟨rfl,.inr ⟨rfl,hall⟩⟩
def allFF(l:List (BitVec 8)):Bool:=l.all fun b=>decide (b=255#8)
theorem t_contains(M:Mem)(x:AV)(l:List (BitVec 8))(hx:BytesAt M x l)(hl:l.length≤1000000):
 CallA tb.P 132 [x,.fn 133 [] []] M fun y N=>y= .val (.bool (!allFF l))∧N=M:=by
 refine F132_ok ?_
 unfold F132
 refine (t_index M x l hx hl).mono ?_
 rintro y N ⟨rfl,h⟩
 rcases h with⟨i,rfl,hi,hne⟩|⟨rfl,hall⟩
 ·simp only[i64,zZi]
  have:allFF l=false:=by
   unfold allFF
   rw[List.all_eq_false]
   exact⟨l[i],List.getElem_mem _,by simpa using hne⟩
  simp[this]
 ·simp only[i64,zZi]
  have:allFF l=true:=by
   unfold allFF
   rw[List.all_eq_true]
   exact fun b hb=>by simpa using hall b hb
  simp[this]
def fK(r:List (BitVec 8)):Int:=((r.getD 1 0#8).toNat:Int)
def fP(r:List (BitVec 8)):Int:=(val ((r.take 4).drop 2):Int)
def fS(r:List (BitVec 8)):Int:=(val ((r.take 8).drop 4):Int)
def fE(r:List (BitVec 8)):Int:=(val ((r.take 11).drop 8):Int)
def lenOk(l:List (BitVec 8)):Bool:=decide (40≤l.length∧l.length≤80)
def valid(l:List (BitVec 8)):Bool:=
 let r:=l.drop (l.length-16)
 decide (r.getD 0 0#8=74#8∧r.getD 15 0#8=0#8∧val ((r.take 15).drop 11)=(more 0#32 (l.take (l.length-16+11))).toNat)&&mayT (fK r) (fP r) (fS r) (fE r)
def state(l:List (BitVec 8)):Nat:=if lenOk l=true then (if allFF l=true then 0 else if valid l=true then 1 else 2) else 2
def ReadPost(M:Mem)(l:List (BitVec 8))(y:AV)(N:Mem):Prop:=
 Keep M N []∧((state l=1∧∃ x,y= .tup [x,tagA (fK (l.drop (l.length-16))) (fP (l.drop (l.length-16))) (fS (l.drop (l.length-16))) (fE (l.drop (l.length-16))),i64 1]∧Gr N x (l.take (l.length-16))∧∀ c,inBlk x c→M.next≤c)∨
  (state l≠1∧y= .tup [.val (.slice none 0 0),tagA 0 0 0 0,i64 (state l)]))
theorem res3{N:Mem}{b:Nat}{k p s e:Int}{x y:AV}(hg:N.get b=some (.cells [i64 k,i64 p,i64 s,i64 e] true)):eRes tb [.v x,.c 90 (.ptr b 0),.v y] N=some (.tup [x,tagA k p s e,y]):=by
 obtain⟨_,_,_,_,la⟩:=tag_ld hg
 unfold eRes resC resC resC resC
 simp only[la,Option.map_some]
theorem st_tag{N:Mem}{b:Nat}{cs:List AV}(k p s e:Int)(hg:N.get b=some (.cells cs true))(hl:cs.length=4):
 evStore tb 90 (.ptr b 0) (tagA k p s e) N=some (N.put b (.cells [i64 k,i64 p,i64 s,i64 e] true)):=
 st_all ty90 rfl hg hl (by intro v hv;simp only[List.mem_cons,List.not_mem_nil,or_false] at hv;rcases hv with rfl|rfl|rfl|rfl <;> rfl)
theorem read_none{M N:Mem}{l:List (BitVec 8)}{k p s e:Int}(st:Nat)(hs:state l=st)(h1:st≠1)(hg:N.get M.next=some (.cells [i64 k,i64 p,i64 s,i64 e] true))(hw:N.WF)(hk:Keep M N []):
 bindO (eSt tb 90 (.ptr M.next 0) (.agg [(.val (.int .i64 0)),(.val (.int .i64 0)),(.val (.int .i64 0)),(.val (.int .i64 0))]) N) fun y7=>bindO (eRes tb [.v (.val (.slice none 0 0)),.c 90 (.ptr M.next 0),.v (.val (.int .i64 (st:Int)))] y7.2) fun x8=>ReadPost M l x8 y7.2:=by
 refine bZi (sZs (st_tag 0 0 0 0 hg rfl)) ?_
 refine bZi (res3 (k:=0) (p:=0) (s:=0) (e:=0) (by rw[Mem.get_put,if_pos rfl])) ?_
 refine⟨⟨hw.put (hw _ _ hg) _,hk.nxt,fun c hc _=>?_⟩,.inr ⟨by rw[hs];exact h1,by rw[hs];rfl⟩⟩
 rw[Mem.get_put,if_neg (by omega)]
 exact hk.old c hc (by simp)
theorem drop_take{α:Type}(l:List α)(i:Nat):(l.take l.length).drop i=l.drop i:=by rw[List.take_length]
theorem t_read(M:Mem)(hw:M.WF)(x:AV)(l:List (BitVec 8))(hx:BytesAt M x l)(hl:l.length≤1000000):CallA tb.P 104 [x] M (ReadPost M l):=by
 refine F104_ok ?_
 unfold F104
 refine lZi fun M1 hM1=>?_
 have hM1':M1=M.new (.cells [i64 0,i64 0,i64 0,i64 0] true):=hM1
 clear hM1
 have hw1:M1.WF:=by rw[hM1'];exact hw.new _
 have hk1:Keep M M1 []:=by rw[hM1'];exact Keep.new hw _
 have hg1:M1.get M.next=some (.cells [i64 0,i64 0,i64 0,i64 0] true):=by rw[hM1',Mem.get_new,if_pos rfl]
 have hn1:M.next<M1.next:=hw1 _ _ hg1
 clear hM1'
 have hx1:BytesAt M1 x l:=SlAt.keep0 hx hw hk1
 refine bZi (lZl hx1.len) ?_
 have e16:iSub .i64 (l.length:Int) 16=(l.length:Int)-16:=by rw[iSub,wrap_i64' (by omega) (by omega)]
 simp only[zZi,e16]
 refine (t_in M1 ((l.length:Int)-16) 24 64).mono ?_
 rintro y N ⟨rfl,rfl⟩
 simp only[zZb]
 refine cZi (fun h=>?_) (fun h=>?_)
 ·have hno:lenOk l=false:=by
   unfold lenOk
   simp only[Bool.not_eq_true',Bool.and_eq_false_iff,decide_eq_false_iff_not] at h ⊢
   omega
  exact read_none 2 (by unfold state;rw[hno];simp) (by omega) hg1 hw1 hk1
 have hlen:40≤l.length∧l.length≤80:=by
  simp only[Bool.not_eq_false',Bool.and_eq_true,decide_eq_true_eq] at h
  omega
 have hlok:lenOk l=true:=by unfold lenOk;simpa using hlen
 obtain⟨n,hn⟩:∃ n,l.length=n+16:=⟨l.length-16,by omega⟩
 have en:(l.length:Int)-16=(n:Int):=by omega
 have hn16:l.length-16=n:=by omega
 rw[en]
 refine (t_contains N x l hx1 hl).mono ?_
 rintro y N2 ⟨rfl,rfl⟩
 simp only[zZb,Bool.not_not]
 refine cZi (fun h=>read_none 0 (by unfold state;rw[hlok,h];simp) (by omega) hg1 hw1 hk1) (fun hff=>?_)
 obtain⟨y14,s14,b14⟩:=hx1.slice (lo:=some (.val (.int .i64 (n:Int)))) (hi:=none) (a:=n) (r:=l.length) (.inr rfl) (.inl ⟨rfl,rfl⟩) (by omega) (Nat.le_refl _)
 rw[drop_take] at b14
 refine bZi (eSl_some s14) ?_
 generalize hr:l.drop n=r at b14
 have hrl:r.length=16:=by rw[← hr];simp;omega
 refine lZi fun M3 hM3=>?_
 have hget3:∀ c,M3.get c=N2.get c:=fun c=>by rw[hM3];rfl
 have hw3:M3.WF:=by rw[hM3];intro b q hb;have:=hw1 b q hb;show b<N2.next+1;omega
 have hn3:M3.next=N2.next+1:=by rw[hM3]
 have b3:BytesAt M3 y14 r:=SlAt.rows b14 (by rw[hM3])
 have hx3:BytesAt M3 x l:=SlAt.rows hx1 (by rw[hM3])
 have hg3:M3.get M.next=some (.cells [i64 0,i64 0,i64 0,i64 0] true):=by rw[hget3];exact hg1
 have hk13:∀ c,c<M.next→M3.get c=M.get c:=fun c hc=>by rw[hget3];exact hk1.old c hc (by simp)
 clear hM3
 obtain⟨p1,o1,ia1,in1,ld1,ld1'⟩:=b3.ld 1 (by omega)
 refine bZi (eIA_some ia1) ?_
 simp only[zZp]
 obtain⟨y2,s2,r2⟩:=b3.slice (lo:=some (.val (.int .i64 ((2:Nat):Int)))) (hi:=some (.val (.int .i64 ((4:Nat):Int)))) (a:=2) (r:=4) (.inr rfl) (.inr rfl) (by omega) (by omega)
 obtain⟨y4,s4,r4⟩:=b3.slice (lo:=some (.val (.int .i64 ((4:Nat):Int)))) (hi:=some (.val (.int .i64 ((8:Nat):Int)))) (a:=4) (r:=8) (.inr rfl) (.inr rfl) (by omega) (by omega)
 obtain⟨y8,s8,r8⟩:=b3.slice (lo:=some (.val (.int .i64 ((8:Nat):Int)))) (hi:=some (.val (.int .i64 ((11:Nat):Int)))) (a:=8) (r:=11) (.inr rfl) (.inr rfl) (by omega) (by omega)
 refine bZi (eSl_some s2) ?_
 refine bZi (eSl_some s4) ?_
 refine bZi (eSl_some s8) ?_
 refine bZi (lZs ld1) ?_
 simp only[zZi]
 refine (t_number M3 y2 _ r2 (by simp;omega)).mono ?_
 rintro y N4 ⟨rfl,rfl⟩
 simp only[i64,zZi]
 refine⟨bZi (lZs ld1) rfl,?_⟩
 refine (t_number N4 y4 _ r4 (by simp;omega)).mono ?_
 rintro y N5 ⟨rfl,rfl⟩
 simp only[i64,zZi]
 refine⟨bZi (lZs ld1) rfl,?_⟩
 refine (t_number N5 y8 _ r8 (by simp;omega)).mono ?_
 rintro y N6 ⟨rfl,rfl⟩
 simp only[i64,zZi,wrap_i64_u8]
 refine⟨bZi (lZs ld1) rfl,?_⟩
 have ek:(r[1].toNat:Int)=fK r:=by unfold fK;rw[getD_get (by omega)]
 rw[ek]
 refine lZi fun M7 hM7=>?_
 have hM7':M7=N6.put N2.next (.cells [i64 0,i64 0,i64 0,i64 0] true):=hM7
 clear hM7
 have hg7:M7.get N2.next=some (.cells [i64 0,i64 0,i64 0,i64 0] true):=by rw[hM7',Mem.get_put,if_pos rfl]
 refine bZi (sZs (st_tag (fK r) (fP r) (fS r) (fE r) hg7 rfl)) ?_
 rw[hM7',Mem.put_put]
 clear hg7 hM7'
 generalize hM8:N6.put N2.next (.cells [i64 (fK r),i64 (fP r),i64 (fS r),i64 (fE r)] true)=M8
 have hw8:M8.WF:=by rw[← hM8];exact hw3.put (by omega) _
 have hg8:M8.get N2.next=some (.cells [i64 (fK r),i64 (fP r),i64 (fS r),i64 (fE r)] true):=by rw[← hM8,Mem.get_put,if_pos rfl]
 have hg8':M8.get M.next=some (.cells [i64 0,i64 0,i64 0,i64 0] true):=by rw[← hM8,Mem.get_put,if_neg (by omega)];exact hg3
 have hk8:Keep M M8 []:=⟨hw8,by rw[← hM8];show M.next≤N6.next;omega,fun c hc _=>by rw[← hM8,Mem.get_put,if_neg (by omega)];exact hk13 c hc⟩
 have hold8:∀ c,c<N2.next→M8.get c=N6.get c:=fun c hc=>by rw[← hM8,Mem.get_put,if_neg (by omega)]
 have b8:BytesAt M8 y14 r:=SlAt.mono b3 fun c q hc hq=>by
  rw[hold8 c (by have:=SlAt.blk_lt b14 hw1 hc;omega)];exact hq
 have hx8:BytesAt M8 x l:=SlAt.mono hx3 fun c q hc hq=>by
  rw[hold8 c (by have:=SlAt.blk_lt hx1 hw1 hc;omega)];exact hq
 clear hM8
 refine lZi fun K hK=>?_
 have bad:∀ M':Mem,M'.WF→Keep M8 M' []→valid l=false→K true M':=by
  intro M' hw' hk' hv
  rw[hK]
  simp only[cZt]
  exact read_none 2 (by unfold state;rw[hlok,hff,hv];simp) (by omega) (hk'.get hw8 hg8' (by simp)) hw' (hk8.trans0 hk')
 have hv:valid l=(decide (r.getD 0 0#8=74#8∧r.getD 15 0#8=0#8∧val ((r.take 15).drop 11)=(more 0#32 (l.take (n+11))).toNat)&&mayT (fK r) (fP r) (fS r) (fE r)):=by
  unfold valid
  rw[hn16,hr]
 obtain⟨p0,o0,ia0,in0,ld0,_⟩:=b8.ld 0 (by omega)
 refine bZi (eIA_some ia0) ?_
 simp only[zZp]
 refine bZi (lZs ld0) ?_
 simp only[zZi]
 rw[show ((r[0].toNat:Int) != 74)=decide (r[0]≠BitVec.ofNat 8 74) from ne_u8 r[0] 74 (by omega)]
 have g0:r.getD 0 0#8=r[0]:=getD_get (by omega)
 have g15:r.getD 15 0#8=r[15]:=getD_get (by omega)
 refine cZi (fun h=>bad M8 hw8 (Keep.refl hw8) ?_) (fun h0=>?_)
 ·rw[hv,g0]
  have:r[0]≠74#8:=by simpa using h
  simp[this]
 have h0:r[0]=74#8:=by simpa using h0
 obtain⟨p15,o15,ia15,in15,ld15,_⟩:=b8.ld 15 (by omega)
 refine bZi (eIA_some ia15) ?_
 simp only[zZp]
 refine bZi (lZs ld15) ?_
 simp only[zZi]
 rw[show ((r[15].toNat:Int) != 0)=decide (r[15]≠BitVec.ofNat 8 0) from ne_u8 r[15] 0 (by omega)]
 refine cZi (fun h=>bad M8 hw8 (Keep.refl hw8) ?_) (fun h15=>?_)
 ·rw[hv,g15]
  have:r[15]≠0#8:=by simpa using h
  simp[this]
 have h15:r[15]=0#8:=by simpa using h15
 obtain⟨y11,s11,r11⟩:=b8.slice (lo:=some (.val (.int .i64 ((11:Nat):Int)))) (hi:=some (.val (.int .i64 ((15:Nat):Int)))) (a:=11) (r:=15) (.inr rfl) (.inr rfl) (by omega) (by omega)
 refine bZi (eSl_some s11) ?_
 have e11:iAdd .i64 (n:Int) 11=((n+11:Nat):Int):=by rw[iAdd,wrap_i64' (by omega) (by omega)];rfl
 rw[e11]
 obtain⟨yb,sb,rb⟩:=hx8.slice (lo:=none) (hi:=some (.val (.int .i64 ((n+11:Nat):Int)))) (a:=0) (r:=n+11) (.inl ⟨rfl,rfl⟩) (.inr rfl) (by omega) (by omega)
 rw[List.drop_zero] at rb
 refine bZi (eSl_some sb) ?_
 refine (t_number M8 y11 _ r11 (by simp;omega)).mono ?_
 rintro y N9 ⟨rfl,rfl⟩
 simp only[i64,zZi]
 refine (crc_of N9 yb _ rb (by simp;omega)).mono ?_
 rintro y N10 ⟨rfl,rfl⟩
 simp only[zZi,wrap_i64_u32]
 refine cZi (fun h=>bad N10 hw8 (Keep.refl hw8) ?_) (fun hc=>?_)
 ·rw[hv]
  have:¬ val ((r.take 15).drop 11)=(more 0#32 (l.take (n+11))).toNat:=fun he=>by rw[he] at h;simp at h
  simp[this]
 have hc:val ((r.take 15).drop 11)=(more 0#32 (l.take (n+11))).toNat:=by
  have:((val ((r.take 15).drop 11):Nat):Int)=((more 0#32 (l.take (n+11))).toNat:Int):=by simpa using hc
  omega
 obtain⟨_,_,_,_,la⟩:=tag_ld hg8
 refine bZi (lZs la) ?_
 refine⟨fK r,fP r,fS r,fE r,rfl,?_⟩
 refine (t_may N10 hw8 (fK r) (fP r) (fS r) (fE r)).mono ?_
 rintro y N11 ⟨rfl,hk11⟩
 simp only[zZb]
 have hvm:valid l=mayT (fK r) (fP r) (fS r) (fE r):=by
  rw[hv,g0,g15]
  simp[h0,h15,hc]
 cases hm:mayT (fK r) (fP r) (fS r) (fE r) with
 | false=>exact bad N11 hk11.wf hk11 (by rw[hvm,hm])
 | true=>
   rw[hK]
   simp only[Bool.not_true,cZf]
   clear bad hK
   have hx11:BytesAt N11 x l:=SlAt.keep0 hx8 hw8 hk11
   obtain⟨yd,sd,rd⟩:=hx11.slice (lo:=none) (hi:=some (.val (.int .i64 (n:Int)))) (a:=0) (r:=n) (.inl ⟨rfl,rfl⟩) (.inr rfl) (by omega) (by omega)
   rw[List.drop_zero] at rd
   refine bZi (eSl_some sd) ?_
   have hg11:=hk11.get hw8 hg8 (by simp)
   have hg11':=hk11.get hw8 hg8' (by simp)
   obtain⟨_,_,_,_,la11⟩:=tag_ld hg11
   refine bZi (lZs la11) ?_
   refine⟨fK r,fP r,fS r,fE r,rfl,?_⟩
   refine (t_clone N11 hk11.wf yd (l.take n) rd (by simp;omega) (by simp;omega)).mono ?_
   rintro u N12 ⟨hu,hk12,hf12⟩
   have hg12:=hk12.get hk11.wf hg11 (by simp)
   have hg12':=hk12.get hk11.wf hg11' (by simp)
   obtain⟨_,_,_,_,la12⟩:=tag_ld hg12
   refine⟨bZi (lZs la12) rfl,?_⟩
   refine bZi (sZs (st_tag (fK r) (fP r) (fS r) (fE r) hg12' rfl)) ?_
   refine bZi (res3 (by rw[Mem.get_put,if_pos rfl])) ?_
   have hkM:Keep M N12 []:=(hk8.trans0 hk11).trans0 hk12
   refine⟨⟨hk12.wf.put (hk12.wf _ _ hg12') _,hkM.nxt,fun c hc' _=>by
    show (N12.put M.next _).get c=_
    rw[Mem.get_put,if_neg (by omega)];exact hkM.old c hc' (by simp)⟩,.inl ⟨?_,u,?_,?_,fun c hc'=>?_⟩⟩
   ·unfold state;rw[hlok,hff,hvm,hm];simp
   ·rw[hn16,hr];rfl
   ·rw[hn16]
    refine hu.mono fun c q hc' hq=>?_
    have h1:=hf12 c hc'
    have h2:=hk11.nxt
    have h3:=hk8.nxt
    show (N12.put M.next _).get c=_
    rw[Mem.get_put,if_neg (by
     have:=hw8 _ _ hg8'
     omega)];exact hq
   ·have h1:=hf12 c hc'
    have h2:=hk11.nxt
    have h3:=hk8.nxt
    omega
theorem byteOf_nat(m s:Nat):(byteOf (m:Int) s).toNat=m/256^s%256:=by
 unfold byteOf
 have e:(2:Int)^(8*s)=((256^s:Nat):Int):=by
  rw[Int.pow_mul,show (2:Int)^8=((256:Nat):Int) from rfl,← Int.natCast_pow]
 rw[e,Int.fdiv_eq_ediv_of_nonneg _ (Int.natCast_nonneg _),← Int.natCast_ediv,BitVec.toNat_ofInt]
 have e2:((2^8:Nat):Int)=((256:Nat):Int):=rfl
 rw[e2,← Int.natCast_emod,Int.toNat_natCast]
def valFrom(a:Nat)(l:List (BitVec 8)):Nat:=l.foldl (fun n b=>n*256+b.toNat) a
theorem valFrom_be(m:Nat):∀ (s a:Nat),valFrom a (be (m:Int) s)=a*256^s+m%256^s
 | 0,a=>by simp[valFrom,be,Nat.mod_one]
 | s+1,a=>by
   show valFrom (a*256+(byteOf (m:Int) s).toNat) (be (m:Int) s)=_
   rw[valFrom_be m s,byteOf_nat,Nat.add_mul]
   have h1:256^(s+1)=256^s*256:=Nat.pow_succ 256 s
   have h2:m%(256^s*256)=m%256^s+256^s*(m/256^s%256):=Nat.mod_mul
   rw[h1,h2,Nat.mul_assoc,Nat.mul_comm 256,Nat.mul_comm (m/256^s%256)]
   omega
theorem val_be{m s:Nat}(h:m<256^s):val (be (m:Int) s)=m:=by
 have:=valFrom_be m s 0
 rw[Nat.zero_mul,Nat.zero_add,Nat.mod_eq_of_lt h] at this
 exact this
def tail16(k p s e:Int)(c:BitVec 32):List (BitVec 8):=[74#8,BitVec.ofInt 8 k]++be p 2++be s 4++be e 3++be (c.toNat:Int) 4++[0#8]
theorem laid_eq(d:List (BitVec 8))(k p s e:Int):laid d k p s e=d++tail16 k p s e (more 0#32 (body d k p s e)):=by
 simp only[laid,body,tail16,List.append_assoc]
@[simp] theorem tail16_length (k p s e:Int) (c:BitVec 32):(tail16 k p s e c).length=16:=by simp[tail16]
theorem laid_drop(d:List (BitVec 8))(k p s e:Int):(laid d k p s e).drop ((laid d k p s e).length-16)=tail16 k p s e (more 0#32 (body d k p s e)):=by
 rw[laid_length,Nat.add_sub_cancel,laid_eq,List.drop_left]
theorem laid_body(d:List (BitVec 8))(k p s e:Int):(laid d k p s e).take ((laid d k p s e).length-16+11)=body d k p s e:=by
 rw[laid_length,Nat.add_sub_cancel]
 unfold laid
 rw[List.append_assoc,List.take_left' (by simp)]
section
variable (k p s e:Int) (c:BitVec 32)
theorem tail16_0:(tail16 k p s e c).getD 0 0#8=74#8:=rfl
theorem tail16_1:(tail16 k p s e c).getD 1 0#8=BitVec.ofInt 8 k:=rfl
theorem tail16_p:((tail16 k p s e c).take 4).drop 2=be p 2:=rfl
theorem tail16_s:((tail16 k p s e c).take 8).drop 4=be s 4:=rfl
theorem tail16_e:((tail16 k p s e c).take 11).drop 8=be e 3:=rfl
theorem tail16_c:((tail16 k p s e c).take 15).drop 11=be (c.toNat:Int) 4:=rfl
theorem tail16_15:(tail16 k p s e c).getD 15 0#8=0#8:=rfl
end
theorem val_be_int{n:Int}{s:Nat}(h0:0≤n)(h:n<((256^s:Nat):Int)):(val (be n s):Int)=n:=by
 obtain⟨m,rfl⟩:∃ m:Nat,n=(m:Int):=⟨n.toNat,by omega⟩
 rw[val_be (Int.ofNat_lt.1 h)]
theorem val_be_crc(c:BitVec 32):val (be (c.toNat:Int) 4)=c.toNat:=val_be (by
 have:=c.isLt
 have e:(256:Nat)^4=2^32:=by decide
 rw[e];exact this)
theorem tail16_fields{k p s e:Int}{c:BitVec 32}(h:mayT k p s e=true):fK (tail16 k p s e c)=k∧fP (tail16 k p s e c)=p∧fS (tail16 k p s e c)=s∧fE (tail16 k p s e c)=e:=by
 unfold mayT at h
 simp only[decide_eq_true_eq] at h
 obtain⟨h1,h2,h3,h4,h5,h6,h7,h8,h9⟩:=h
 have e2:((256^2:Nat):Int)=65536:=by decide
 have e4:((256^4:Nat):Int)=4294967296:=by decide
 have e3:((256^3:Nat):Int)=16777216:=by decide
 unfold fK fP fS fE
 rw[tail16_1,tail16_p,tail16_s,tail16_e,val_be_int h3 (by omega),val_be_int h6 (by omega),val_be_int h8 (by omega)]
 refine⟨?_,rfl,rfl,rfl⟩
 rw[← wrap_ofInt,wrap_u8]
 omega
theorem laid_valid{d:List (BitVec 8)}{k p s e:Int}(h:okL d k p s e=true):valid (laid d k p s e)=true:=by
 unfold okL at h
 rw[Bool.and_eq_true] at h
 obtain⟨f1,f2,f3,f4⟩:=tail16_fields (c:=more 0#32 (body d k p s e)) h.2
 unfold valid
 simp only
 rw[laid_drop,laid_body,f1,f2,f3,f4,h.2,tail16_0,tail16_15,tail16_c,val_be_crc]
 simp
theorem allFF_false{l:List (BitVec 8)}{i:Nat}(hi:i<l.length)(h:l.getD i 0#8≠255#8):allFF l=false:=by
 unfold allFF
 rw[List.all_eq_false]
 refine⟨l[i],List.getElem_mem _,?_⟩
 rw[getD_get hi] at h
 simpa using h
theorem getD_drop(l:List (BitVec 8))(n i:Nat):(l.drop n).getD i 0#8=l.getD (n+i) 0#8:=by
 rw[List.getD_eq_getElem?_getD,List.getD_eq_getElem?_getD,List.getElem?_drop]
theorem valid_noFF{l:List (BitVec 8)}(hl:16≤l.length)(h:valid l=true):allFF l=false:=by
 unfold valid at h
 simp only[Bool.and_eq_true,decide_eq_true_eq] at h
 have h0:=h.1.1
 rw[getD_drop] at h0
 refine allFF_false (i:=l.length-16+0) (by omega) ?_
 rw[h0];decide
theorem laid_state{d:List (BitVec 8)}{k p s e:Int}(h:okL d k p s e=true):state (laid d k p s e)=1:=by
 have hv:=laid_valid h
 have hf:=valid_noFF (by simp) hv
 unfold okL at h
 rw[Bool.and_eq_true,decide_eq_true_eq] at h
 have hl:lenOk (laid d k p s e)=true:=by
  unfold lenOk
  simp only[laid_length,decide_eq_true_eq]
  omega
 unfold state
 rw[hl,hf,hv];rfl
structure Geo where
 bl:Int
 pg:Int
 by':Int
 sp:Int
 tr:Int
def geoC(g:Geo):List AV:=[i64 g.bl,i64 g.pg,i64 g.by',i64 g.sp,i64 g.tr]
def geoA(g:Geo):AV:= .agg (geoC g)
def placeA(b p:Int):AV:= .agg [i64 b,i64 p]
def inB(a lo hi:Int):Bool:=decide (lo≤a)&&decide (a≤hi)
def mayG(g:Geo):Bool:=inB g.bl 8 20&&(inB g.pg 4 8&&(inB g.by' 24 64&&(inB g.sp 0 4&&(inB g.tr 2 20&&decide (12≤(g.bl-g.sp-3)*g.pg)))))
theorem ty23:tb.ty.get 23=some ⟨.st [(0,1,false),(1,1,false),(2,1,false),(3,1,false),(4,1,false)],5,40,[.int .i64 0,.int .i64 0,.int .i64 0,.int .i64 0,.int .i64 0],some [3,3,3,3,3]⟩:=by kernel_rfl
theorem ty85:tb.ty.get 85=some ⟨.st [(0,1,false),(1,1,false)],2,16,[.int .i64 0,.int .i64 0],some [3,3]⟩:=by kernel_rfl
theorem ty4:tb.ty.get 4=some ⟨.bool,1,1,[.bool false],none⟩:=by kernel_rfl
theorem mayG_iff{g:Geo}:mayG g=true↔(8≤g.bl∧g.bl≤20)∧(4≤g.pg∧g.pg≤8)∧(24≤g.by'∧g.by'≤64)∧(0≤g.sp∧g.sp≤4)∧(2≤g.tr∧g.tr≤20)∧12≤(g.bl-g.sp-3)*g.pg:=by
 unfold mayG inB
 simp only[Bool.and_eq_true,decide_eq_true_eq]
theorem geo_ld{M:Mem}{b:Nat}{g:Geo}{rw':Bool}(hg:M.get b=some (.cells (geoC g) rw')):
 evLoad tb 3 (.ptr b 0) M=some (i64 g.bl)∧evLoad tb 3 (.ptr b 1) M=some (i64 g.pg)∧evLoad tb 3 (.ptr b 2) M=some (i64 g.by')∧evLoad tb 3 (.ptr b 3) M=some (i64 g.sp)∧evLoad tb 3 (.ptr b 4) M=some (i64 g.tr)∧evLoad tb 23 (.ptr b 0) M=some (geoA g):=
 ⟨lZc ty3 rfl hg rfl,lZc ty3 rfl hg rfl,lZc ty3 rfl hg rfl,lZc ty3 rfl hg rfl,lZc ty3 rfl hg rfl,ld_agg (n:=5) ty23 rfl rfl hg (by simp[geoC])⟩
theorem place_ld{M:Mem}{b:Nat}{k p:Int}{rw':Bool}(hg:M.get b=some (.cells [i64 k,i64 p] rw')):
 evLoad tb 3 (.ptr b 0) M=some (i64 k)∧evLoad tb 3 (.ptr b 1) M=some (i64 p)∧evLoad tb 85 (.ptr b 0) M=some (placeA k p):=
 ⟨lZc ty3 rfl hg rfl,lZc ty3 rfl hg rfl,ld_agg (n:=2) ty85 rfl rfl hg (by simp)⟩
theorem get_new(M:Mem)(r:Row):(M.new r).get M.next=some r:=by rw[Mem.get_new,if_pos rfl]
theorem mul_bnd{a b:Int}(ha: -1000≤a)(ha2:a≤1000)(hb:0≤b)(hb2:b≤1000): -1000000≤a*b∧a*b≤1000000:=by
 constructor
 ·have h1:(-1000)*b≤a*b:=Int.mul_le_mul_of_nonneg_right ha hb
  omega
 ·have h1:a*b≤1000*b:=Int.mul_le_mul_of_nonneg_right ha2 hb
  omega
theorem half_eq{bl sp pg:Int}(h1:8≤bl∧bl≤20)(h2:4≤pg∧pg≤8)(h3:0≤sp∧sp≤4):iSub .i64 (iMul .i64 (iSub .i64 (iSub .i64 bl sp) 3) pg) 4=(bl-sp-3)*pg-4∧ -1000000≤(bl-sp-3)*pg∧(bl-sp-3)*pg≤1000000:=by
 have hm:=mul_bnd (a:=bl-sp-3) (b:=pg) (by omega) (by omega) (by omega) (by omega)
 refine⟨?_,hm⟩
 have e1:iSub .i64 bl sp=bl-sp:=by rw[iSub,wrap_i64' (by omega) (by omega)]
 have e2:iSub .i64 (bl-sp) 3=bl-sp-3:=by rw[iSub,wrap_i64' (by omega) (by omega)]
 have e3:iMul .i64 (bl-sp-3) pg=(bl-sp-3)*pg:=by rw[iMul,wrap_i64' (by omega) (by omega)]
 rw[e1,e2,e3,iSub,wrap_i64' (by omega) (by omega)]
theorem c_in120(M:Mem)(a b c:Int):CallA tb.P 97 [i64 a,i64 b,i64 c] M fun y N=>y= .val (.bool (inB a b c))∧N=M:=by
 refine F97_ok ?_
 unfold F97 inB
 simp only[i64,zZi,letP_eq]
 refine cZi (fun h=>?_) (fun h=>?_)
 ·have h:b≤a:=by simpa using h
  simp[h]
 ·have h:¬ b≤a:=by simpa using h
  simp[h]
theorem c_half121(M:Mem)(hw:M.WF)(g:Geo)(h1:8≤g.bl∧g.bl≤20)(h2:4≤g.pg∧g.pg≤8)(h3:0≤g.sp∧g.sp≤4):CallA tb.P 92 [geoA g] M fun y N=>(∃ z,y=i64 z∧decide (z≥4)=decide (12≤(g.bl-g.sp-3)*g.pg))∧Keep M N []:=by
 refine F92_ok ?_
 unfold F92
 refine⟨_,_,_,_,_,rfl,?_⟩
 simp only[letP_eq]
 have hg:=get_new M (.cells (geoC g) true)
 obtain⟨l0,l1,l2,l3,l4,_⟩:=geo_ld hg
 have hK:=Keep.new hw (.cells (geoC g) true)
 refine bZi (lZs l0) ?_
 simp only[i64,zZi]
 refine bZi (lZs l3) ?_
 simp only[i64,zZi]
 refine bZi (lZs l1) ?_
 simp only[i64,zZi]
 obtain⟨e,hb1,hb2⟩:=half_eq h1 h2 h3
 rw[e]
 generalize (g.bl-g.sp-3)*g.pg=m at hb1 hb2 ⊢
 refine⟨⟨_,rfl,?_⟩,hK⟩
 by_cases hp:0≤m-4
 ·rw[iQuo,Int.tdiv_eq_ediv_of_nonneg hp,wrap_i64' (by omega) (by omega),decide_eq_decide]
  omega
 ·have e5:(m-4).tdiv 2= -((4-m)/2):=by
   rw[show m-4= -(4-m) by omega,Int.neg_tdiv,Int.tdiv_eq_ediv_of_nonneg (by omega)]
  rw[iQuo,e5,wrap_i64' (by omega) (by omega),decide_eq_decide]
  omega
theorem c_may102(M:Mem)(hw:M.WF)(g:Geo):CallA tb.P 65 [geoA g] M fun y N=>y= .val (.bool (mayG g))∧Keep M N []:=by
 refine F65_ok ?_
 unfold F65
 refine⟨_,_,_,_,_,rfl,?_⟩
 simp only[letP_eq]
 have hg:=get_new M (.cells (geoC g) true)
 obtain⟨l0,l1,l2,l3,l4,l5⟩:=geo_ld hg
 have hK:=Keep.new hw (.cells (geoC g) true)
 unfold mayG
 refine bZi (lZs l0) ?_
 simp only[i64,zZi]
 refine (c_in120 _ g.bl 8 20).mono ?_
 rintro y N ⟨rfl,rfl⟩
 simp only[zZb]
 generalize hh0:inB g.bl 8 20=q0
 refine cZi (fun h=>?_) (fun h=>⟨by rw[h];rfl,hK⟩)
 subst h
 rw[Bool.true_and]
 refine bZi (lZs l1) ?_
 simp only[i64,zZi]
 refine (c_in120 _ g.pg 4 8).mono ?_
 rintro y N ⟨rfl,rfl⟩
 simp only[zZb]
 generalize hh1:inB g.pg 4 8=q1
 refine cZi (fun h=>?_) (fun h=>⟨by rw[h];rfl,hK⟩)
 subst h
 rw[Bool.true_and]
 refine bZi (lZs l2) ?_
 simp only[i64,zZi]
 refine (c_in120 _ g.by' 24 64).mono ?_
 rintro y N ⟨rfl,rfl⟩
 simp only[zZb]
 generalize hh2:inB g.by' 24 64=q2
 refine cZi (fun h=>?_) (fun h=>⟨by rw[h];rfl,hK⟩)
 subst h
 rw[Bool.true_and]
 refine bZi (lZs l3) ?_
 simp only[i64,zZi]
 refine (c_in120 _ g.sp 0 4).mono ?_
 rintro y N ⟨rfl,rfl⟩
 simp only[zZb]
 generalize hh3:inB g.sp 0 4=q3
 refine cZi (fun h=>?_) (fun h=>⟨by rw[h];rfl,hK⟩)
 subst h
 rw[Bool.true_and]
 refine bZi (lZs l4) ?_
 simp only[i64,zZi]
 refine (c_in120 _ g.tr 2 20).mono ?_
 rintro y N ⟨rfl,rfl⟩
 simp only[zZb]
 generalize hh4:inB g.tr 2 20=q4
 refine cZi (fun h=>?_) (fun h=>⟨by rw[h];rfl,hK⟩)
 subst h
 rw[Bool.true_and]
 refine bZi (lZs l5) ?_
 refine⟨_,_,_,_,_,rfl,?_⟩
 unfold inB at hh0 hh1 hh3
 simp only[Bool.and_eq_true,decide_eq_true_eq] at hh0 hh1 hh3
 refine (c_half121 _ hK.wf g hh0 hh1 hh3).mono ?_
 rintro y N ⟨⟨z,rfl,hz⟩,hk2⟩
 simp only[i64,zZi]
 exact⟨by rw[hz],hK.trans0 hk2⟩
def rawN(g:Geo):Nat:=(g.by'+16).toNat
def isG(g:Geo)(b p:Int):Bool:=inB b 0 (g.bl-1)&&inB p 0 (g.pg-1)
theorem c_when(M:Mem)(hw:M.WF)(g:Geo)(h:mayG g=true)(n:Int):CallA tb.P 68 [geoA g,i64 n] M fun y N=>y=i64 n∧Keep M N []:=by
 refine F68_ok ?_
 unfold F68
 refine⟨_,_,_,_,_,rfl,?_⟩
 simp only[letP_eq,i64,zZi]
 have hg:=get_new M (.cells (geoC g) true)
 obtain⟨l0,l1,l2,l3,l4,l5⟩:=geo_ld hg
 have hK:=Keep.new hw (.cells (geoC g) true)
 refine bZi (lZs l5) ?_
 refine⟨_,_,_,_,_,rfl,?_⟩
 refine (c_may102 _ hK.wf g).mono ?_
 rintro y N ⟨rfl,hk⟩
 simp only[zZb,h]
 exact cZi (fun h=>by simp at h) (fun _=>⟨by trivial,hK.trans0 hk⟩)
theorem c_raw(M:Mem)(hw:M.WF)(g:Geo)(h:mayG g=true):CallA tb.P 40 [geoA g] M fun y N=>y=i64 (rawN g)∧Keep M N []:=by
 refine F40_ok ?_
 unfold F40
 refine⟨_,_,_,_,_,rfl,?_⟩
 simp only[letP_eq]
 have hg:=get_new M (.cells (geoC g) true)
 obtain⟨l0,l1,l2,l3,l4,l5⟩:=geo_ld hg
 have hK:=Keep.new hw (.cells (geoC g) true)
 refine bZi (lZs l5) ?_
 refine⟨_,_,_,_,_,rfl,?_⟩
 refine bZi (lZs l2) ?_
 simp only[i64,zZi]
 refine bZi (lZs l5) ?_
 refine⟨_,_,_,_,_,rfl,?_⟩
 refine (c_when _ hK.wf g h _).mono ?_
 rintro y N ⟨rfl,hk⟩
 simp only[i64,zZi]
 have hg2:=hk.get hK.wf hg (by simp)
 obtain⟨_,_,_,_,_,m5⟩:=geo_ld hg2
 refine⟨bZi (lZs m5) rfl,?_⟩
 refine (c_when _ hk.wf g h _).mono ?_
 rintro y N' ⟨rfl,hk'⟩
 simp only[i64,zZi]
 refine⟨?_,hK.trans0 (hk.trans0 hk')⟩
 have hm:=mayG_iff.1 h
 rw[iAdd,wrap_i64' (by omega) (by omega)]
 unfold rawN
 congr 3
 omega
theorem c_is(M:Mem)(hw:M.WF)(g:Geo)(h:mayG g=true)(b p:Int):CallA tb.P 102 [geoA g,placeA b p] M fun y N=>y= .val (.bool (isG g b p))∧Keep M N []:=by
 refine F102_ok ?_
 unfold F102
 refine⟨_,_,_,_,_,rfl,_,_,rfl,?_⟩
 simp only[letP_eq]
 have hg:=get_new M (.cells (geoC g) true)
 have hK:=Keep.new hw (.cells (geoC g) true)
 have hK2:=Keep.new hK.wf (.cells [i64 b,i64 p] true)
 have hg2:=hK2.get hK.wf hg (by simp)
 have hp2:=get_new (M.new (.cells (geoC g) true)) (.cells [i64 b,i64 p] true)
 obtain⟨l0,l1,l2,l3,l4,l5⟩:=geo_ld hg2
 refine bZi (lZs l5) ?_
 refine⟨_,_,_,_,_,rfl,?_⟩
 refine (c_may102 _ hK2.wf g).mono ?_
 rintro y N ⟨rfl,hk⟩
 simp only[zZb,h]
 refine cZi (fun _=>?_) (fun h=>by simp at h)
 have hgN:=hk.get hK2.wf hg2 (by simp)
 have hpN:=hk.get hK2.wf hp2 (by simp)
 obtain⟨k0,k1,_⟩:=geo_ld hgN
 obtain⟨p0,p1,_⟩:=place_ld hpN
 have hm:=mayG_iff.1 h
 have hall:=hK.trans0 (hK2.trans0 hk)
 unfold isG
 refine bZi (lZs p0) ?_
 simp only[i64,zZi]
 refine bZi (lZs k0) ?_
 simp only[i64,zZi]
 rw[show iSub .i64 g.bl 1=g.bl-1 by rw[iSub,wrap_i64' (by omega) (by omega)]]
 refine (c_in120 _ _ _ _).mono ?_
 rintro y N' ⟨rfl,rfl⟩
 simp only[zZb]
 refine cZi (fun hb=>?_) (fun hb=>⟨by rw[hb];rfl,hall⟩)
 rw[hb,Bool.true_and]
 refine bZi (lZs p1) ?_
 simp only[i64,zZi]
 refine bZi (lZs k1) ?_
 simp only[i64,zZi]
 rw[show iSub .i64 g.pg 1=g.pg-1 by rw[iSub,wrap_i64' (by omega) (by omega)]]
 refine (c_in120 _ _ _ _).mono ?_
 rintro y N' ⟨rfl,rfl⟩
 simp only[zZb]
 exact⟨by trivial,hall⟩
theorem c_number(M:Mem)(hw:M.WF)(g:Geo)(h:mayG g=true)(b p:Int):CallA tb.P 69 [geoA g,placeA b p] M fun y N=>(∃ z,y=i64 z∧decide (z<0)= !isG g b p)∧Keep M N []:=by
 refine F69_ok ?_
 unfold F69
 refine⟨_,_,_,_,_,rfl,_,_,rfl,?_⟩
 simp only[letP_eq]
 have hg:=get_new M (.cells (geoC g) true)
 have hK:=Keep.new hw (.cells (geoC g) true)
 have hK2:=Keep.new hK.wf (.cells [i64 b,i64 p] true)
 have hg2:=hK2.get hK.wf hg (by simp)
 have hp2:=get_new (M.new (.cells (geoC g) true)) (.cells [i64 b,i64 p] true)
 obtain⟨l0,l1,l2,l3,l4,l5⟩:=geo_ld hg2
 refine bZi (lZs l5) ?_
 refine⟨_,_,_,_,_,rfl,?_⟩
 refine (c_may102 _ hK2.wf g).mono ?_
 rintro y N ⟨rfl,hk⟩
 simp only[zZb,h]
 refine cZi (fun h=>by simp at h) (fun _=>?_)
 have hgN:=hk.get hK2.wf hg2 (by simp)
 have hpN:=hk.get hK2.wf hp2 (by simp)
 obtain⟨_,_,_,_,_,k5⟩:=geo_ld hgN
 obtain⟨_,_,p2⟩:=place_ld hpN
 refine bZi (lZs k5) ?_
 refine⟨_,_,_,_,_,rfl,?_⟩
 refine bZi (lZs p2) ?_
 refine⟨_,_,rfl,?_⟩
 refine (c_is _ hk.wf g h b p).mono ?_
 rintro y N' ⟨rfl,hk'⟩
 simp only[zZb]
 have hall:=hK.trans0 (hK2.trans0 (hk.trans0 hk'))
 refine cZi (fun hi=>?_) (fun hi=>?_)
 ·refine⟨⟨-1,rfl,?_⟩,hall⟩
  rw[hi];rfl
 have hi:isG g b p=true:=by simpa using hi
 obtain⟨_,k1,_⟩:=geo_ld (hk'.get hk.wf hgN (by simp))
 obtain⟨p0,p1,_⟩:=place_ld (hk'.get hk.wf hpN (by simp))
 refine bZi (lZs p0) ?_
 simp only[i64,zZi]
 refine bZi (lZs k1) ?_
 simp only[i64,zZi]
 refine bZi (lZs p1) ?_
 simp only[i64,zZi]
 refine⟨⟨_,rfl,?_⟩,hall⟩
 rw[hi]
 unfold isG inB at hi
 simp only[Bool.and_eq_true,decide_eq_true_eq] at hi
 have hm:=mayG_iff.1 h
 have hb:=mul_bnd (a:=b) (b:=g.pg) (by omega) (by omega) (by omega) (by omega)
 have hn:0≤b*g.pg:=Int.mul_nonneg (by omega) (by omega)
 rw[iMul,wrap_i64' (n:=b*g.pg) (by omega) (by omega),iAdd,wrap_i64' (by omega) (by omega)]
 simp only[Bool.not_true,decide_eq_false_iff_not]
 omega
structure Flt where
 blk:Int
 fac:Bool
 aft:Int
def fltC(f:Flt):List AV:=[i64 f.blk,.val (.bool f.fac),i64 f.aft]
def fltA(f:Flt):AV:= .agg (fltC f)
theorem fltC_len(f:Flt):(fltC f).length=3:=rfl
def FltsAt(M:Mem)(x:AV)(fs:List Flt):Prop:=SlAt 3 M x fs.length (fs.flatMap fltC)
theorem ty72:tb.ty.get 72=some ⟨.st [(0,1,false),(1,1,false),(2,1,false)],3,24,[.int .i64 0,.bool false,.int .i64 0],some [3,4,3]⟩:=by kernel_rfl
theorem ty24:tb.ty.get 24=some ⟨.sli 72,1,24,[.slice none 0 0],none⟩:=by kernel_rfl
theorem FltsAt.len{M M':Mem}{x:AV}{fs:List Flt}(h:FltsAt M x fs):evLenCap tb false 24 x M'=some fs.length:=SlAt.len h ty24 rfl
theorem FltsAt.at{M:Mem}{x:AV}{fs:List Flt}(h:FltsAt M x fs){i:Nat}(hi:i<fs.length):
 ∃ b o,evIndexAddr tb 24 x (.val (.int .i64 (i:Int)))=some (.ptr b o)∧evLoad tb 72 (.ptr b o) M=some (fltA fs[i]):=by
 obtain⟨b,o,h1,h2⟩:=SlAt.ldAgg h ty24 rfl ty72 rfl rfl hi (k':= .i64)
 rw[flat_at fltC_len hi] at h2
 exact⟨b,o,h1,h2⟩
theorem flt_ld{M:Mem}{b:Nat}{f:Flt}{rw':Bool}(hg:M.get b=some (.cells (fltC f) rw')):
 evLoad tb 3 (.ptr b 0) M=some (i64 f.blk)∧evLoad tb 4 (.ptr b 1) M=some (.val (.bool f.fac))∧evLoad tb 3 (.ptr b 2) M=some (i64 f.aft)∧evLoad tb 72 (.ptr b 0) M=some (fltA f):=
 ⟨lZc ty3 rfl hg rfl,lZc ty4 rfl hg rfl,lZc ty3 rfl hg rfl,ld_agg (n:=3) ty72 rfl rfl hg (by simp[fltC])⟩
theorem flt_st{M:Mem}{b:Nat}{cs:List AV}(f:Flt)(hg:M.get b=some (.cells cs true))(hl:cs.length=3):evStore tb 72 (.ptr b 0) (fltA f) M=some (M.put b (.cells (fltC f) true)):=
 st_all ty72 rfl hg hl (by intro v hv;simp only[fltC,List.mem_cons,List.not_mem_nil,or_false] at hv;rcases hv with rfl|rfl|rfl <;> rfl)
theorem c_find1(M:Mem)(hw:M.WF)(f:Flt)(q:Nat)(b:Int){rw':Bool}(hq:M.get q=some (.cells [i64 b] rw')):CallA tb.P 99 [fltA f,.ptr q 0] M fun y N=>y= .val (.bool (f.blk==b))∧Keep M N []:=by
 refine F99_ok ?_
 unfold F99
 refine⟨_,_,_,rfl,?_⟩
 simp only[letP_eq]
 have hg:=get_new M (.cells (fltC f) true)
 obtain⟨l0,_⟩:=flt_ld hg
 have hK:=Keep.new hw (.cells (fltC f) true)
 refine bZi (lZs l0) ?_
 simp only[i64,zZi]
 have l1:evLoad tb 3 (.ptr q 0) (M.new (.cells (fltC f) true))=some (i64 b):=lZc ty3 rfl (hK.get hw hq (by simp)) rfl
 refine bZi (lZs l1) ?_
 simp only[i64,zZi]
 exact⟨by trivial,hK⟩
theorem fn99':tb.fn.get 99=some Tryz.f99:=fn99
theorem c_index(M:Mem)(hw:M.WF)(x:AV)(fs:List Flt)(hx:FltsAt M x fs)(hl:fs.length≤1000)(q:Nat)(b:Int){rw':Bool}(hq:M.get q=some (.cells [i64 b] rw')):
 CallA tb.P 98 [x,.fn 99 [] [.ptr q 0]] M fun y N=>Keep M N []∧((∃ (i:Nat) (h:i<fs.length),y=i64 i∧fs[i].blk=b∧∀ (j:Nat) (hj:j<i),fs[j].blk≠b)∨(y=i64 (-1)∧∀ f∈fs,f.blk≠b)):=by
 refine F98_ok ?_
 unfold F98
 refine bZi (lZl hx.len) ?_
 simp only[zZi]
 refine⟨fun z n N=>∃ i:Nat,z=i∧n=fs.length-i∧i≤fs.length∧Keep M N []∧∀ (j:Nat) (hj:j<fs.length),j<i→fs[j].blk≠b,⟨fs.length,0,rfl,rfl,Nat.zero_le _,Keep.refl hw,fun j _ h=>by omega⟩,?_⟩
 rintro _ z n N ⟨i,rfl,rfl,hi,hk,hne⟩
 have hxN:FltsAt N x fs:=SlAt.keep0 hx hw hk
 have hqN:=hk.get hw hq (by simp)
 refine cZi (fun hlt=>?_) (fun hge=>?_)
 ·have hlt:i<fs.length:=by simpa using hlt
  obtain⟨p,o,h1,h2⟩:=hxN.at hlt
  refine bZi (eIA_some h1) ?_
  simp only[zZp]
  refine bZi (lZs h2) ?_
  refine⟨_,_,_,rfl,?_⟩
  refine eCall_i fn99' ?_
  refine (c_find1 N hk.wf fs[i] q b hqN).mono ?_
  rintro y N1 ⟨rfl,hk1⟩
  simp only[zZb]
  refine cZi (fun h=>?_) (fun h=>?_)
  ·exact⟨hk.trans0 hk1,.inl ⟨i,hlt,rfl,by simpa using h,fun j hj=>hne j (by omega) hj⟩⟩
  ·refine⟨fs.length-(i+1),by omega,i+1,iInc (by omega),rfl,hlt,hk.trans0 hk1,fun j hj hji=>?_⟩
   by_cases hji':j=i
   ·subst hji';simpa using h
   ·exact hne j hj (by omega)
 ·have hge:i=fs.length:=by have:¬ (i:Int)<fs.length:=by simpa using hge
                           omega
  subst hge
  refine⟨hk,.inr ⟨rfl,fun f hf=>?_⟩⟩
  obtain⟨j,hj,rfl⟩:=List.getElem_of_mem hf
  exact hne j hj hj
def findF(fs:List Flt)(b:Int):Option Flt:=fs.find? fun f=>f.blk==b
def flt0:Flt:=⟨0,false,0⟩
theorem c_find(M:Mem)(hw:M.WF)(x:AV)(fs:List Flt)(hx:FltsAt M x fs)(hl:fs.length≤1000)(b:Int):
 CallA tb.P 66 [x,i64 b] M fun y N=>y= .tup [fltA ((findF fs b).getD flt0),.val (.bool (findF fs b).isSome)]∧Keep M N []:=by
 refine F66_ok ?_
 unfold F66
 simp only[letP_eq,i64,zZi]
 have hK:=Keep.new hw (.cells [i64 b] true)
 have hK2:=Keep.new hK.wf (.cells (fltC flt0) true)
 have hq:=hK2.get hK.wf (get_new M (.cells [i64 b] true)) (by simp)
 have hf2:=get_new (M.new (.cells [i64 b] true)) (.cells (fltC flt0) true)
 have hk2:=hK.trans0 hK2
 refine (c_index _ hK2.wf x fs (SlAt.keep0 hx hw hk2) hl M.next b hq).mono ?_
 rintro y N ⟨hk,h⟩
 have hfN:=hk.get hK2.wf hf2 (by simp)
 have hall:=hk2.trans0 hk
 have hxN:FltsAt N x fs:=SlAt.keep0 hx hw hall
 have fin:∀ f:Flt,Keep M (N.put (M.new (.cells [i64 b] true)).next (.cells (fltC f) true)) []:=fun f=>by
  refine hall.trans (Keep.put hk.wf (hk.wf _ _ hfN) _) (by simp) (fun c hc hlt=>?_)
  simp only[List.mem_singleton] at hc
  subst hc
  exact absurd hlt (by simp)
 have res:∀ (f:Flt) (o:Bool),eRes tb [.c 72 (.ptr (M.new (.cells [i64 b] true)).next 0),.v (.val (.bool o))] (N.put (M.new (.cells [i64 b] true)).next (.cells (fltC f) true))=some (.tup [fltA f,.val (.bool o)]):=fun f o=>by
  obtain⟨_,_,_,la⟩:=flt_ld (f:=f) (b:=(M.new (.cells [i64 b] true)).next) (M:=N.put (M.new (.cells [i64 b] true)).next (.cells (fltC f) true)) (rw':=true) (by rw[Mem.get_put,if_pos rfl])
  unfold eRes resC resC resC
  simp only[la,Option.map_some]
 rcases h with⟨i,hi,rfl,hb,hne⟩|⟨rfl,hne⟩
 ·have hfind:findF fs b=some fs[i]:=by
   unfold findF
   rw[List.find?_eq_some_iff_getElem]
   exact⟨by simpa using hb,i,hi,rfl,fun j hj=>by simpa using hne j hj⟩
  rw[hfind]
  simp only[i64,zZi]
  refine cZi (fun h=>by exfalso;simp at h;omega) (fun _=>?_)
  obtain⟨p,o,h1,h2⟩:=hxN.at hi
  refine bZi (eIA_some h1) ?_
  simp only[zZp]
  refine bZi (lZs h2) ?_
  refine⟨_,_,_,rfl,?_⟩
  refine bZi (sZs (flt_st fs[i] hfN rfl)) ?_
  refine bZi (res fs[i] true) ?_
  exact⟨rfl,fin _⟩
 ·have hfind:findF fs b=none:=by
   unfold findF
   rw[List.find?_eq_none]
   exact fun f hf=>by simpa using hne f hf
  rw[hfind]
  simp only[i64,zZi]
  refine cZi (fun _=>?_) (fun h=>by simp at h)
  refine bZi (sZs (flt_st flt0 hfN rfl)) ?_
  refine bZi (res flt0 false) ?_
  exact⟨rfl,fin _⟩
def failsF(fs:List Flt)(b d:Int):Bool:=match findF fs b with
 | some f=>decide (f.aft≤d)
 | none=>false
def badF(fs:List Flt)(b:Int):Bool:=match findF fs b with
 | some f=>f.fac
 | none=>false
theorem c_fails(M:Mem)(hw:M.WF)(x:AV)(fs:List Flt)(hx:FltsAt M x fs)(hl:fs.length≤1000)(b d:Int):CallA tb.P 94 [x,i64 b,i64 d] M fun y N=>y= .val (.bool (failsF fs b d))∧Keep M N []:=by
 refine F94_ok ?_
 unfold F94
 simp only[i64,zZi]
 refine (c_find M hw x fs hx hl b).mono ?_
 rintro y N ⟨rfl,hk⟩
 refine⟨_,_,_,_,rfl,?_⟩
 simp only[letP_eq]
 have hK:=Keep.new hk.wf (.cells (fltC flt0) true)
 refine bZi (sZs (flt_st _ (get_new N (.cells (fltC flt0) true)) rfl)) ?_
 rw[Mem.new_put]
 have hK2:=hk.trans0 (Keep.new hk.wf (.cells (fltC ((findF fs b).getD flt0)) true))
 obtain⟨_,_,l2,_⟩:=flt_ld (get_new N (.cells (fltC ((findF fs b).getD flt0)) true))
 unfold failsF
 cases hfd:findF fs b with
 | none=>exact⟨rfl,by rw[hfd] at hK2;exact hK2⟩
 | some f=>
   rw[hfd] at l2 hK2
   simp only[Option.isSome_some,cZt]
   refine bZi (lZs l2) ?_
   simp only[i64,zZi]
   exact⟨rfl,hK2⟩
theorem c_bad(M:Mem)(hw:M.WF)(x:AV)(fs:List Flt)(hx:FltsAt M x fs)(hl:fs.length≤1000)(b:Int):CallA tb.P 70 [x,i64 b] M fun y N=>y= .val (.bool (badF fs b))∧Keep M N []:=by
 refine F70_ok ?_
 unfold F70
 simp only[i64,zZi]
 refine (c_find M hw x fs hx hl b).mono ?_
 rintro y N ⟨rfl,hk⟩
 refine⟨_,_,_,_,rfl,?_⟩
 simp only[letP_eq]
 refine bZi (sZs (flt_st _ (get_new N (.cells (fltC flt0) true)) rfl)) ?_
 rw[Mem.new_put]
 have hK2:=hk.trans0 (Keep.new hk.wf (.cells (fltC ((findF fs b).getD flt0)) true))
 obtain⟨_,l1,_⟩:=flt_ld (get_new N (.cells (fltC ((findF fs b).getD flt0)) true))
 unfold badF
 cases hfd:findF fs b with
 | none=>exact⟨rfl,by rw[hfd] at hK2;exact hK2⟩
 | some f=>
   rw[hfd] at l1 hK2
   simp only[Option.isSome_some,cZt]
   refine bZi (lZs l1) ?_
   simp only[zZb]
   exact⟨rfl,hK2⟩
def bump(M:Mem):Mem:=⟨M.next+1,M.rows⟩
theorem bump_wf{M:Mem}(h:M.WF):(bump M).WF:=fun b r hb=>by have:=h b r hb;show b<M.next+1;omega
theorem bump_keep{M:Mem}(h:M.WF):Keep M (bump M) []:=⟨bump_wf h,Nat.le_succ _,fun _ _ _=>rfl⟩
theorem bump_put{M N:Mem}(hw:M.WF)(hk:Keep (bump M) N [])(r:Row):Keep M (N.put M.next r) []:=
 ⟨hk.wf.put (Nat.lt_of_lt_of_le (Nat.lt_succ_self _) hk.nxt) r,Nat.le_trans (Nat.le_succ _) hk.nxt,fun b hb _=>by
  rw[Mem.get_put,if_neg (by omega)]
  exact hk.old b (by show b<M.next+1;omega) (by simp)⟩
def okF(g:Geo)(pre:List Flt)(f:Flt):Bool:=
 !((findF pre f.blk).isSome||(decide (f.blk<0)||(decide (f.blk≥g.bl)||(decide (f.aft<0)||(decide (f.aft>1073741824)||(f.fac&&(f.aft != 0)))))))
def mayP(g:Geo)(fs:List Flt):Bool:=mayG g&&decide (fs.length≤8)&&(List.range fs.length).all fun i=>okF g (fs.take i) (fs.getD i flt0)
theorem FltsAt.take{M:Mem}{x:AV}{fs:List Flt}(h:FltsAt M x fs){i:Nat}(hi:i≤fs.length):∃ y,evSliceAt tb 24 x none (some (.val (.int .i64 (i:Int)))) none=some y∧FltsAt M y (fs.take i):=by
 obtain⟨y,h1,h2,_⟩:=SlAt.slice h ty24 rfl ty72 rfl (lo:=none) (hi:=some (.val (.int .i64 (i:Int)))) (l:=0) (r:=i) (k1:= .i64) (k2:= .i64) (.inl ⟨rfl,rfl⟩) (.inr rfl) (Nat.zero_le _) hi
 refine⟨y,h1,?_⟩
 unfold FltsAt
 have e1:(fs.take i).length=i-0:=by rw[List.length_take];omega
 have e2:(fs.take i).flatMap fltC=((fs.flatMap fltC).drop (0*3)).take ((i-0)*3):=by
  rw[Nat.zero_mul,List.drop_zero,Nat.sub_zero]
  conv=>rhs;rw[← List.take_append_drop i fs,List.flatMap_append]
  rw[List.take_left' (by rw[flat_length fltC_len,List.length_take,Nat.min_eq_left hi])]
 rw[e1,e2]
 exact h2
theorem c_mayP(M:Mem)(hw:M.WF)(g:Geo)(x:AV)(fs:List Flt)(hx:FltsAt M x fs)(hfl:fs.length≤9223372036854775807):CallA tb.P 37 [geoA g,x] M fun y N=>y= .val (.bool (mayP g fs))∧Keep M N []:=by
 refine F37_ok ?_
 unfold F37
 refine⟨_,_,_,_,_,rfl,?_⟩
 refine lZi fun M6 hM6=>?_
 have hM6':M6=M.new (.cells (geoC g) true):=hM6
 have hK:Keep M M6 []:=by rw[hM6'];exact Keep.new hw _
 have hg:M6.get M.next=some (.cells (geoC g) true):=by rw[hM6'];exact get_new _ _
 clear hM6 hM6'
 refine lZi fun K20 hK20=>?_
 obtain⟨_,_,_,_,_,l5⟩:=geo_ld hg
 refine bZi (lZs l5) ?_
 refine⟨_,_,_,_,_,rfl,?_⟩
 refine (c_may102 M6 hK.wf g).mono ?_
 rintro y N ⟨rfl,hk⟩
 simp only[zZb]
 have hk1:=hK.trans0 hk
 have hgN:=hk.get hK.wf hg (by simp)
 have hxN:FltsAt N x fs:=SlAt.keep0 hx hw hk1
 refine cZi (fun h=>?_) (fun hm=>?_)
 ·have h:mayG g=false:=by simpa using h
  rw[hK20]
  refine cZi (fun _=>⟨?_,hk1⟩) (fun h=>by cases h)
  unfold mayP
  rw[h];rfl
 have hm:mayG g=true:=by simpa using hm
 refine bZi (lZl hxN.len) ?_
 simp only[zZi]
 rw[hK20]
 clear hK20 K20
 refine cZi (fun h=>⟨?_,hk1⟩) (fun h=>?_)
 ·have h:¬ fs.length≤8:=by have:(8:Int)<fs.length:=by simpa using h
                           omega
  unfold mayP
  rw[decide_eq_false h,Bool.and_false,Bool.false_and]
 have h8:fs.length≤8:=by have:¬ ((fs.length:Int)>8):=by simpa using h
                         omega
 clear h
 refine bZi (lZl hxN.len) ?_
 simp only[zZi]
 refine⟨fun z n P=>∃ i:Nat,z=i∧n=fs.length-i∧i≤fs.length∧Keep N P []∧∀ j,j<i→okF g (fs.take j) (fs.getD j flt0)=true,⟨fs.length,0,rfl,rfl,Nat.zero_le _,Keep.refl hk.wf,fun j h=>by omega⟩,?_⟩
 rintro _ z n P ⟨i,rfl,rfl,hi,hkP,hok⟩
 have hxP:FltsAt P x fs:=SlAt.keep0 hxN hk.wf hkP
 have hall:=hk1.trans0 hkP
 refine cZi (fun hlt=>?_) (fun hge=>?_)
 rotate_left
 ·have hge:i=fs.length:=by have:¬ (i:Int)<fs.length:=by simpa using hge
                           omega
  subst hge
  refine⟨?_,hall⟩
  unfold mayP
  rw[hm,decide_eq_true h8,List.all_eq_true.2 (fun j hj=>hok j (List.mem_range.1 hj))]
  rfl
 have hlt:i<fs.length:=by simpa using hlt
 obtain⟨p,o,h1,h2⟩:=hxP.at hlt
 have hgd:fs.getD i flt0=fs[i]:=by rw[List.getD_eq_getElem?_getD,List.getElem?_eq_getElem hlt];rfl
 generalize hf:fs[i]=f at*
 refine bZi (eIA_some h1) ?_
 simp only[zZp]
 refine bZi (lZs h2) ?_
 refine⟨_,_,_,rfl,?_⟩
 refine lZi fun M35 hM35=>?_
 subst hM35
 refine bZi (sZs (flt_st f (get_new P (.cells (fltC flt0) true)) rfl)) ?_
 rw[Mem.new_put]
 have hP1:=Keep.new hkP.wf (.cells (fltC f) true)
 have hf1:=get_new P (.cells (fltC f) true)
 generalize hPn:P.new (.cells (fltC f) true)=P1 at hP1 hf1
 have hb:=bump_keep hP1.wf
 refine lZi fun M37 hM37=>?_
 have hM37':M37=bump P1:=hM37
 subst hM37'
 show bindO (eSl tb 24 x none (some (.val (.int .i64 (i:Int)))) none (bump P1)) _
 have hf2:=hb.get hP1.wf hf1 (by simp)
 have hx2:FltsAt (bump P1) x fs:=SlAt.keep0 hxP hkP.wf (hP1.trans0 hb)
 obtain⟨y,h3,h4⟩:=hx2.take (i:=i) (by omega)
 refine bZi (eSl_some h3) ?_
 obtain⟨l0,_⟩:=flt_ld hf2
 refine bZi (lZs l0) ?_
 simp only[i64,zZi]
 refine (c_find _ hb.wf y _ h4 (by rw[List.length_take];omega) f.blk).mono ?_
 rintro y N2 ⟨rfl,hk2⟩
 refine⟨_,_,_,_,rfl,?_⟩
 refine lZi fun M47 hM47=>?_
 subst hM47
 have hp:=bump_put hP1.wf hk2 (.cells (fltC ((findF (fs.take i) f.blk).getD flt0)) true)
 have hst:=flt_st ((findF (fs.take i) f.blk).getD flt0) (M:=N2.put P1.next (.cells (fltC flt0) true)) (b:=P1.next) (by rw[Mem.get_put,if_pos rfl]) rfl
 rw[Mem.put_put] at hst
 refine bZi (sZs hst) ?_
 have hf3:=hp.get hP1.wf hf1 (by simp)
 have hkk:=hkP.trans0 (hP1.trans0 hp)
 have hg3:=hkk.get hk.wf hgN (by simp)
 have hall3:=hk1.trans0 hkk
 obtain⟨m0,m1,m2,_⟩:=flt_ld hf3
 obtain⟨g0,_⟩:=geo_ld hg3
 generalize N2.put P1.next (.cells (fltC ((findF (fs.take i) f.blk).getD flt0)) true)=N3 at*
 refine lZi fun K hKK=>?_
 have bad:okF g (fs.take i) f=false→K true:=fun h=>by
  rw[hKK]
  refine⟨?_,hall3⟩
  unfold mayP
  rw[List.all_eq_false.2 ⟨i,List.mem_range.2 hlt,by rw[hgd,h];simp⟩,Bool.and_false]
 have good:okF g (fs.take i) f=true→K false:=fun h=>by
  rw[hKK]
  refine⟨fs.length-(i+1),by omega,i+1,iInc (by omega),rfl,hlt,hkk,fun j hj=>?_⟩
  by_cases hji:j=i
  ·subst hji;rw[hgd];exact h
  ·exact hok j (by omega)
 have step:∀ b:Bool,b= !okF g (fs.take i) f→K b:=fun b hb=>by
  cases b with
  | true=>exact bad (by simpa using hb)
  | false=>exact good (by simpa using hb)
 unfold okF at step
 simp only[Bool.not_not] at step
 refine cZi (fun q=>step true (by rw[q];rfl)) (fun q=>?_)
 rw[q,Bool.false_or] at step
 refine bZi (lZs m0) ?_
 simp only[i64,zZi]
 refine cZi (fun q=>step true (by rw[q];rfl)) (fun q=>?_)
 rw[q,Bool.false_or] at step
 refine bZi (lZs m0) ?_
 simp only[i64,zZi]
 refine bZi (lZs g0) ?_
 simp only[i64,zZi]
 refine cZi (fun q=>step true (by rw[q];rfl)) (fun q=>?_)
 rw[q,Bool.false_or] at step
 refine bZi (lZs m2) ?_
 simp only[i64,zZi]
 refine cZi (fun q=>step true (by rw[q];rfl)) (fun q=>?_)
 rw[q,Bool.false_or] at step
 refine bZi (lZs m2) ?_
 simp only[i64,zZi]
 refine cZi (fun q=>step true (by rw[q];rfl)) (fun q=>?_)
 rw[q,Bool.false_or] at step
 refine bZi (lZs m1) ?_
 simp only[zZb]
 refine cZi (fun q=>?_) (fun q=>step false (by rw[q];rfl))
 rw[q,Bool.true_and] at step
 refine bZi (lZs m2) ?_
 simp only[i64,zZi]
 exact step _ rfl
def Apart(fs:List Flt):Prop:=∀ f∈fs,∀ h∈fs,f.blk=h.blk→f=h
structure Blk where
 b:Nat
 by':List (BitVec 8)
 next:Int
 wear:Int
 done:Int
def blkC(B:Blk):List AV:=[.sl B.b 0 B.by'.length B.by'.length none,i64 B.next,i64 B.wear,i64 B.done]
theorem blkC_len(B:Blk):(blkC B).length=4:=rfl
structure Chip where
 g:Geo
 fsA:AV
 fs:List Flt
 bb:Nat
 bs:List Blk
 off:Bool
 ops:Int
 cuts:Int
 cop:Int
 cby:Int
 cf:BitVec 8
 turn:Int
def blksA(C:Chip):AV:= .sl C.bb 0 C.bs.length C.bs.length (some 4)
def chipC(C:Chip):List AV:=[i64 C.g.bl,i64 C.g.pg,i64 C.g.by',i64 C.g.sp,i64 C.g.tr,C.fsA,blksA C,.val (.bool C.off),i64 C.ops,i64 C.cuts,i64 C.cop,i64 C.cby,bv8 C.cf,i64 C.turn]
def foot(p:Nat)(C:Chip):List Nat:=p::C.bb::C.bs.map (·.b)
structure ChipAt (M:Mem) (p:Nat) (C:Chip):Prop where
 main:M.get p=some (.cells (chipC C) true)
 tab:M.get C.bb=some (.cells (C.bs.flatMap blkC) true)
 dat:∀ B∈C.bs,M.get B.b=some (.cells (bvs B.by') true)
 flt:FltsAt M C.fsA C.fs
 nd:(foot p C).Nodup
 fsx:∀ c,inBlk C.fsA c→c∉foot p C
 one:C.fsA.one=true
 fsl:C.fs.length≤8
 may:mayG C.g=true
 len:C.bs.length=C.g.bl.toNat
 ful:∀ B∈C.bs,B.by'.length=C.g.pg.toNat*rawN C.g
 cby0:0≤C.cby
theorem ChipAt.keep{M N:Mem}{p:Nat}{C:Chip}(h:ChipAt M p C)(hw:M.WF)(hk:Keep M N []):ChipAt N p C:=
 ⟨hk.get hw h.main (by simp),hk.get hw h.tab (by simp),fun B hB=>hk.get hw (h.dat B hB) (by simp),SlAt.keep0 h.flt hw hk,h.nd,h.fsx,h.one,h.fsl,h.may,h.len,h.ful,h.cby0⟩
theorem ChipAt.keepS{M N:Mem}{p:Nat}{C:Chip}{S:List Nat}(h:ChipAt M p C)(hw:M.WF)(hk:Keep M N S)(hs:∀ b∈S,b∉foot p C∧¬ inBlk C.fsA b):ChipAt N p C:=by
 have hn:∀ b∈foot p C,b∉S:=fun b hb hS=>(hs b hS).1 hb
 refine⟨hk.get hw h.main (hn _ (by simp[foot])),hk.get hw h.tab (hn _ (by simp[foot])),fun B hB=>hk.get hw (h.dat B hB) (hn _ ?_),SlAt.keep h.flt hw hk (fun b hb hS=>(hs b hS).2 hb),h.nd,h.fsx,h.one,h.fsl,h.may,h.len,h.ful,h.cby0⟩
 simp only[foot,List.mem_cons,List.mem_map]
 exact .inr (.inr ⟨B,hB,rfl⟩)
structure Step (M N:Mem) (p:Nat) (C C':Chip):Prop where
 at':ChipAt N p C'
 keep:Keep M N (foot p C)
 foot:foot p C'=foot p C
 fsA:C'.fsA=C.fsA
 fs:C'.fs=C.fs
 g:C'.g=C.g
theorem Step.refl{M:Mem}{p:Nat}{C:Chip}(hw:M.WF)(h:ChipAt M p C):Step M M p C C:=⟨h,Keep.refl hw,rfl,rfl,rfl,rfl⟩
theorem Step.of0{M N:Mem}{p:Nat}{C:Chip}(hw:M.WF)(h:ChipAt M p C)(hk:Keep M N []):Step M N p C C:=⟨h.keep hw hk,hk.mono (by simp),rfl,rfl,rfl,rfl⟩
theorem Step.trans{M N P:Mem}{p:Nat}{C C' C'':Chip}(h:Step M N p C C')(k:Step N P p C' C''):Step M P p C C'':=
 ⟨k.at',h.keep.trans k.keep (fun _ h _=>h) (fun _ hb _=>h.foot▸hb),k.foot.trans h.foot,k.fsA.trans h.fsA,k.fs.trans h.fs,k.g.trans h.g⟩
theorem Step.pre{M N P:Mem}{p:Nat}{C C':Chip}(h:Keep M N [])(k:Step N P p C C'):Step M P p C C':=
 ⟨k.at',h.trans k.keep (by simp) (fun _ hb _=>hb),k.foot,k.fsA,k.fs,k.g⟩
theorem Step.wf{M N:Mem}{p:Nat}{C C':Chip}(h:Step M N p C C'):N.WF:=h.keep.wf
theorem Step.post{M N P:Mem}{p:Nat}{C C':Chip}(h:Step M N p C C')(k:Keep N P []):Step M P p C C':=
 ⟨h.at'.keep h.wf k,h.keep.trans k (fun _ h _=>h) (by simp),h.foot,h.fsA,h.fs,h.g⟩
theorem nd_p{p:Nat}{C:Chip}(h:(foot p C).Nodup):p≠C.bb∧∀ B∈C.bs,p≠B.b∧C.bb≠B.b:=by
 unfold foot at h
 rw[List.nodup_cons,List.nodup_cons] at h
 simp only[List.mem_cons,List.mem_map,not_or,not_exists,not_and] at h
 exact⟨h.1.1,fun B hB=>⟨fun e=>h.1.2 B hB e.symm,fun e=>h.2.1 B hB e.symm⟩⟩
theorem ChipAt.set{M:Mem}{p:Nat}{C:Chip}(h:ChipAt M p C)(hw:M.WF)(C':Chip)(h1:C'.g=C.g)(h2:C'.fsA=C.fsA)(h3:C'.fs=C.fs)(h4:C'.bb=C.bb)(h5:C'.bs=C.bs)(h6:0≤C'.cby):
 Step M (M.put p (.cells (chipC C') true)) p C C':=by
 have hp:=nd_p h.nd
 have hf:_root_.Go.Proofs.YtlogedcoiogagaaGreat.foot p C'=_root_.Go.Proofs.YtlogedcoiogagaaGreat.foot p C:=by unfold foot;rw[h4,h5]
 refine⟨⟨by rw[Mem.get_put,if_pos rfl],?_,?_,?_,by rw[hf];exact h.nd,by rw[hf,h2];exact h.fsx,by rw[h2];exact h.one,by rw[h3];exact h.fsl,by rw[h1];exact h.may,by rw[h1,h5];exact h.len,by rw[h1,h5];exact h.ful,h6⟩,
  (Keep.put hw (hw _ _ h.main) _).mono (fun b hb _=>by simp only[List.mem_singleton] at hb;subst hb;simp[foot]),hf,h2,h3,h1⟩
 ·rw[h4,h5,Mem.get_put,if_neg (fun e=>hp.1 e.symm)];exact h.tab
 ·rw[h5]
  intro B hB
  rw[Mem.get_put,if_neg (fun e=>(hp.2 B hB).1 e.symm)];exact h.dat B hB
 ·rw[h2,h3]
  refine SlAt.mono h.flt fun b r hb hr=>?_
  rw[Mem.get_put,if_neg (fun e=>h.fsx b hb (by rw[e];simp[foot]))];exact hr
theorem map_set_b{bs:List Blk}{i:Nat}{B':Blk}(hi:i<bs.length)(hb:B'.b=bs[i].b):(bs.set i B').map (·.b)=bs.map (·.b):=by
 rw[List.map_set]
 apply List.ext_getElem?
 intro j
 rw[List.getElem?_set]
 by_cases hj:i=j
 ·subst hj
  rw[if_pos rfl,if_pos (by simpa using hi),List.getElem?_map,List.getElem?_eq_getElem hi]
  simp[hb]
 ·rw[if_neg hj]
theorem mem_set{bs:List Blk}{i:Nat}{B B':Blk}(h:B∈bs.set i B'):B∈bs∨B=B':=(List.mem_or_eq_of_mem_set h)
theorem ChipAt.setB{M:Mem}{p:Nat}{C:Chip}(h:ChipAt M p C)(hw:M.WF){i:Nat}(hi:i<C.bs.length)(B':Blk)(hb:B'.b=C.bs[i].b)(hy:B'.by'=C.bs[i].by'):
 Step M (M.put C.bb (.cells ((C.bs.set i B').flatMap blkC) true)) p C { C with bs:=C.bs.set i B' }:=by
 have hp:=nd_p h.nd
 have hf:_root_.Go.Proofs.YtlogedcoiogagaaGreat.foot p { C with bs:=C.bs.set i B' }=_root_.Go.Proofs.YtlogedcoiogagaaGreat.foot p C:=by unfold foot;simp only;rw[map_set_b hi hb]
 have hB:∀ B∈C.bs.set i B',∃ B0∈C.bs,B.b=B0.b∧B.by'=B0.by':=fun B hB=>by
  rcases mem_set hB with h1|rfl
  ·exact⟨B,h1,rfl,rfl⟩
  ·exact⟨_,List.getElem_mem hi,hb,hy⟩
 refine⟨⟨?_,by rw[Mem.get_put,if_pos rfl],?_,?_,by rw[hf];exact h.nd,by rw[hf];exact h.fsx,h.one,h.fsl,h.may,by simpa using h.len,?_,h.cby0⟩,
  (Keep.put hw (hw _ _ h.tab) _).mono (fun b hb _=>by simp only[List.mem_singleton] at hb;subst hb;simp[foot]),hf,rfl,rfl,rfl⟩
 ·rw[Mem.get_put,if_neg hp.1,h.main]
  simp[chipC,blksA]
 ·intro B hBm
  obtain⟨B0,h1,h2,h3⟩:=hB B hBm
  rw[Mem.get_put,h2,h3,if_neg (fun e=>(hp.2 B0 h1).2 e.symm)];exact h.dat B0 h1
 ·refine SlAt.mono h.flt fun b r hb hr=>?_
  rw[Mem.get_put,if_neg (fun e=>h.fsx b hb (by rw[e];simp[foot]))];exact hr
 ·intro B hBm
  obtain⟨B0,h1,h2,h3⟩:=hB B hBm
  rw[h3];exact h.ful B0 h1
theorem nd_b{p:Nat}{C:Chip}(h:(foot p C).Nodup){i j:Nat}(hi:i<C.bs.length)(hj:j<C.bs.length)(he:C.bs[i].b=C.bs[j].b):i=j:=by
 unfold foot at h
 rw[List.nodup_cons,List.nodup_cons] at h
 have:=h.2.2
 exact (List.getElem_inj (h₀:=by simpa using hi) (h₁:=by simpa using hj) this).1 (by simpa using he)
theorem ChipAt.setD{M:Mem}{p:Nat}{C:Chip}(h:ChipAt M p C)(hw:M.WF){i:Nat}(hi:i<C.bs.length)(l:List (BitVec 8))(hl:l.length=C.bs[i].by'.length):
 Step M (M.put C.bs[i].b (.cells (bvs l) true)) p C { C with bs:=C.bs.set i { C.bs[i] with by':=l } }:=by
 have hp:=nd_p h.nd
 have hBi:=hp.2 _ (List.getElem_mem hi)
 have hf:_root_.Go.Proofs.YtlogedcoiogagaaGreat.foot p { C with bs:=C.bs.set i { C.bs[i] with by':=l } }=_root_.Go.Proofs.YtlogedcoiogagaaGreat.foot p C:=by unfold foot;simp only;rw[map_set_b (B':={ C.bs[i] with by':=l }) hi rfl]
 have hc:(C.bs.set i { C.bs[i] with by':=l }).flatMap blkC=C.bs.flatMap blkC:=by
  have h1:blkC { C.bs[i] with by':=l }=(blkC C.bs[i]).set 1 (i64 C.bs[i].next):=by unfold blkC;simp[hl]
  rw[← flat_set blkC_len hi (by omega) h1]
  have h2:=flat_get blkC_len hi (j:=1) (by omega)
  apply List.ext_getElem?
  intro j
  rw[List.getElem?_set]
  by_cases hj:i*4+1=j
  ·subst hj
   rw[if_pos rfl,h2]
   split
   ·rfl
   ·rename_i hlt
    exfalso;apply hlt
    rw[flat_length blkC_len];omega
  ·rw[if_neg hj]
 refine⟨⟨?_,?_,?_,?_,by rw[hf];exact h.nd,by rw[hf];exact h.fsx,h.one,h.fsl,h.may,by simpa using h.len,?_,h.cby0⟩,
  (Keep.put hw (hw _ _ (h.dat _ (List.getElem_mem hi))) _).mono (fun b hb _=>by
   simp only[List.mem_singleton] at hb;subst hb
   simp only[foot,List.mem_cons,List.mem_map]
   exact .inr (.inr ⟨_,List.getElem_mem hi,rfl⟩)),hf,rfl,rfl,rfl⟩
 ·rw[Mem.get_put,if_neg hBi.1,h.main]
  simp[chipC,blksA]
 ·show (M.put _ _).get C.bb=_
  rw[Mem.get_put,if_neg hBi.2,hc];exact h.tab
 ·intro B hBm
  obtain⟨j,hj,rfl⟩:=List.getElem_of_mem hBm
  have hj':j<C.bs.length:=by simpa using hj
  rw[List.getElem_set]
  by_cases hji:i=j
  ·subst hji
   rw[if_pos rfl,Mem.get_put,if_pos rfl]
  ·rw[if_neg hji,Mem.get_put,if_neg (fun e=>hji (nd_b h.nd hj' hi e).symm)]
   exact h.dat _ (List.getElem_mem hj')
 ·refine SlAt.mono h.flt fun b r hb hr=>?_
  rw[Mem.get_put,if_neg (fun e=>h.fsx b hb (by
   rw[e]
   simp only[foot,List.mem_cons,List.mem_map]
   exact .inr (.inr ⟨_,List.getElem_mem hi,rfl⟩)))];exact hr
 ·intro B hBm
  rcases mem_set hBm with h1|rfl
  ·exact h.ful B h1
  ·rw[hl];exact h.ful _ (List.getElem_mem hi)
theorem ty75:tb.ty.get 75=some ⟨.st [(0,5,true),(5,1,false),(6,1,false),(7,1,false),(8,1,false),(9,1,false),(10,3,true),(13,1,false)],14,144,[.int .i64 0,.int .i64 0,.int .i64 0,.int .i64 0,.int .i64 0,.slice none 0 0,.slice none 0 0,.bool false,.int .i64 0,.int .i64 0,.int .i64 0,.int .i64 0,.int .u8 0,.int .i64 0],some [23,24,73,4,3,3,62,3]⟩:=by kernel_rfl
theorem ty73:tb.ty.get 73=some ⟨.sli 78,1,24,[.slice none 0 0],none⟩:=by kernel_rfl
theorem ty78:tb.ty.get 78=some ⟨.st [(0,1,false),(1,1,false),(2,1,false),(3,1,false)],4,48,[.slice none 0 0,.int .i64 0,.int .i64 0,.int .i64 0],some [37,3,3,3]⟩:=by kernel_rfl
section
variable {p:Nat} {M:Mem}
theorem fa0:eFA tb 75 (.ptr p 0) 0 M=some (.ptr p 0,M):=eFA_some (by unfold eZf;rw[ty75];rfl)
theorem fa1:eFA tb 75 (.ptr p 0) 1 M=some (.ptr p 5,M):=eFA_some (by unfold eZf;rw[ty75];rfl)
theorem fa2:eFA tb 75 (.ptr p 0) 2 M=some (.ptr p 6,M):=eFA_some (by unfold eZf;rw[ty75];rfl)
theorem fa3:eFA tb 75 (.ptr p 0) 3 M=some (.ptr p 7,M):=eFA_some (by unfold eZf;rw[ty75];rfl)
theorem fa4:eFA tb 75 (.ptr p 0) 4 M=some (.ptr p 8,M):=eFA_some (by unfold eZf;rw[ty75];rfl)
theorem fa5:eFA tb 75 (.ptr p 0) 5 M=some (.ptr p 9,M):=eFA_some (by unfold eZf;rw[ty75];rfl)
theorem fa6:eFA tb 75 (.ptr p 0) 6 M=some (.ptr p 10,M):=eFA_some (by unfold eZf;rw[ty75];rfl)
theorem fa7:eFA tb 75 (.ptr p 0) 7 M=some (.ptr p 13,M):=eFA_some (by unfold eZf;rw[ty75];rfl)
variable {C:Chip} (h:ChipAt M p C)
include h
theorem ld_g:eLd tb 23 (.ptr p 0) M=some (geoA C.g,M):=lZs (ld_agg (n:=5) ty23 rfl rfl h.main (by simp[chipC]))
theorem ld_pg:eLd tb 3 (.ptr p 1) M=some (i64 C.g.pg,M):=lZs (lZc ty3 rfl h.main rfl)
theorem ld_fs:eLd tb 24 (.ptr p 5) M=some (C.fsA,M):=lZs (lZc ty24 rfl h.main rfl)
theorem ld_bs:eLd tb 73 (.ptr p 6) M=some (blksA C,M):=lZs (lZc ty73 rfl h.main rfl)
theorem ld_off:eLd tb 4 (.ptr p 7) M=some (.val (.bool C.off),M):=lZs (lZc ty4 rfl h.main rfl)
theorem ld_ops:eLd tb 3 (.ptr p 8) M=some (i64 C.ops,M):=lZs (lZc ty3 rfl h.main rfl)
theorem ld_cuts:eLd tb 3 (.ptr p 9) M=some (i64 C.cuts,M):=lZs (lZc ty3 rfl h.main rfl)
theorem ld_cby:eLd tb 3 (.ptr p 11) M=some (i64 C.cby,M):=lZs (lZc ty3 rfl h.main rfl)
theorem ld_cf:eLd tb 5 (.ptr p 12) M=some (bv8 C.cf,M):=lZs (lZc ty5 rfl h.main rfl)
theorem ld_turn:eLd tb 3 (.ptr p 13) M=some (i64 C.turn,M):=lZs (lZc ty3 rfl h.main rfl)
theorem len_bs:eLen tb false 73 (blksA C) M=some (i64 (C.bs.length:Int),M):=lZl (by unfold evLenCap blksA;rw[ty73];rfl)
theorem ia_bs{i:Nat}(hi:i<C.bs.length):eIA tb 73 (blksA C) (.val (.int .i64 (i:Int))) M=some (.ptr C.bb (i*4),M):=eIA_some (by
 unfold evIndexAddr blksA
 rw[ty73]
 have h0:decide (0≤(i:Int))=true:=by simp
 simp only[ty78,Int.toNat_natCast,blt_of hi,cond_true,h0,Nat.zero_add])
theorem ld_by{i:Nat}(hi:i<C.bs.length):eLd tb 37 (.ptr C.bb (i*4)) M=some (.sl C.bs[i].b 0 C.bs[i].by'.length C.bs[i].by'.length none,M):=lZs (lZc ty37 rfl h.tab (by
 have:=flat_get blkC_len hi (j:=0) (by omega)
 rw[Nat.add_zero] at this;rw[this];rfl))
theorem ld_next{i:Nat}(hi:i<C.bs.length):eLd tb 3 (.ptr C.bb (i*4+1)) M=some (i64 C.bs[i].next,M):=lZs (lZc ty3 rfl h.tab (by rw[flat_get blkC_len hi (by omega)];rfl))
theorem ld_wear{i:Nat}(hi:i<C.bs.length):eLd tb 3 (.ptr C.bb (i*4+2)) M=some (i64 C.bs[i].wear,M):=lZs (lZc ty3 rfl h.tab (by rw[flat_get blkC_len hi (by omega)];rfl))
theorem ld_done{i:Nat}(hi:i<C.bs.length):eLd tb 3 (.ptr C.bb (i*4+3)) M=some (i64 C.bs[i].done,M):=lZs (lZc ty3 rfl h.tab (by rw[flat_get blkC_len hi (by omega)];rfl))
theorem ld_blk{i:Nat}(hi:i<C.bs.length):eLd tb 78 (.ptr C.bb (i*4)) M=some (.agg (blkC C.bs[i]),M):=lZs (by
 rw[ld_agg (n:=4) ty78 rfl rfl h.tab (by rw[flat_length blkC_len];omega),flat_at blkC_len hi])
theorem st_chip{t:TypeId}{ti:TI}{o:Nat}{v:AV}(C':Chip)(ht:tb.ty.get t=some ti)(hs:ti.size=1)(hv:v.one=true)(ho:o<14)(hc:chipC C'=(chipC C).set o v):
 eSt tb t (.ptr p o) v M=some (uZa,M.put p (.cells (chipC C') true)):=by
 rw[hc]
 exact sZs (st_cell ht hs hv h.main (by simpa[chipC] using ho))
theorem st_blk{i j:Nat}(hi:i<C.bs.length){z:Int}(B':Blk)(hj:j<4)(hc:blkC B'=(blkC C.bs[i]).set j (i64 z)):
 eSt tb 3 (.ptr C.bb (i*4+j)) (i64 z) M=some (uZa,M.put C.bb (.cells ((C.bs.set i B').flatMap blkC) true)):=by
 rw[← flat_set blkC_len hi hj hc]
 exact sZs (st_cell ty3 rfl rfl h.tab (by rw[flat_length blkC_len];omega))
end
theorem nil_eq{p:Nat}{M:Mem}{xo yo:Operand}:eBin tb .eql 28 xo yo (.ptr p 0) (.val (.pointer none)) M=some (.val (.bool false),M):=eBin_some (by kernel_rfl)
theorem nil_ne{p:Nat}{M:Mem}{xo yo:Operand}:eBin tb .neq 28 xo yo (.ptr p 0) (.val (.pointer none)) M=some (.val (.bool true),M):=eBin_some (by kernel_rfl)
def bgn(C:Chip):Bool:= !(C.turn==0)&& !(iAdd .i64 C.ops 1 != C.turn)
def bgC(C:Chip):Chip:=if bgn C=true then { C with ops:=iAdd .i64 C.ops 1,turn:=0,off:=true,cuts:=iAdd .i64 C.cuts 1 } else { C with ops:=iAdd .i64 C.ops 1 }
theorem c_begin(M:Mem)(hw:M.WF)(p:Nat)(C:Chip)(h:ChipAt M p C):CallA tb.P 129 [.ptr p 0] M fun y N=>y= .val (.bool (bgn C))∧Step M N p C (bgC C):=by
 refine F129_ok ?_
 unfold F129
 have s1:=h.set hw { C with ops:=iAdd .i64 C.ops 1 } rfl rfl rfl rfl rfl h.cby0
 have t1:=st_chip h { C with ops:=iAdd .i64 C.ops 1 } (o:=8) (v:=i64 (iAdd .i64 C.ops 1)) ty3 rfl rfl (by omega) rfl
 simp only[i64] at t1
 simp only[eZn,bZs,fa4,zZp,ld_ops h,i64,zZi,t1]
 generalize hN1:M.put p (.cells (chipC { C with ops:=iAdd .i64 C.ops 1 }) true)=N1 at s1
 have h1:=s1.at'
 have hw1:=s1.wf
 refine lZi fun K hK=>?_
 have no:bgn C=false→K true:=fun hb=>by
  rw[hK]
  refine⟨by rw[hb],?_⟩
  unfold bgC
  rw[hb]
  exact s1
 have yes:bgn C=true→K false:=fun hb=>by
  rw[hK]
  have s2:=h1.set hw1 { C with ops:=iAdd .i64 C.ops 1,turn:=0 } rfl rfl rfl rfl rfl h.cby0
  have t2:=st_chip h1 { C with ops:=iAdd .i64 C.ops 1,turn:=0 } (o:=13) (v:=i64 0) ty3 rfl rfl (by omega) rfl
  simp only[i64] at t2
  simp only[cZf,eZn,bZs,fa7,zZp,t2]
  generalize N1.put p (.cells (chipC { C with ops:=iAdd .i64 C.ops 1,turn:=0 }) true)=N2 at s2
  have h2:=s2.at'
  have s3:=h2.set s2.wf { C with ops:=iAdd .i64 C.ops 1,turn:=0,off:=true } rfl rfl rfl rfl rfl h.cby0
  have t3:=st_chip h2 { C with ops:=iAdd .i64 C.ops 1,turn:=0,off:=true } (o:=7) (v:= .val (.bool true)) ty4 rfl rfl (by omega) rfl
  simp only[eZn,bZs,fa3,zZp,t3]
  generalize N2.put p (.cells (chipC { C with ops:=iAdd .i64 C.ops 1,turn:=0,off:=true }) true)=N3 at s3
  have h3:=s3.at'
  have s4:=h3.set s3.wf { C with ops:=iAdd .i64 C.ops 1,turn:=0,off:=true,cuts:=iAdd .i64 C.cuts 1 } rfl rfl rfl rfl rfl h.cby0
  have t4:=st_chip h3 { C with ops:=iAdd .i64 C.ops 1,turn:=0,off:=true,cuts:=iAdd .i64 C.cuts 1 } (o:=9) (v:=i64 (iAdd .i64 C.cuts 1)) ty3 rfl rfl (by omega) rfl
  simp only[i64] at t4
  simp only[eZn,bZs,fa5,zZp,ld_cuts h3,i64,zZi,t4]
  refine⟨by rw[hb],?_⟩
  unfold bgC
  rw[if_pos hb]
  exact s1.trans (s2.trans (s3.trans s4))
 simp only[eZn,bZs,fa7,fa4,zZp,ld_turn h1,ld_ops h1,i64,zZi]
 refine cZi (fun q=>no (by unfold bgn;rw[q];rfl)) (fun q=>?_)
 have hb:bgn C= !(iAdd .i64 C.ops 1 != C.turn):=by unfold bgn;rw[q];rfl
 cases hq:(iAdd .i64 C.ops 1 != C.turn) with
 | true=>exact no (by rw[hb,hq];rfl)
 | false=>exact yes (by rw[hb,hq];rfl)
def askd(C:Chip)(b p:Int):Int:=if C.off=true then 9 else if isG C.g b p=true then 0 else 2
theorem c_asked(M:Mem)(hw:M.WF)(p:Nat)(C:Chip)(h:ChipAt M p C)(b k:Int):CallA tb.P 128 [.ptr p 0,placeA b k] M fun y N=>y=i64 (askd C b k)∧Keep M N []:=by
 refine F128_ok ?_
 unfold F128
 refine⟨_,_,rfl,?_⟩
 simp only[letP_eq]
 have hK:=Keep.new hw (.cells [i64 b,i64 k] true)
 have hp:=get_new M (.cells [i64 b,i64 k] true)
 have h1:=h.keep hw hK
 simp only[nil_eq,bZs,zZb,cZf,eZn,fa3,zZp,i64] at*
 simp only[ld_off h1,bZs,zZb]
 unfold askd
 refine cZi (fun q=>⟨by rw[if_pos q],hK⟩) (fun q=>?_)
 rw[if_neg (by rw[q];simp)]
 simp only[fa0,bZs,zZp,ld_g h1]
 refine⟨_,_,_,_,_,rfl,?_⟩
 obtain⟨_,_,l2⟩:=place_ld hp
 refine bZi (lZs l2) ?_
 refine⟨_,_,rfl,?_⟩
 refine (c_number _ hK.wf C.g h.may b k).mono ?_
 rintro y N ⟨⟨z,rfl,hz⟩,hk⟩
 simp only[i64,zZi]
 rw[hz]
 refine cZi (fun q=>⟨?_,hK.trans0 hk⟩) (fun q=>⟨?_,hK.trans0 hk⟩)
 ·have q:isG C.g b k=false:=by simpa using q
  rw[q];rfl
 ·have q:isG C.g b k=true:=by simpa using q
  rw[q];rfl
theorem c_on(M:Mem)(hw:M.WF)(p:Nat)(C:Chip)(h:ChipAt M p C):CallA tb.P 41 [.ptr p 0] M fun y N=>y= .val (.bool (!C.off))∧N=M:=by
 refine F41_ok ?_
 unfold F41
 simp only[letP_eq,nil_ne,bZs,zZb,cZt,eZn,fa3,zZp,ld_off h,and_self]
theorem c_badOf(M:Mem)(hw:M.WF)(p:Nat)(C:Chip)(h:ChipAt M p C)(b:Int):CallA tb.P 44 [.ptr p 0,i64 b] M fun y N=>y= .val (.bool (badF C.fs b))∧Keep M N []:=by
 refine F44_ok ?_
 unfold F44
 simp only[letP_eq,nil_ne,bZs,zZb,cZt,eZn,fa1,zZp,ld_fs h,i64,zZi]
 refine (c_bad M hw _ _ h.flt (by have:=h.fsl;omega) b).mono ?_
 rintro y N ⟨rfl,hk⟩
 simp only[zZb]
 exact⟨by trivial,hk⟩
def failed(C:Chip)(b:Int):Bool:=decide (0≤b)&&match C.bs[b.toNat]? with
 | some B=>failsF C.fs b B.done
 | none=>false
theorem c_failed(M:Mem)(hw:M.WF)(p:Nat)(C:Chip)(h:ChipAt M p C)(b:Int):CallA tb.P 60 [.ptr p 0,i64 b] M fun y N=>y= .val (.bool (failed C b))∧Keep M N []:=by
 refine F60_ok ?_
 unfold F60
 simp only[letP_eq,nil_ne,bZs,zZb,cZt,eZn,fa1,fa2,zZp,ld_fs h,ld_bs h,len_bs h,i64,zZi]
 unfold failed
 refine cZi (fun q=>?_) (fun q=>?_)
 rotate_left
 ·have q:¬ 0≤b:=by simpa using q
  exact⟨by rw[decide_eq_false q];rfl,Keep.refl hw⟩
 have q:0≤b:=by simpa using q
 obtain⟨i,rfl⟩:∃ i:Nat,b=(i:Int):=⟨b.toNat,by omega⟩
 rw[decide_eq_true q,Bool.true_and,Int.toNat_natCast]
 refine cZi (fun q=>?_) (fun q=>?_)
 rotate_left
 ·have q:¬ i<C.bs.length:=by simpa using q
  exact⟨by rw[List.getElem?_eq_none (by omega)],Keep.refl hw⟩
 have hi:i<C.bs.length:=by simpa using q
 rw[List.getElem?_eq_getElem hi]
 simp only[ia_bs h hi,bZs,zZp,ld_done h hi,i64,zZi]
 refine (c_fails M hw _ _ h.flt (by have:=h.fsl;omega) _ _).mono ?_
 rintro y N ⟨rfl,hk⟩
 simp only[zZb]
 exact⟨by trivial,hk⟩
def blk0:List AV:=[.val (.slice none 0 0),i64 0,i64 0,i64 0]
theorem blk_st{M:Mem}{b:Nat}{cs vs:List AV}(hg:M.get b=some (.cells cs true))(hl:cs.length=4)(hv:vs.length=4)(hone:∀ v∈vs,v.one=true):eSt tb 78 (.ptr b 0) (.agg vs) M=some (uZa,M.put b (.cells vs true)):=
 sZs (st_all ty78 (by rw[hv]) hg (by rw[hl,hv]) hone)
theorem blk_res{M:Mem}{b:Nat}{vs:List AV}(hg:M.get b=some (.cells vs true))(hv:vs.length=4):eRes tb [.c 78 (.ptr b 0)] M=some (.agg vs):=by
 have l:=ld_agg (T:=tb) (n:=4) (o:=0) ty78 rfl rfl hg (by omega)
 rw[List.drop_zero,List.take_of_length_le (by omega)] at l
 unfold eRes resC resC
 simp only[l,Option.map_some]
def atC(C:Chip)(b:Int):List AV:=if 0≤b then (match C.bs[b.toNat]? with|some B=>blkC B|none=>blk0) else blk0
theorem c_at(M:Mem)(hw:M.WF)(p:Nat)(C:Chip)(h:ChipAt M p C)(b:Int):CallA tb.P 93 [.ptr p 0,i64 b] M fun y N=>y= .agg (atC C b)∧Keep M N []:=by
 refine F93_ok ?_
 unfold F93
 simp only[i64,zZi]
 refine lZi fun M2 hM2=>?_
 have hM2':M2=M.new (.cells blk0 true):=hM2
 subst hM2'
 have hK:=Keep.new hw (.cells blk0 true)
 have hg:=get_new M (.cells blk0 true)
 have h1:=h.keep hw hK
 have fin:∀ vs:List AV,Keep M ((M.new (.cells blk0 true)).put M.next (.cells vs true)) []:=fun vs=>by
  rw[Mem.new_put];exact Keep.new hw _
 refine lZi fun K hK1=>?_
 have no:atC C b=blk0→K true:=fun ha=>by
  rw[hK1]
  simp only[cZt]
  refine bZi (blk_st hg rfl rfl (by intro v hv;simp only[List.mem_cons,List.not_mem_nil,or_false] at hv;rcases hv with rfl|rfl|rfl|rfl <;> rfl)) ?_
  refine bZi (blk_res (vs:=blk0) (by rw[Mem.get_put,if_pos rfl];rfl) rfl) ?_
  exact⟨by rw[ha],fin _⟩
 simp only[nil_eq,bZs,zZb,cZf,eZn,fa2,zZp,ld_bs h1,len_bs h1,i64,zZi]
 refine cZi (fun q=>no ?_) (fun q=>?_)
 ·have q:b<0:=by simpa using q
  unfold atC
  rw[if_neg (by omega)]
 have q:0≤b:=by have:¬ b<0:=by simpa using q
                omega
 obtain⟨i,rfl⟩:∃ i:Nat,b=(i:Int):=⟨b.toNat,by omega⟩
 by_cases hi:i<C.bs.length
 rotate_left
 ·rw[show decide ((i:Int)≥(C.bs.length:Int))=true by simpa using hi]
  refine no ?_
  unfold atC
  rw[if_pos q,Int.toNat_natCast,List.getElem?_eq_none (by omega)]
 rw[show decide ((i:Int)≥(C.bs.length:Int))=false by simpa using hi,hK1]
 have ha:atC C (i:Int)=blkC C.bs[i]:=by
  unfold atC
  rw[if_pos q,Int.toNat_natCast,List.getElem?_eq_getElem hi]
 simp only[cZf,eZn,bZs,fa2,zZp,ld_bs h1,ia_bs h1 hi,ld_blk h1 hi]
 refine⟨_,_,_,_,rfl,?_⟩
 refine bZi (blk_st (vs:=blkC C.bs[i]) hg rfl rfl (by intro v hv;simp only[blkC,List.mem_cons,List.not_mem_nil,or_false] at hv;rcases hv with rfl|rfl|rfl|rfl <;> rfl)) ?_
 refine bZi (blk_res (vs:=blkC C.bs[i]) (by rw[Mem.get_put,if_pos rfl]) rfl) ?_
 exact⟨by rw[ha],fin _⟩
def wearOf(C:Chip)(b:Int):Int:=if 0≤b then (match C.bs[b.toNat]? with|some B=>B.wear|none=>0) else 0
def usedOf(C:Chip)(b:Int):Int:=if 0≤b then (match C.bs[b.toNat]? with|some B=>B.next|none=>0) else 0
theorem atC_is(C:Chip)(b:Int):∃ x d,atC C b=[x,i64 (usedOf C b),i64 (wearOf C b),i64 d]:=by
 unfold atC usedOf wearOf
 split
 ·split
  ·exact⟨_,_,rfl⟩
  ·exact⟨_,_,rfl⟩
 ·exact⟨_,_,rfl⟩
theorem c_wear(M:Mem)(hw:M.WF)(p:Nat)(C:Chip)(h:ChipAt M p C)(b:Int):CallA tb.P 59 [.ptr p 0,i64 b] M fun y N=>y=i64 (wearOf C b)∧Keep M N []:=by
 refine F59_ok ?_
 unfold F59
 simp only[i64,zZi]
 refine (c_at M hw p C h b).mono ?_
 rintro y N ⟨rfl,hk⟩
 obtain⟨x,d,e⟩:=atC_is C b
 rw[e]
 exact⟨_,_,_,_,rfl,rfl,hk⟩
theorem isG_iff{g:Geo}{b k:Int}:isG g b k=true↔(0≤b∧b≤g.bl-1)∧0≤k∧k≤g.pg-1:=by
 unfold isG inB
 simp only[Bool.and_eq_true,decide_eq_true_eq]
theorem ChipAt.place{M:Mem}{p:Nat}{C:Chip}(h:ChipAt M p C){b k:Int}(hp:isG C.g b k=true):
 ∃ (i j:Nat) (hi:i<C.bs.length),b=(i:Int)∧k=(j:Int)∧j<C.g.pg.toNat∧C.g.pg.toNat≤8∧40≤rawN C.g∧rawN C.g≤80∧C.bs[i].by'.length=C.g.pg.toNat*rawN C.g∧(j+1)*rawN C.g≤C.bs[i].by'.length∧C.bs[i].by'.length≤640:=by
 obtain⟨⟨h1,h2⟩,h3,h4⟩:=isG_iff.1 hp
 have hm:=mayG_iff.1 h.may
 have hi:b.toNat<C.bs.length:=by rw[h.len];omega
 have hf:=h.ful _ (List.getElem_mem hi)
 have hr:40≤rawN C.g∧rawN C.g≤80:=by unfold rawN;omega
 have hpg:C.g.pg.toNat≤8:=by omega
 have hj:k.toNat+1≤C.g.pg.toNat:=by omega
 refine⟨b.toNat,k.toNat,hi,by omega,by omega,by omega,hpg,hr.1,hr.2,hf,?_,?_⟩
 ·rw[hf];exact Nat.mul_le_mul_right _ hj
 ·rw[hf]
  have:C.g.pg.toNat*rawN C.g≤8*80:=Nat.mul_le_mul hpg hr.2
  omega
def pageB(B:Blk)(raw j:Nat):List (BitVec 8):=(B.by'.drop (j*raw)).take raw
theorem c_page(M:Mem)(hw:M.WF)(p:Nat)(C:Chip)(h:ChipAt M p C){i j:Nat}(hi:i<C.bs.length)(hp:isG C.g i j=true):
 CallA tb.P 130 [.ptr p 0,placeA i j] M fun y N=>y= .sl C.bs[i].b (j*rawN C.g) (rawN C.g) (C.bs[i].by'.length-j*rawN C.g) none∧Keep M N []:=by
 obtain⟨i',j',hi',e1,e2,hj,hpg,hr1,hr2,hf,hle,hmax⟩:=h.place hp
 have e1:i'=i:=by omega
 have e2:j'=j:=by omega
 subst e1 e2
 refine F130_ok ?_
 unfold F130
 refine⟨_,_,rfl,?_⟩
 refine lZi fun M3 hM3=>?_
 have hM3':M3=M.new (.cells [i64 (i':Int),i64 (j':Int)] true):=hM3
 have hK:Keep M M3 []:=by rw[hM3'];exact Keep.new hw _
 have hpl:M3.get M.next=some (.cells [i64 (i':Int),i64 (j':Int)] true):=by rw[hM3'];exact get_new _ _
 clear hM3 hM3'
 have h1:=h.keep hw hK
 simp only[eZn,bZs,fa0,zZp,ld_g h1]
 refine⟨_,_,_,_,_,rfl,?_⟩
 refine (c_raw _ hK.wf C.g h.may).mono ?_
 rintro y N ⟨rfl,hk⟩
 have h2:=h1.keep hK.wf hk
 obtain⟨p0,p1,_⟩:=place_ld (hk.get hK.wf hpl (by simp))
 have hb1:j'*rawN C.g≤640:=by
  have:(j'+1)*rawN C.g=j'*rawN C.g+rawN C.g:=by rw[Nat.add_mul,Nat.one_mul]
  omega
 have m1:iMul .i64 (j':Int) (rawN C.g:Int)=((j'*rawN C.g:Nat):Int):=by
  rw[iMul,← Int.natCast_mul,wrap_i64' (by omega) (by omega)]
 have m2:iMul .i64 (iAdd .i64 (j':Int) 1) (rawN C.g:Int)=(((j'+1)*rawN C.g:Nat):Int):=by
  rw[iInc (by omega),iMul,← Int.natCast_mul,wrap_i64' (by omega) (by omega)]
 simp only[i64,zZi,eZn,bZs,fa2,zZp,ld_bs h2,lZs p0,lZs p1,ia_bs h2 hi,ld_by h2 hi,m1,m2]
 have hsl:=slice_both (T:=tb) ty37 ty5 (b:=C.bs[i'].b) (o:=0) (n:=C.bs[i'].by'.length) (c:=C.bs[i'].by'.length) (l:=j'*rawN C.g) (h:=(j'+1)*rawN C.g) (Nat.mul_le_mul_right _ (by omega)) hle (k1:= .i64) (k2:= .i64)
 have hd:(j'+1)*rawN C.g-j'*rawN C.g=rawN C.g:=by rw[Nat.add_mul,Nat.one_mul];omega
 rw[AM.beq_false (show C.bs[i'].by'.length≠j'*rawN C.g by
  have:(j'+1)*rawN C.g=j'*rawN C.g+rawN C.g:=by rw[Nat.add_mul,Nat.one_mul]
  omega),cond_false,Nat.zero_add,hd] at hsl
 refine bZi (eSl_some hsl) ?_
 exact⟨rfl,hK.trans0 hk⟩
theorem page_at{M:Mem}{p:Nat}{C:Chip}(h:ChipAt M p C){i j:Nat}(hi:i<C.bs.length)(hp:isG C.g i j=true):
 BytesAt M (.sl C.bs[i].b (j*rawN C.g) (rawN C.g) (C.bs[i].by'.length-j*rawN C.g) none) (pageB C.bs[i] (rawN C.g) j)∧(pageB C.bs[i] (rawN C.g) j).length=rawN C.g:=by
 obtain⟨i',j',hi',e1,e2,hj,hpg,hr1,hr2,hf,hle,hmax⟩:=h.place hp
 have e1:i'=i:=by omega
 have e2:j'=j:=by omega
 subst e1 e2
 have hs:(j'+1)*rawN C.g=j'*rawN C.g+rawN C.g:=by rw[Nat.add_mul,Nat.one_mul]
 have hl:(pageB C.bs[i'] (rawN C.g) j').length=rawN C.g:=by
  unfold pageB
  rw[List.length_take,List.length_drop];omega
 refine⟨⟨by simp,.inr ⟨_,_,_,none,by rw[hl],⟨by rw[hl];omega,.inl rfl⟩,.inr ⟨_,_,h.dat _ (List.getElem_mem hi),by rw[hl,bvs_length];omega,?_⟩⟩⟩,hl⟩
 rw[hl,Nat.mul_one]
 unfold pageB bvs
 rw[List.map_take,List.map_drop]
def rdE(C:Chip)(b k:Int):Int:=if askd C b k=0 then (if bgn C=true then 9 else 0) else askd C b k
def rdC(C:Chip)(b k:Int):Chip:=if askd C b k=0 then bgC C else C
def rdB(C:Chip)(b k:Int):List (BitVec 8):=if rdE C b k=0 then (match C.bs[b.toNat]? with|some B=>pageB B (rawN C.g) k.toNat|none=>[]) else[]
theorem askd_zero{C:Chip}{b k:Int}(h:askd C b k=0):C.off=false∧isG C.g b k=true:=by
 unfold askd at h
 split at h
 ·omega
 ·rename_i h1
  split at h
  ·rename_i h2;exact⟨by simpa using h1,h2⟩
  ·omega
theorem bgC_bs(C:Chip):(bgC C).bs=C.bs∧(bgC C).g=C.g∧(bgC C).fs=C.fs∧(bgC C).cby=C.cby∧(bgC C).cf=C.cf:=by
 unfold bgC
 split <;> exact⟨rfl,rfl,rfl,rfl,rfl⟩
theorem c_read(M:Mem)(hw:M.WF)(p:Nat)(C:Chip)(h:ChipAt M p C)(b k:Int):
 CallA tb.P 103 [.ptr p 0,placeA b k] M fun y N=>∃ u,y= .tup [u,i64 (rdE C b k)]∧Gr N u (rdB C b k)∧(∀ c,inBlk u c→M.next≤c)∧Step M N p C (rdC C b k):=by
 refine F103_ok ?_
 unfold F103
 refine⟨_,_,rfl,?_⟩
 refine lZi fun M3 hM3=>?_
 have hM3':M3=M.new (.cells [i64 b,i64 k] true):=hM3
 have hK:Keep M M3 []:=by rw[hM3'];exact Keep.new hw _
 have hpl:M3.get M.next=some (.cells [i64 b,i64 k] true):=by rw[hM3'];exact get_new _ _
 clear hM3 hM3'
 have h1:=h.keep hw hK
 have hpn:M.next<M3.next:=hK.wf _ _ hpl
 obtain⟨_,_,l2⟩:=place_ld hpl
 refine bZi (lZs l2) ?_
 refine⟨_,_,rfl,?_⟩
 refine (c_asked _ hK.wf p C h1 b k).mono ?_
 rintro y N ⟨rfl,hk⟩
 have h2:=h1.keep hK.wf hk
 have hKN:=hK.trans0 hk
 simp only[i64,zZi]
 refine cZi (fun q=>?_) (fun q=>?_)
 ·have q:¬ askd C b k=0:=by simpa using q
  have e1:rdE C b k=askd C b k:=by unfold rdE;rw[if_neg q]
  refine⟨.val (.slice none 0 0),by rw[e1],?_,fun c hc=>hc.elim,?_⟩
  ·unfold rdB
   rw[if_neg (by rw[e1];exact q)]
   exact .inl ⟨rfl,rfl⟩
  ·unfold rdC
   rw[if_neg q]
   exact Step.of0 hw h hKN
 have q:askd C b k=0:=by simpa using q
 obtain⟨hoff,hp⟩:=askd_zero q
 refine (c_begin N hk.wf p C h2).mono ?_
 rintro y N2 ⟨rfl,hs⟩
 simp only[zZb]
 refine cZi (fun q2=>?_) (fun q2=>?_)
 ·have e1:rdE C b k=9:=by unfold rdE;rw[if_pos q,if_pos q2]
  refine⟨.val (.slice none 0 0),by rw[e1],?_,fun c hc=>hc.elim,?_⟩
  ·unfold rdB
   rw[if_neg (by rw[e1];decide)]
   exact .inl ⟨rfl,rfl⟩
  ·unfold rdC
   rw[if_pos q]
   exact hs.pre hKN
 have e1:rdE C b k=0:=by unfold rdE;rw[if_pos q,q2];rfl
 have hplN:N2.get M.next=some (.cells [i64 b,i64 k] true):=hs.keep.get hk.wf (hk.get hK.wf hpl (by simp)) (fun hm=>by
  have hlt:∀ c∈foot p C,c<M.next:=by
   intro c hc
   simp only[foot,List.mem_cons,List.mem_map] at hc
   rcases hc with rfl|rfl|⟨B,hB,rfl⟩
   ·exact hw _ _ h.main
   ·exact hw _ _ h.tab
   ·exact hw _ _ (h.dat B hB)
  have:=hlt _ hm
  omega)
 obtain⟨_,_,l3⟩:=place_ld hplN
 refine bZi (lZs l3) ?_
 refine⟨_,_,rfl,?_⟩
 have h3:=hs.at'
 obtain⟨i,j,hi,rfl,rfl,_⟩:=h.place hp
 have hbb:=bgC_bs C
 have hi3:i<(bgC C).bs.length:=by rw[hbb.1];exact hi
 have hp3:isG (bgC C).g i j=true:=by rw[hbb.2.1];exact hp
 refine (c_page N2 hs.wf p (bgC C) h3 hi3 hp3).mono ?_
 rintro y N3 ⟨rfl,hk3⟩
 have h4:=h3.keep hs.wf hk3
 obtain⟨hpa,hpl⟩:=page_at h4 hi3 hp3
 have hm:=mayG_iff.1 h4.may
 have hr:40≤rawN (bgC C).g∧rawN (bgC C).g≤80:=by unfold rawN;omega
 refine (t_clone N3 hk3.wf _ _ hpa (by rw[hpl];omega) (by rw[hpl];omega)).mono ?_
 rintro y N4 ⟨hg,hk4,hfr⟩
 refine⟨y,by rw[e1],?_,fun c hc=>Nat.le_trans hKN.nxt (Nat.le_trans hs.keep.nxt (Nat.le_trans hk3.nxt (hfr c hc))),?_⟩
 ·unfold rdB
  rw[if_pos e1,Int.toNat_natCast,Int.toNat_natCast,List.getElem?_eq_getElem hi]
  have:pageB (bgC C).bs[i] (rawN (bgC C).g) j=pageB C.bs[i] (rawN C.g) j:=by simp only[hbb.1,hbb.2.1]
  rw[this] at hg
  exact hg
 ·unfold rdC
  rw[if_pos q]
  exact (hs.pre hKN).post (hk3.trans0 hk4)
theorem ChipAt.lt{M:Mem}{p:Nat}{C:Chip}(h:ChipAt M p C)(hw:M.WF):∀ c∈foot p C,c<M.next:=by
 intro c hc
 simp only[foot,List.mem_cons,List.mem_map] at hc
 rcases hc with rfl|rfl|⟨B,hB,rfl⟩
 ·exact hw _ _ h.main
 ·exact hw _ _ h.tab
 ·exact hw _ _ (h.dat B hB)
theorem step_get{M N:Mem}{p:Nat}{C C':Chip}(s:Step M N p C C')(hw:M.WF){c:Nat}{r:Row}(hg:M.get c=some r)(hc:c∉foot p C):N.get c=some r:=s.keep.get hw hg hc
def Chip.upB(C:Chip)(i:Nat)(B:Blk):Chip:={ C with bs:=C.bs.set i B }
theorem upB_len(C:Chip)(i:Nat)(B:Blk):(C.upB i B).bs.length=C.bs.length:=by simp[Chip.upB]
theorem upB_get{C:Chip}{i:Nat}{B:Blk}(h:i<(C.upB i B).bs.length):(C.upB i B).bs[i]=B:=by simp[Chip.upB]
theorem upB_upB(C:Chip)(i:Nat)(B B':Blk):(C.upB i B).upB i B'=C.upB i B':=by simp[Chip.upB]
section
variable {M:Mem} {p:Nat} {C:Chip} (h:ChipAt M p C) (hw:M.WF) {i:Nat} (hi:i<C.bs.length)
include h hw
theorem set_next(z:Int):∃ N,eSt tb 3 (.ptr C.bb (i*4+1)) (.val (.int .i64 z)) M=some (uZa,N)∧Step M N p C (C.upB i { C.bs[i] with next:=z }):=
 ⟨_,st_blk h hi (z:=z) { C.bs[i] with next:=z } (j:=1) (by omega) rfl,h.setB hw hi _ rfl rfl⟩
theorem set_wear(z:Int):∃ N,eSt tb 3 (.ptr C.bb (i*4+2)) (.val (.int .i64 z)) M=some (uZa,N)∧Step M N p C (C.upB i { C.bs[i] with wear:=z }):=
 ⟨_,st_blk h hi (z:=z) { C.bs[i] with wear:=z } (j:=2) (by omega) rfl,h.setB hw hi _ rfl rfl⟩
theorem set_done(z:Int):∃ N,eSt tb 3 (.ptr C.bb (i*4+3)) (.val (.int .i64 z)) M=some (uZa,N)∧Step M N p C (C.upB i { C.bs[i] with done:=z }):=
 ⟨_,st_blk h hi (z:=z) { C.bs[i] with done:=z } (j:=3) (by omega) rfl,h.setB hw hi _ rfl rfl⟩
end
def over(l:List (BitVec 8))(o:Nat)(m:List (BitVec 8)):List (BitVec 8):=l.take o++m++l.drop (o+m.length)
theorem over_length{l:List (BitVec 8)}{o:Nat}{m:List (BitVec 8)}(h:o+m.length≤l.length):(over l o m).length=l.length:=by
 unfold over
 simp only[List.length_append,List.length_take,List.length_drop];omega
theorem over_nil'(l:List (BitVec 8))(o:Nat):over l o []=l:=by simp[over]
theorem setAt_bvs{l:List (BitVec 8)}{o:Nat}{m:List (BitVec 8)}(h:o+m.length≤l.length):setAt (bvs l) o (bvs m)=bvs (over l o m):=by
 have h1:bvs l=bvs (l.take o)++bvs ((l.drop o).take m.length)++bvs (l.drop (o+m.length)):=by
  rw[← bvs_append,← bvs_append]
  congr 1
  conv=>lhs;rw[← List.take_append_drop o l,← List.take_append_drop m.length (l.drop o)]
  rw[List.drop_drop,List.append_assoc]
 have h2:=setAt_mid (bvs m) (bvs (l.take o)) (bvs (l.drop (o+m.length))) (bvs ((l.drop o).take m.length)) (by simp;omega)
 rw[bvs_length,List.length_take,Nat.min_eq_left (by omega)] at h2
 rw[h1,h2]
 unfold over
 rw[bvs_append,bvs_append]
theorem copy_page{M:Mem}{p:Nat}{C:Chip}(h:ChipAt M p C)(hw:M.WF){i j:Nat}(hi:i<C.bs.length)(hp:isG C.g i j=true){x:AV}{m:List (BitVec 8)}(hx:BytesAt M x m)(hm:m.length≤rawN C.g):
 ∃ N,evCopy tb 37 (.sl C.bs[i].b (j*rawN C.g) (rawN C.g) (C.bs[i].by'.length-j*rawN C.g) none) x M=some (i64 (m.length:Int),N)∧
   Step M N p C (C.upB i { C.bs[i] with by':=over C.bs[i].by' (j*rawN C.g) m }):=by
 obtain⟨i',j',hi',e1,e2,hj,hpg,hr1,hr2,hf,hle,hmax⟩:=h.place hp
 have e1:i'=i:=by omega
 have e2:j'=j:=by omega
 subst e1 e2
 have hs:(j'+1)*rawN C.g=j'*rawN C.g+rawN C.g:=by rw[Nat.add_mul,Nat.one_mul]
 have hfit:j'*rawN C.g+m.length≤C.bs[i'].by'.length:=by omega
 have hmin:Nat.min m.length (rawN C.g)=m.length:=Nat.min_eq_left hm
 unfold evCopy
 rw[ty37]
 simp only[ty5]
 have he1:evLen (.sl C.bs[i'].b (j'*rawN C.g) (rawN C.g) (C.bs[i'].by'.length-j'*rawN C.g) none)=some (rawN C.g):=rfl
 rw[he1,SlAt.evLen hx]
 simp only[hmin,SlAt.evFirst hx]
 by_cases h0:m.length=0
 ·have hnil:m=[]:=List.eq_nil_of_length_eq_zero h0
  subst hnil
  refine⟨M,rfl,?_⟩
  have:C.upB i' { C.bs[i'] with by':=over C.bs[i'].by' (j'*rawN C.g) [] }=C:=by
   rw[over_nil']
   unfold Chip.upB
   rw[show ({ C.bs[i'] with by':=C.bs[i'].by' }:Blk)=C.bs[i'] from rfl,List.set_getElem_self]
  rw[this]
  exact Step.refl hw h
 ·have hb:Nat.beq m.length 0=false:=AM.beq_ne h0
  rw[hb,cond_false]
  have hst:M.storeAt C.bs[i'].b (j'*rawN C.g) (bvs m)=some (M.put C.bs[i'].b (.cells (bvs (over C.bs[i'].by' (j'*rawN C.g) m)) true)):=by
   unfold Mem.storeAt
   rw[h.dat _ (List.getElem_mem hi)]
   simp only[bvs_length,AM.ble_of hfit,cond_true,ones_of (bvs_one m),setAt_bvs hfit]
  rw[hst]
  exact⟨_,rfl,h.setD hw hi _ (over_length hfit)⟩
def pgS(C:Chip)(cut:Bool)(i j:Nat)(d:List (BitVec 8)):Chip×Int:=
 match C.bs[i]? with
 | none=>(C,0)
 | some B=>
   if failsF C.fs i B.done=true then (C,10)
   else if (j:Int)≠B.next then (C,11)
   else if cut=true then (C.upB i { B with by':=over B.by' (j*rawN C.g) (d.take (min C.cby.toNat d.length)),next:=iAdd .i64 B.next 1 },0)
   else (C.upB i { B with by':=over B.by' (j*rawN C.g) d,next:=iAdd .i64 B.next 1,done:=iAdd .i64 B.done 1 },0)
def pgR(C:Chip)(b k:Int)(d:List (BitVec 8)):Chip×Int:=
 if askd C b k=0 then
  (if d.length=rawN C.g then ((pgS (bgC C) (bgn C) b.toNat k.toNat d).1,if bgn C=true then 9 else (pgS (bgC C) (bgn C) b.toNat k.toNat d).2) else (C,2))
 else (C,askd C b k)
theorem c_program(M:Mem)(hw:M.WF)(p:Nat)(C:Chip)(h:ChipAt M p C)(b k:Int)(x:AV)(d:List (BitVec 8))(hx:BytesAt M x d)(hd:d.length≤9223372036854775807)(hxf:∀ c,inBlk x c→c∉foot p C):
 CallA tb.P 153 [.ptr p 0,placeA b k,x] M fun y N=>y=i64 (pgR C b k d).2∧Step M N p C (pgR C b k d).1:=by
 refine F153_ok ?_
 unfold F153
 refine⟨_,_,rfl,?_⟩
 refine lZi fun M3 hM3=>?_
 have hM3':M3=M.new (.cells [i64 b,i64 k] true):=hM3
 have hK:Keep M M3 []:=by rw[hM3'];exact Keep.new hw _
 have hpl:M3.get M.next=some (.cells [i64 b,i64 k] true):=by rw[hM3'];exact get_new _ _
 clear hM3 hM3'
 have h1:=h.keep hw hK
 have hpn:M.next∉foot p C:=fun hm=>by have:=h.lt hw _ hm;omega
 obtain⟨_,_,l2⟩:=place_ld hpl
 refine bZi (lZs l2) ?_
 refine⟨_,_,rfl,?_⟩
 refine (c_asked _ hK.wf p C h1 b k).mono ?_
 rintro y M8 ⟨rfl,hk8⟩
 have h8:=h1.keep hK.wf hk8
 have hK8:=hK.trans0 hk8
 simp only[i64,zZi]
 refine cZi (fun q=>?_) (fun q=>?_)
 ·have q:¬ askd C b k=0:=by simpa using q
  unfold pgR
  rw[if_neg q]
  exact⟨rfl,Step.of0 hw h hK8⟩
 have q:askd C b k=0:=by simpa using q
 have hpg:=(askd_zero q).2
 have hx8:BytesAt M8 x d:=SlAt.keep0 hx hw hK8
 refine bZi (lZl hx8.len) ?_
 simp only[zZi,eZn,bZs,fa0,zZp,ld_g h8]
 refine⟨_,_,_,_,_,rfl,?_⟩
 refine (c_raw _ hk8.wf C.g h.may).mono ?_
 rintro y M23 ⟨rfl,hk23⟩
 have h23:=h8.keep hk8.wf hk23
 have hK23:=hK8.trans0 hk23
 simp only[i64,zZi]
 refine cZi (fun q2=>?_) (fun q2=>?_)
 ·have q2:¬ d.length=rawN C.g:=fun e=>by rw[e] at q2;simp at q2
  unfold pgR
  rw[if_pos q,if_neg q2]
  exact⟨rfl,Step.of0 hw h hK23⟩
 have q2:d.length=rawN C.g:=by
  have:(d.length:Int)=rawN C.g:=by simpa using q2
  omega
 unfold pgR
 rw[if_pos q,if_pos q2]
 obtain⟨i,j,hi,rfl,rfl,hj,hpg8,hr1,hr2,hf,hle,hmax⟩:=h.place hpg
 simp only[Int.toNat_natCast]
 have hplN:M23.get M.next=some (.cells [i64 (i:Int),i64 (j:Int)] true):=(hk8.trans0 hk23).get hK.wf hpl (by simp)
 obtain⟨a0,_,_⟩:=place_ld hplN
 simp only[eZn,bZs,fa2,zZp,ld_bs h23,lZs a0,i64,zZi,ia_bs h23 hi]
 refine (c_begin M23 hk23.wf p C h23).mono ?_
 rintro y M36 ⟨rfl,hs⟩
 simp only[zZb]
 have hbb:=bgC_bs C
 have hft:foot p (bgC C)=foot p C:=hs.foot
 have hS36:=hs.pre hK23
 have h36:=hs.at'
 have hpl36:=step_get hs hk23.wf hplN hpn
 generalize hC1:bgC C=C1 at*
 have hi1:i<C1.bs.length:=by rw[hbb.1];exact hi
 have hp1:isG C1.g i j=true:=by rw[hbb.2.1];exact hpg
 have hrw:rawN C1.g=rawN C.g:=by rw[hbb.2.1]
 have hx36:BytesAt M36 x d:=SlAt.keep hx hw hS36.keep hxf
 have hbbe:C1.bb=C.bb:=by rw[← hC1];unfold bgC;split <;> rfl
 generalize bgn C=cut at*
 refine lZi fun K hK85=>?_
 have kk:∀ (z:Int) (N:Mem) (C2:Chip),pgS C1 cut i j d=(C2,z)→Step M36 N p C1 C2→K z N:=by
  intro z N C2 e s
  rw[hK85,e]
  refine cZi (fun hc=>⟨by rw[hc];rfl,hS36.trans s⟩) (fun hc=>⟨by rw[hc];rfl,hS36.trans s⟩)
 obtain⟨b0,_,_⟩:=place_ld hpl36
 refine bZi (lZs b0) ?_
 simp only[i64,zZi]
 refine (c_failed M36 hs.wf p C1 h36 (i:Int)).mono ?_
 rintro y M41 ⟨rfl,hk41⟩
 have h41:=h36.keep hs.wf hk41
 have hs41:=Step.of0 hs.wf h36 hk41
 have hfl:failed C1 (i:Int)=failsF C1.fs i C1.bs[i].done:=by
  unfold failed
  rw[Int.toNat_natCast,List.getElem?_eq_getElem hi1,decide_eq_true (by omega),Bool.true_and]
 have hpgS:∀ r,(if failsF C1.fs i C1.bs[i].done=true then (C1,10)
  else if (j:Int)≠C1.bs[i].next then (C1,11)
  else if cut=true then (C1.upB i { C1.bs[i] with by':=over C1.bs[i].by' (j*rawN C1.g) (d.take (min C1.cby.toNat d.length)),next:=iAdd .i64 C1.bs[i].next 1 },0)
  else (C1.upB i { C1.bs[i] with by':=over C1.bs[i].by' (j*rawN C1.g) d,next:=iAdd .i64 C1.bs[i].next 1,done:=iAdd .i64 C1.bs[i].done 1 },(0:Int)))=r→pgS C1 cut i j d=r:=fun r hr=>by
  unfold pgS
  rw[List.getElem?_eq_getElem hi1]
  exact hr
 simp only[zZb]
 rw[hfl]
 refine cZi (fun q3=>kk 10 M41 C1 (hpgS _ (by rw[if_pos q3])) hs41) (fun q3=>?_)
 have q3':¬ failsF C1.fs i C1.bs[i].done=true:=by rw[q3];simp
 have hpl41:=hk41.get hs.wf hpl36 (by simp)
 obtain⟨_,c1,c2⟩:=place_ld hpl41
 have hnx:=ld_next h41 hi1
 rw[hbbe] at hnx
 simp only[lZs c1,bZs,i64,zZi,hnx]
 refine cZi (fun q4=>kk 11 M41 C1 (hpgS _ (by rw[if_neg q3',if_pos (by simpa using q4)])) hs41) (fun q4=>?_)
 have q4:¬ (j:Int)≠C1.bs[i].next:=by simpa using q4
 have hx41:BytesAt M41 x d:=SlAt.keep0 hx36 hs.wf hk41
 refine cZi (fun hc=>?_) (fun hc=>?_)
 ·
  have hcb:=ld_cby h41
  simp only[eZn,bZs,fa6,zZp,lZs c2]
  refine⟨_,_,rfl,?_⟩
  simp only[Nat.reduceAdd,hcb,bZs,i64,zZi]
  refine bZi (lZl hx41.len) ?_
  simp only[zZi]
  have hcby:=h41.cby0
  have hmin:eMin tb #[3,3] 3 [.int .i64 C1.cby,.int .i64 (d.length:Int)] M41=some (.val (.int .i64 ((min C1.cby.toNat d.length:Nat):Int)),M41):=by
   have:eMin tb #[3,3] 3 [.int .i64 C1.cby,.int .i64 (d.length:Int)] M41=some (.val (.int .i64 (if (d.length:Int)<C1.cby then (d.length:Int) else C1.cby)),M41):=rfl
   rw[this]
   congr 4
   split <;> omega
  refine bZi hmin ?_
  simp only[zZi]
  obtain⟨y60,hsl,hy60⟩:=hx41.slice (lo:=none) (hi:=some (.val (.int .i64 ((min C1.cby.toNat d.length:Nat):Int)))) (a:=0) (r:=min C1.cby.toNat d.length) (.inl ⟨rfl,rfl⟩) (.inr rfl) (by omega) (by omega)
  rw[List.drop_zero] at hy60
  refine bZi (eSl_some hsl) ?_
  refine (c_page M41 hk41.wf p C1 h41 hi1 hp1).mono ?_
  rintro y M62 ⟨rfl,hk62⟩
  have h62:=h41.keep hk41.wf hk62
  have hx62:BytesAt M62 x d:=SlAt.keep0 hx41 hk41.wf hk62
  refine⟨bZi (ld_cby h62) rfl,bZi (lZl hx62.len) rfl,?_⟩
  have hy62:BytesAt M62 y60 (d.take (min C1.cby.toNat d.length)):=SlAt.keep0 hy60 hk41.wf hk62
  obtain⟨N,hcp,hsN⟩:=copy_page h62 hk62.wf hi1 hp1 hy62 (by rw[List.length_take];omega)
  refine bZi hcp ?_
  simp only[i64,zZi]
  have hiN:i<(C1.upB i { C1.bs[i] with by':=over C1.bs[i].by' (j*rawN C1.g) (d.take (min C1.cby.toNat d.length)) }).bs.length:=by rw[upB_len];exact hi1
  have hn1:=ld_next hsN.at' hiN
  rw[upB_get] at hn1
  have hbN:(C1.upB i { C1.bs[i] with by':=over C1.bs[i].by' (j*rawN C1.g) (d.take (min C1.cby.toNat d.length)) }).bb=C.bb:=hbbe
  rw[hbN] at hn1
  simp only[hn1,bZs,i64,zZi]
  obtain⟨N2,hst,hs2⟩:=set_next hsN.at' hsN.wf hiN (iAdd .i64 C1.bs[i].next 1)
  rw[hbN] at hst
  refine bZi hst ?_
  rw[upB_upB] at hs2
  simp only[upB_get] at hs2
  refine kk 0 N2 _ (hpgS _ (by rw[if_neg q3',if_neg q4,if_pos hc])) (hs41.trans (Step.pre hk62 (hsN.trans hs2)))
 ·have hc':¬ cut=true:=by rw[hc];simp
  simp only[lZs c2,bZs]
  refine⟨_,_,rfl,?_⟩
  refine (c_page M41 hk41.wf p C1 h41 hi1 hp1).mono ?_
  rintro y M74 ⟨rfl,hk74⟩
  have h74:=h41.keep hk41.wf hk74
  have hx74:BytesAt M74 x d:=SlAt.keep0 hx41 hk41.wf hk74
  obtain⟨N,hcp,hsN⟩:=copy_page h74 hk74.wf hi1 hp1 hx74 (by rw[q2,hrw];exact Nat.le_refl _)
  refine bZi hcp ?_
  simp only[i64,zZi]
  have hiN:i<(C1.upB i { C1.bs[i] with by':=over C1.bs[i].by' (j*rawN C1.g) d }).bs.length:=by rw[upB_len];exact hi1
  have hn1:=ld_next hsN.at' hiN
  rw[upB_get] at hn1
  have hbN:(C1.upB i { C1.bs[i] with by':=over C1.bs[i].by' (j*rawN C1.g) d }).bb=C.bb:=hbbe
  rw[hbN] at hn1
  simp only[hn1,bZs,i64,zZi]
  obtain⟨N2,hst,hs2⟩:=set_next hsN.at' hsN.wf hiN (iAdd .i64 C1.bs[i].next 1)
  rw[hbN] at hst
  refine bZi hst ?_
  rw[upB_upB] at hs2
  simp only[upB_get] at hs2
  have hi2:i<(C1.upB i { C1.bs[i] with by':=over C1.bs[i].by' (j*rawN C1.g) d,next:=iAdd .i64 C1.bs[i].next 1 }).bs.length:=by rw[upB_len];exact hi1
  have hd1:=ld_done hs2.at' hi2
  rw[upB_get] at hd1
  have hb2:(C1.upB i { C1.bs[i] with by':=over C1.bs[i].by' (j*rawN C1.g) d,next:=iAdd .i64 C1.bs[i].next 1 }).bb=C.bb:=hbbe
  rw[hb2] at hd1
  simp only[hd1,bZs,i64,zZi]
  obtain⟨N3,hst3,hs3⟩:=set_done hs2.at' hs2.wf hi2 (iAdd .i64 C1.bs[i].done 1)
  rw[hb2] at hst3
  refine bZi hst3 ?_
  rw[upB_upB] at hs3
  simp only[upB_get] at hs3
  refine kk 0 N3 _ (hpgS _ (by rw[if_neg q3',if_neg q4,if_neg hc'])) (hs41.trans (Step.pre hk74 (hsN.trans (hs2.trans hs3))))
theorem fill_set{α:Type}(a:α){l:List α}{q:Nat}(h:q<l.length):(List.replicate q a++l.drop q).set q a=List.replicate (q+1) a++l.drop (q+1):=by
 rw[List.set_append_right _ _ (by simp),List.length_replicate,Nat.sub_self,← List.getElem_cons_drop h,List.set_cons_zero,List.replicate_succ',List.append_assoc,List.singleton_append]
theorem ia_by{b n c q:Nat}{M:Mem}(h:q<n):eIA tb 37 (.sl b 0 n c none) (.val (.int .i64 (q:Int))) M=some (.ptr b q,M):=eIA_some (by
 unfold evIndexAddr
 rw[ty37]
 have h0:decide (0≤(q:Int))=true:=by simp
 simp only[ty5,Int.toNat_natCast,AM.blt_of h,cond_true,h0,Nat.zero_add,Nat.mul_one])
def erS(C:Chip)(fill:BitVec 8)(i:Nat):Chip×Int:=
 match C.bs[i]? with
 | none=>(C,0)
 | some B=>
   if failsF C.fs i B.done=true then (C,10)
   else (C.upB i { B with by':=List.replicate B.by'.length fill,next:=if fill=255#8 then 0 else C.g.pg,wear:=iAdd .i64 B.wear 1,done:=iAdd .i64 B.done 1 },0)
def erF(C:Chip):BitVec 8:=if bgn C=true then C.cf else 255#8
def erR(C:Chip)(b:Int):Chip×Int:=
 if askd C b 0=0 then ((erS (bgC C) (erF C) b.toNat).1,if bgn C=true then 9 else (erS (bgC C) (erF C) b.toNat).2)
 else (C,askd C b 0)
theorem c_erase(M:Mem)(hw:M.WF)(p:Nat)(C:Chip)(h:ChipAt M p C)(b:Int):
 CallA tb.P 117 [.ptr p 0,i64 b] M fun y N=>y=i64 (erR C b).2∧Step M N p C (erR C b).1:=by
 refine F117_ok ?_
 unfold F117
 simp only[i64,zZi]
 refine (c_asked M hw p C h b 0).mono ?_
 rintro y M3 ⟨rfl,hk3⟩
 have h3:=h.keep hw hk3
 simp only[i64,zZi]
 refine cZi (fun q=>?_) (fun q=>?_)
 ·have q:¬ askd C b 0=0:=by simpa using q
  unfold erR
  rw[if_neg q]
  exact⟨rfl,Step.of0 hw h hk3⟩
 have q:askd C b 0=0:=by simpa using q
 have hpg:=(askd_zero q).2
 unfold erR
 rw[if_pos q]
 obtain⟨i,j,hi,rfl,_,hj,hpg8,hr1,hr2,hf,hle,hmax⟩:=h.place hpg
 simp only[Int.toNat_natCast]
 refine (c_begin M3 hk3.wf p C h3).mono ?_
 rintro y M6 ⟨rfl,hs⟩
 simp only[zZb]
 have hbb:=bgC_bs C
 have hS6:=hs.pre hk3
 have h6:=hs.at'
 unfold erF
 have hcf:C.cf=(bgC C).cf:=hbb.2.2.2.2.symm
 rw[hcf]
 have hbbe:(bgC C).bb=C.bb:=by unfold bgC;split <;> rfl
 generalize hC1:bgC C=C1 at*
 have hi1:i<C1.bs.length:=by rw[hbb.1];exact hi
 have hf1:C1.bs[i].by'.length≤640:=by
  have:C1.bs[i]=C.bs[i]:=by simp only[hbb.1]
  rw[this];exact hmax
 generalize bgn C=cut at*
 refine lZi fun K hK=>?_
 have fin:∀ fill:BitVec 8,(if cut=true then C1.cf else 255#8)=fill→K (fill.toNat:Int):=by
  intro fill hfill
  rw[hK,hfill]
  clear hK K
  refine lZi fun K59 hK59=>?_
  have kk:∀ (z:Int) (N:Mem) (C2:Chip),erS C1 fill i=(C2,z)→Step M6 N p C1 C2→K59 z N:=by
   intro z N C2 e s
   rw[hK59,e]
   refine cZi (fun hc=>⟨by rw[hc];rfl,hS6.trans s⟩) (fun hc=>⟨by rw[hc];rfl,hS6.trans s⟩)
  clear hK59
  refine (c_failed M6 hs.wf p C1 h6 (i:Int)).mono ?_
  rintro y M17 ⟨rfl,hk17⟩
  have h17:=h6.keep hs.wf hk17
  have hs17:=Step.of0 hs.wf h6 hk17
  have hfl:failed C1 (i:Int)=failsF C1.fs i C1.bs[i].done:=by
   unfold failed
   rw[Int.toNat_natCast,List.getElem?_eq_getElem hi1,decide_eq_true (by omega),Bool.true_and]
  have hpgS:∀ r,(if failsF C1.fs i C1.bs[i].done=true then (C1,10)
   else (C1.upB i { C1.bs[i] with by':=List.replicate C1.bs[i].by'.length fill,next:=if fill=255#8 then 0 else C1.g.pg,wear:=iAdd .i64 C1.bs[i].wear 1,done:=iAdd .i64 C1.bs[i].done 1 },(0:Int)))=r→erS C1 fill i=r:=fun r hr=>by
   unfold erS
   rw[List.getElem?_eq_getElem hi1]
   exact hr
  simp only[zZb]
  rw[hfl]
  refine cZi (fun q3=>?_) (fun q3=>kk 10 M17 C1 (hpgS _ (by rw[if_pos (by simpa using q3)])) hs17)
  have q3':¬ failsF C1.fs i C1.bs[i].done=true:=by simpa using q3
  simp only[eZn,bZs,fa2,zZp,ld_bs h17,ia_bs h17 hi1,ld_by h17 hi1]
  refine bZi (lZl (show evLenCap tb false 37 (.sl C1.bs[i].b 0 C1.bs[i].by'.length C1.bs[i].by'.length none) M17=some C1.bs[i].by'.length by unfold evLenCap;rw[ty37];rfl)) ?_
  simp only[zZi]
  refine⟨fun z n P=>∃ k:Nat,z=k∧n=C1.bs[i].by'.length-k∧k≤C1.bs[i].by'.length∧Step M17 P p C1 (C1.upB i { C1.bs[i] with by':=List.replicate k fill++C1.bs[i].by'.drop k }),⟨C1.bs[i].by'.length,0,rfl,rfl,Nat.zero_le _,?_⟩,?_⟩
  ·have:C1.upB i { C1.bs[i] with by':=List.replicate 0 fill++C1.bs[i].by'.drop 0 }=C1:=by
    unfold Chip.upB
    rw[List.drop_zero,List.replicate_zero,List.nil_append,show ({ C1.bs[i] with by':=C1.bs[i].by' }:Blk)=C1.bs[i] from rfl,List.set_getElem_self]
   rw[this]
   exact Step.refl hk17.wf h17
  rintro _ z n P ⟨k,rfl,rfl,hk,hsP⟩
  have hiP:i<(C1.upB i { C1.bs[i] with by':=List.replicate k fill++C1.bs[i].by'.drop k }).bs.length:=by rw[upB_len];exact hi1
  have hbP:(C1.upB i { C1.bs[i] with by':=List.replicate k fill++C1.bs[i].by'.drop k }).bb=C1.bb:=rfl
  refine cZi (fun hlt=>?_) (fun hge=>?_)
  ·have hlt:k<C1.bs[i].by'.length:=by simpa using hlt
   have hl:=ld_by hsP.at' hiP
   rw[upB_get,hbP] at hl
   have hlen:(List.replicate k fill++C1.bs[i].by'.drop k).length=C1.bs[i].by'.length:=by simp;omega
   simp only[hl,hlen,bZs]
   simp only[ia_by hlt,bZs,zZp]
   have hdat:=hsP.at'.dat _ (List.getElem_mem hiP)
   rw[upB_get] at hdat
   have hst:=cells_store hdat (i:=k) (by rw[hlen];exact hlt) fill
   rw[fill_set fill hlt] at hst
   refine bZi (sZs hst) ?_
   have hsD:=hsP.at'.setD hsP.wf hiP (List.replicate (k+1) fill++C1.bs[i].by'.drop (k+1)) (by rw[upB_get,hlen];simp;omega)
   have he:({ C1.upB i { C1.bs[i] with by':=List.replicate k fill++C1.bs[i].by'.drop k } with bs:=(C1.upB i { C1.bs[i] with by':=List.replicate k fill++C1.bs[i].by'.drop k }).bs.set i { (C1.upB i { C1.bs[i] with by':=List.replicate k fill++C1.bs[i].by'.drop k }).bs[i] with by':=List.replicate (k+1) fill++C1.bs[i].by'.drop (k+1) } }:Chip)=C1.upB i { C1.bs[i] with by':=List.replicate (k+1) fill++C1.bs[i].by'.drop (k+1) }:=by
    simp[Chip.upB]
   rw[he] at hsD
   rw[upB_get] at hsD
   exact⟨C1.bs[i].by'.length-(k+1),by omega,k+1,iInc (by omega),rfl,hlt,hsP.trans hsD⟩
  ·have hge:k=C1.bs[i].by'.length:=by have:¬ (k:Int)<C1.bs[i].by'.length:=by simpa using hge
                                      omega
   subst hge
   rw[List.drop_length,List.append_nil] at hsP hiP
   obtain⟨N2,hst,hs2⟩:=set_next hsP.at' hsP.wf hiP 0
   have hb1:(C1.upB i { C1.bs[i] with by':=List.replicate C1.bs[i].by'.length fill }).bb=C1.bb:=rfl
   rw[hb1] at hst
   refine bZi hst ?_
   rw[upB_upB] at hs2
   simp only[upB_get] at hs2
   have hs02:=hsP.trans hs2
   clear hs2 hst
   refine lZi fun K50 hK50=>?_
   have k50:∀ (N:Mem),Step M17 N p C1 (C1.upB i { C1.bs[i] with by':=List.replicate C1.bs[i].by'.length fill,next:=if fill=255#8 then 0 else C1.g.pg })→K50 N:=by
    intro N sN
    rw[hK50]
    generalize (if fill=255#8 then (0:Int) else C1.g.pg)=nx at*
    have hiN:i<(C1.upB i { C1.bs[i] with by':=List.replicate C1.bs[i].by'.length fill,next:=nx }).bs.length:=by rw[upB_len];exact hi1
    have hw1:=ld_wear sN.at' hiN
    rw[upB_get] at hw1
    have hbN:(C1.upB i { C1.bs[i] with by':=List.replicate C1.bs[i].by'.length fill,next:=nx }).bb=C1.bb:=rfl
    rw[hbN] at hw1
    simp only[hw1,bZs,i64,zZi]
    obtain⟨N3,hst3,hs3⟩:=set_wear sN.at' sN.wf hiN (iAdd .i64 C1.bs[i].wear 1)
    rw[hbN] at hst3
    refine bZi hst3 ?_
    rw[upB_upB] at hs3
    simp only[upB_get] at hs3
    have hi3:i<(C1.upB i { C1.bs[i] with by':=List.replicate C1.bs[i].by'.length fill,next:=nx,wear:=iAdd .i64 C1.bs[i].wear 1 }).bs.length:=by rw[upB_len];exact hi1
    have hd1:=ld_done hs3.at' hi3
    rw[upB_get] at hd1
    have hb3:(C1.upB i { C1.bs[i] with by':=List.replicate C1.bs[i].by'.length fill,next:=nx,wear:=iAdd .i64 C1.bs[i].wear 1 }).bb=C1.bb:=rfl
    rw[hb3] at hd1
    simp only[hd1,bZs,i64,zZi]
    obtain⟨N4,hst4,hs4⟩:=set_done hs3.at' hs3.wf hi3 (iAdd .i64 C1.bs[i].done 1)
    rw[hb3] at hst4
    refine bZi hst4 ?_
    rw[upB_upB] at hs4
    simp only[upB_get] at hs4
    exact kk 0 N4 _ (hpgS _ (by rw[if_neg q3'])) (hs17.trans (sN.trans (hs3.trans hs4)))
   have hz:((fill.toNat:Int) != 255)=decide (fill≠255#8):=ne_u8 fill 255 (by omega)
   rw[hz]
   refine cZi (fun hc=>?_) (fun hc=>?_)
   ·have hc:fill≠255#8:=by simpa using hc
    have hpg:=ld_pg hs02.at'
    simp only[eZn,bZs,fa0,zZp,Nat.zero_add,hpg,i64,zZi]
    have hi2:i<(C1.upB i { C1.bs[i] with by':=List.replicate C1.bs[i].by'.length fill,next:=0 }).bs.length:=by rw[upB_len];exact hi1
    obtain⟨N3,hst3,hs3⟩:=set_next hs02.at' hs02.wf hi2 C1.g.pg
    refine bZi hst3 ?_
    rw[upB_upB] at hs3
    simp only[upB_get] at hs3
    refine k50 N3 ?_
    rw[if_neg hc]
    exact hs02.trans hs3
   ·have hc:fill=255#8:=by simpa using hc
    refine k50 N2 ?_
    rw[if_pos hc]
    exact hs02
 refine cZi (fun hc=>?_) (fun hc=>?_)
 ·have hld:=ld_cf h6
  simp only[eZn,bZs,fa6,zZp,Nat.reduceAdd,hld,bv8,zZi]
  exact fin _ (by rw[if_pos hc])
 ·exact fin 255#8 (by rw[hc];rfl)
end Go.Proofs.YtlogedcoiogagaaGreat
