import Derived.Test.YtlogedcoiogagaaGreatK1
import Derived.Test.YtlogedcoiogagaaGreatK3
import Derived.Test.YtlogedcoiogagaaGreatQA
set_option linter.unusedSimpArgs false
set_option linter.unusedVariables false
set_option linter.unusedSectionVars false
set_option maxRecDepth 100000
namespace Go.Proofs.YtlogedcoiogagaaGreat
open Go.AM
theorem t_put(M:Mem)(hw:M.WF)(x:AV)(l:List (BitVec 8))(n:Int)(size:Nat)(hx:Gr M x l)(hs:size≤8)(hl:l.length≤900000):
 CallA tb.P 176 [x,i64 n,i64 size] M fun y N=>Gr N y (l++be n size)∧GrowTo M N x y:=by
 refine F176_ok ?_
 unfold F176
 simp only[i64,zZi]
 exact put_go M hw x l n size hx hs hl
theorem t_lay(M:Mem)(hw:M.WF)(x:AV)(d:List (BitVec 8))(k p s e:Int)(hx:BytesAt M x d)(hl:d.length≤1000000):
 CallA tb.P 152 [x,tagA k p s e] M (LayPost M d k p s e):=by
 refine F152_ok ?_
 unfold F152
 refine⟨k,p,s,e,rfl,?_⟩
 refine lZi fun M5 hM5=>?_
 have hM5':M5=M.new (.cells [i64 k,i64 p,i64 s,i64 e] true):=hM5
 clear hM5
 have hw5:M5.WF:=by rw[hM5'];exact hw.new _
 have hk5:Keep M M5 []:=by rw[hM5'];exact Keep.new hw _
 have hg5:M5.get M.next=some (.cells [i64 k,i64 p,i64 s,i64 e] true):=by rw[hM5',Mem.get_new,if_pos rfl]
 have hn5:M.next<M5.next:=hw5 _ _ hg5
 clear hM5'
 refine lZi fun K hK=>?_
 have hx5:BytesAt M5 x d:=SlAt.keep0 hx hw hk5
 refine bZi (lZl hx5.len) ?_
 simp only[zZi]
 refine (t_in M5 (d.length:Int) 24 64).mono ?_
 rintro y N ⟨rfl,rfl⟩
 simp only[zZb]
 have bad:∀ N',Keep N N' []→okL d k p s e=false→K true N':=by
  intro N' hk hno
  rw[hK]
  exact⟨hk5.trans0 hk,.inr ⟨hno,rfl⟩⟩
 refine cZi (fun h=>bad N (Keep.refl hw5) ?_) (fun h=>?_)
 ·unfold okL
  have:¬ (24≤d.length∧d.length≤64):=by
   simp only[Bool.not_eq_true',Bool.and_eq_false_iff,decide_eq_false_iff_not] at h
   omega
  rw[decide_eq_false this];rfl
 have hlen:24≤d.length∧d.length≤64:=by
  simp only[Bool.not_eq_false',Bool.and_eq_true,decide_eq_true_eq] at h
  omega
 obtain⟨l0,l1,l2,l3,la⟩:=tag_ld hg5
 refine bZi (lZs la) ?_
 refine⟨k,p,s,e,rfl,?_⟩
 refine (t_may N hw5 k p s e).mono ?_
 rintro y N2 ⟨rfl,hk2⟩
 simp only[zZb]
 cases hm:mayT k p s e with
 | false=>exact bad N2 hk2 (by unfold okL;rw[hm];simp)
 | true=>
   have hok:okL d k p s e=true:=by unfold okL;rw[hm];simp[hlen]
   rw[hK]
   simp only[Bool.not_true,cZf]
   have hg2:N2.get M.next=some (.cells [i64 k,i64 p,i64 s,i64 e] true):=hk2.get hw5 hg5 (by simp)
   have hx2:BytesAt N2 x d:=SlAt.keep0 hx5 hw5 hk2
   refine lZi fun N3 hN3=>?_
   have hw3:N3.WF:=by rw[hN3];intro b r hb;have:=hk2.wf b r hb;show b<N2.next+1;omega
   have hg3:N3.get M.next=some (.cells [i64 k,i64 p,i64 s,i64 e] true):=by rw[hN3];exact hg2
   have hx3:BytesAt N3 x d:=SlAt.rows hx2 (by rw[hN3])
   have hn3:N3.next=N2.next+1:=by rw[hN3]
   have hget3:∀ c,N3.get c=N2.get c:=fun c=>by rw[hN3];rfl
   obtain⟨q0,_⟩:=tag_ld hg3
   refine bZi (lZs q0) ?_
   simp only[i64,zZi]
   refine (t_clone N3 hw3 x d hx3 (by omega) hl).mono ?_
   rintro u N4 ⟨hu,hk4,hf4⟩
   have hg4:N4.get M.next=some (.cells [i64 k,i64 p,i64 s,i64 e] true):=hk4.get hw3 hg3 (by simp)
   obtain⟨q4,_⟩:=tag_ld hg4
   refine⟨bZi (lZs q4) rfl,?_⟩
   refine lZi fun N5 hN5=>?_
   simp only[wrap_ofInt] at hN5
   have hN5':N5=N4.put N2.next (.cells [bv8 74#8,bv8 (BitVec.ofInt 8 k)] true):=hN5
   clear hN5
   have hn2:M.next<N2.next:=hk2.wf _ _ hg2
   have hn4:N2.next<N4.next:=by have:=hk4.nxt;omega
   have hw5':N5.WF:=by rw[hN5'];exact hk4.wf.put hn4 _
   have hu5:Gr N5 u d:=hu.mono fun c r hc hr=>by
    have:=hf4 c hc
    rw[hN5',Mem.get_put,if_neg (by omega)];exact hr
   have hs5:BytesAt N5 (.sl N2.next 0 2 2 none) [74#8,BitVec.ofInt 8 k]:=two_at (by rw[hN5',Mem.get_put,if_pos rfl])
   obtain⟨u6,N6,a1,a2,a3,_⟩:=Gr.grow hw5' hu5 hs5 (by simp) (by simp;omega)
   refine bZi a1 ?_
   have hL5:Lying M N5 (.cells [i64 k,i64 p,i64 s,i64 e] true) u d:=
    ⟨hu5,hw5',by rw[hN5',Mem.get_put,if_neg (by omega)];exact hg4,fun c hc=>by have:=hf4 c hc;omega,⟨hw5',by
     have h1:=hk5.nxt;have h2:=hk2.nxt;have h3:=hk4.nxt
     have:N5.next=N4.next:=by rw[hN5'];rfl
     omega,fun c hc _=>by
     have h1:=hk5.nxt;have h2:=hk2.nxt
     rw[hN5',Mem.get_put,if_neg (by omega),hk4.old c (by omega) (by simp),hget3,hk2.old c (by omega) (by simp),hk5.old c hc (by simp)]⟩⟩
   exact lay_tail (P:=tb.P) (f4:=176) (fs:=135) M k p s e d hlen.2 u6 N6 (hL5.step a3 a2) hok (fun M hw x l n size h1 h2 h3=>t_put M hw x l n size h1 h2 h3) (fun M x l h1 h2=>crc_of M x l h1 h2)
set_option maxRecDepth 100000
structure Adr where
 f:Nat
 p:Nat
 mf:Nat
 mb:Nat
 mp:Nat
 ms:Nat
 ft:List Nat
 fsA:AV
 ext:List Nat
def Adr.all(A:Adr):List Nat:=A.f::A.mf::A.mb::A.mp::A.ms::A.ft
def Adr.av(A:Adr):List Nat:=A.all++A.ext
def Adr.wr(A:Adr):List Nat:=A.f::A.mf::A.ft
def flOf(A:Adr)(S:Ps):Fl:=⟨.ptr A.p 0,S.g,A.mf,A.mb,A.mp,A.ms,S.seq,S.ep,S.now,S.deg⟩
def layV(v:Ver):List (BitVec 8):=laid v.d v.t.k v.t.p v.t.s v.t.e
structure CRel (C:Chip) (S:Ps):Prop where
 g:C.g=S.g
 fs:C.fs=S.fs
 calm:Calm C
 ops:C.ops=S.ops
 blk:∀ (b:Nat) B,C.bs[b]? =some B→∃ X,S.x[b]? =some X∧B.next=X.v.length∧B.wear=X.w∧B.done=X.n∧(∀ j v,X.v[j]? =some v→pageB B (rawN C.g) j=layV v)∧∀ j,X.v.length≤j→j<nG S→pageB B (rawN C.g) j=List.replicate (rawN C.g) 255#8
structure FR (A:Adr) (M:Mem) (S:Ps) (C:Chip) (m:List Fnd):Prop where
 wf:M.WF
 inv:PInv S
 fl:M.get A.f=some (.cells (flC (flOf A S)) true)
 chip:ChipAt M A.p C
 foot:foot A.p C=A.ft
 fsA:C.fsA=A.fsA
 rel:CRel C S
 mf:M.get A.mf=some (.map (mK m))
 nd:(m.map (·.1)).Nodup
 lnk:∀ q:Fnd,q∈m→∃ (b i:Nat) (v:Ver),q.1=((b:Int),(i:Int))∧verAt S b i=some v∧(q.2.k=v.t.k∧q.2.p=v.t.p∧q.2.s=v.t.s∧q.2.e=v.t.e)∧BytesAt M q.2.d v.d∧q.2.d.one=true∧∀ c,inBlk q.2.d c→c∉A.av
 hav:∀ (b i:Nat) v,verAt S b i=some v→∃ q,q∈m∧q.1=((b:Int),(i:Int))
 dis:A.all.Nodup
 fsx:∀ c,inBlk A.fsA c→c∉A.av
section
variable {A:Adr} {M:Mem} {S:Ps} {C:Chip} {m:List Fnd}
theorem FR.flat(h:FR A M S C m):FlAt M A.f (flOf A S) A.p C:=⟨h.fl,h.chip,rfl,h.rel.g.symm⟩
theorem Adr.wr_av{A:Adr}{c:Nat}(h:c∈A.wr):c∈A.av:=by
 simp only[Adr.wr,Adr.av,Adr.all,List.mem_cons,List.mem_append] at h ⊢
 rcases h with h|h|h
 ·exact .inl (.inl h)
 ·exact .inl (.inr (.inl h))
 ·exact .inl (.inr (.inr (.inr (.inr (.inr h)))))
theorem FR.lt(h:FR A M S C m):∀ c∈A.wr,c<M.next:=by
 intro c hc
 simp only[Adr.wr,List.mem_cons] at hc
 rcases hc with rfl|rfl|hc
 ·exact h.wf _ _ h.fl
 ·exact h.wf _ _ h.mf
 ·exact h.chip.lt h.wf c (by rw[h.foot];exact hc)
theorem FR.keepS{N:Mem}{T:List Nat}(h:FR A M S C m)(hk:Keep M N T)(hT:∀ c∈T,c∉A.wr∧¬ inBlk A.fsA c∧∀ q∈m,¬ inBlk q.2.d c):FR A N S C m:=by
 have hn:∀ c,c∈A.wr→c∉T:=fun c hc ht=>(hT c ht).1 hc
 refine⟨hk.wf,h.inv,hk.get h.wf h.fl (hn _ (by simp[Adr.wr])),h.chip.keepS h.wf hk (fun b hb=>⟨fun hf=>(hT b hb).1 ?_,by rw[h.fsA];exact (hT b hb).2.1⟩),h.foot,h.fsA,h.rel,hk.get h.wf h.mf (hn _ (by simp[Adr.wr])),h.nd,fun q hq=>?_,h.hav,h.dis,h.fsx⟩
 ·rw[h.foot] at hf
  simp[Adr.wr,hf]
 ·obtain⟨b,i,v,e1,e2,e3,e4,e5,e6⟩:=h.lnk q hq
  exact⟨b,i,v,e1,e2,e3,SlAt.keep e4 h.wf hk (fun c hc ht=>(hT c ht).2.2 q hq hc),e5,e6⟩
theorem FR.post{N:Mem}(h:FR A M S C m)(hk:Keep M N []):FR A N S C m:=h.keepS hk (by simp)
theorem FR.aside(h:FR A M S C m){T:List Nat}(hT:∀ c∈T,M.next≤c):FR { A with ext:=T++A.ext } M S C m:=by
 refine⟨h.wf,h.inv,h.fl,h.chip,h.foot,h.fsA,h.rel,h.mf,h.nd,fun q hq=>?_,h.hav,h.dis,fun c hc hm=>?_⟩
 ·obtain⟨b,i,v,e1,e2,e3,e4,e5,e6⟩:=h.lnk q hq
  refine⟨b,i,v,e1,e2,e3,e4,e5,fun c hc hm=>?_⟩
  have hlt:=SlAt.blk_lt e4 h.wf hc
  simp only[Adr.av,List.mem_append] at hm
  rcases hm with hm|hm|hm
  ·exact e6 c hc (by simp only[Adr.av,List.mem_append];exact .inl hm)
  ·have:=hT c hm;omega
  ·exact e6 c hc (by simp only[Adr.av,List.mem_append];exact .inr hm)
 ·have hlt:=SlAt.blk_lt h.chip.flt h.wf (by rw[h.fsA];exact hc)
  simp only[Adr.av,List.mem_append] at hm
  rcases hm with hm|hm|hm
  ·exact h.fsx c hc (by simp only[Adr.av,List.mem_append];exact .inl hm)
  ·have:=hT c hm;omega
  ·exact h.fsx c hc (by simp only[Adr.av,List.mem_append];exact .inr hm)
theorem FR.back{T:List Nat}(h:FR { A with ext:=T++A.ext } M S C m):FR A M S C m:=by
 have hav:∀ c,c∈A.av→c∈({ A with ext:=T++A.ext }:Adr).av:=fun c hc=>by
  simp only[Adr.av,Adr.all,List.mem_append] at hc ⊢
  exact hc.imp id .inr
 refine⟨h.wf,h.inv,h.fl,h.chip,h.foot,h.fsA,h.rel,h.mf,h.nd,fun q hq=>?_,h.hav,h.dis,fun c hc hm=>h.fsx c hc (hav c hm)⟩
 obtain⟨b,i,v,e1,e2,e3,e4,e5,e6⟩:=h.lnk q hq
 exact⟨b,i,v,e1,e2,e3,e4,e5,fun c hc hm=>e6 c hc (hav c hm)⟩
theorem FR.keepX{N:Mem}{T:List Nat}(h:FR A M S C m)(hk:Keep M N T)(hT:∀ c∈T,c∈A.ext∧c∉A.wr):FR A N S C m:=by
 refine h.keepS hk fun c hc=>⟨(hT c hc).2,fun hm=>h.fsx c hm ?_,fun q hq hm=>?_⟩
 ·simp only[Adr.av,List.mem_append];exact .inr (hT c hc).1
 ·obtain⟨b,i,v,e1,e2,e3,e4,e5,e6⟩:=h.lnk q hq
  exact e6 c hm (by simp only[Adr.av,List.mem_append];exact .inr (hT c hc).1)
theorem FR.geo(h:FR A M S C m):S.g.bl=(nB S:Int)∧S.g.pg=(nG S:Int)∧8≤nB S∧nB S≤20∧4≤nG S∧nG S≤8:=h.inv.geo
theorem FR.blen(h:FR A M S C m):C.bs.length=nB S:=by rw[h.chip.len,h.rel.g];rfl
theorem FR.bl(h:FR A M S C m):C.g.bl.toNat=nB S:=by rw[h.rel.g];rfl
theorem FR.block(h:FR A M S C m){b:Nat}(hb:b<nB S):∃ B X,C.bs[b]? =some B∧S.x[b]? =some X∧B.next=X.v.length∧B.wear=X.w∧B.done=X.n:=by
 have hb':b<C.bs.length:=by rw[h.blen];exact hb
 obtain⟨X,e1,e2,e3,e4,_⟩:=h.rel.blk b _ (List.getElem?_eq_getElem hb')
 exact⟨_,X,List.getElem?_eq_getElem hb',e1,e2,e3,e4⟩
theorem FR.lostB(h:FR A M S C m){b:Nat}(hb:b<nB S):lostB C (b:Int)=xLost S b:=by
 obtain⟨B,X,e1,e2,_,_,e5⟩:=h.block hb
 unfold Go.Proofs.YtlogedcoiogagaaGreat.lostB failed xLost
 rw[Int.toNat_natCast,e1,e2,h.rel.fs]
 simp only[e5]
 rw[decide_eq_true (by omega:(0:Int)≤(b:Int)),Bool.true_and]
theorem FR.usedB(h:FR A M S C m){b:Nat}(hb:b<nB S):usedOf C (b:Int)=xUsed S b:=by
 obtain⟨B,X,e1,e2,e3,_,e5⟩:=h.block hb
 unfold usedOf xUsed
 rw[Int.toNat_natCast,e1,e2,if_pos (by omega)]
 exact e3
theorem FR.wearB(h:FR A M S C m){b:Nat}(hb:b<nB S):wearOf C (b:Int)=xWear S b:=by
 obtain⟨B,X,e1,e2,_,e4,e5⟩:=h.block hb
 unfold wearOf xWear
 rw[Int.toNat_natCast,e1,e2,if_pos (by omega)]
 exact e4
theorem keep_grow{M P N:Mem}{x x':AV}(hk:Keep M P [])(hg:GrowTo P N x x')(hf:∀ c,inBlk x c→M.next≤c):Keep M N []:=by
 refine⟨hg.wf,Nat.le_trans hk.nxt hg.nxt,fun c hc _=>?_⟩
 have h1:=hk.nxt
 rw[hg.old c (by omega) (fun hm=>by have:=hf c hm;omega)]
 exact hk.old c hc (by simp)
theorem c_used(M:Mem)(hw:M.WF)(p:Nat)(C:Chip)(h:ChipAt M p C)(b:Int):CallA tb.P 113 [.ptr p 0,i64 b] M fun y N=>y=i64 (usedOf C b)∧Keep M N []:=by
 refine F113_ok ?_
 unfold F113
 simp only[i64,zZi]
 refine (c_at M hw p C h b).mono ?_
 rintro y N ⟨rfl,hk⟩
 obtain⟨x,d,e⟩:=atC_is C b
 rw[e]
 exact⟨_,_,_,_,rfl,rfl,hk⟩
theorem j_bad(h:FR A M S C m){b:Nat}(hb:b<nB S):CallA tb.P 112 [.ptr A.f 0,i64 (b:Int)] M fun y N=>y= .val (.bool (xLost S b))∧Keep M N []:=by
 have:=f_bad M h.wf A.f (flOf A S) A.p C h.flat (b:Int)
 rw[h.lostB hb] at this
 exact this
theorem lostC_cnt(h:FR A M S C m):∀ n,n≤nB S→lostC C n=cnt n (xLost S)
 | 0,_=>rfl
 | n+1,hn=>by
   rw[lostC_succ,cnt_succ,lostC_cnt h n (by omega),h.lostB (by omega)]
theorem j_lost(h:FR A M S C m):CallA tb.P 79 [.ptr A.f 0] M fun y N=>y=i64 (lostN S:Int)∧Keep M N []:=by
 have:=f_lost M h.wf A.f (flOf A S) A.p C h.flat
 rw[h.bl,lostC_cnt h _ (Nat.le_refl _)] at this
 exact this
theorem j_good(h:FR A M S C m){b:Nat}(hb:b<nB S):CallA tb.P 83 [.ptr A.f 0,i64 (b:Int)] M fun y N=>y= .val (.bool (xGood S b))∧Keep M N []:=by
 refine F83_ok ?_
 unfold F83
 simp only[i64,zZi]
 refine (j_bad h hb).mono ?_
 rintro y N ⟨rfl,hk⟩
 rw[zZb]
 exact⟨rfl,hk⟩
theorem j_used(h:FR A M S C m){b:Nat}(hb:b<nB S):CallA tb.P 113 [.ptr A.p 0,i64 (b:Int)] M fun y N=>y=i64 (xUsed S b:Int)∧Keep M N []:=by
 have:=c_used M h.wf A.p C h.chip (b:Int)
 rw[h.usedB hb] at this
 exact this
theorem fa_chip{f:Nat}{M:Mem}:eFA tb 83 (.ptr f 0) 0 M=some (.ptr f 0,M):=(fl_fa f).1
theorem fa_g{f:Nat}{M:Mem}:eFA tb 83 (.ptr f 0) 1 M=some (.ptr f 1,M):=(fl_fa f).2.1
theorem fa_mf{f:Nat}{M:Mem}:eFA tb 83 (.ptr f 0) 2 M=some (.ptr f 6,M):=(fl_fa f).2.2.1
theorem FR.ldp(h:FR A M S C m):eLd tb 28 (.ptr A.f 0) M=some (.ptr A.p 0,M):=h.flat.ldp
theorem FR.lbl(h:FR A M S C m):eLd tb 3 (.ptr A.f 1) M=some (.val (.int .i64 (nB S:Int)),M):=by
 have:=lZs (T:=tb) (lZc ty3 rfl h.fl (o:=1) (v:=i64 S.g.bl) rfl)
 rw[h.geo.1] at this
 exact this
theorem FR.lpg(h:FR A M S C m):eLd tb 3 (.ptr A.f (1+1)) M=some (.val (.int .i64 (nG S:Int)),M):=by
 have:=lZs (T:=tb) (lZc ty3 rfl h.fl (o:=2) (v:=i64 S.g.pg) rfl)
 rw[h.geo.2.1] at this
 exact this
theorem FR.lsp(h:FR A M S C m):eLd tb 3 (.ptr A.f (1+3)) M=some (.val (.int .i64 S.g.sp),M):=lZs (lZc ty3 rfl h.fl rfl)
theorem FR.ltr(h:FR A M S C m):eLd tb 3 (.ptr A.f (1+4)) M=some (.val (.int .i64 S.g.tr),M):=lZs (lZc ty3 rfl h.fl rfl)
theorem j_free(h:FR A M S C m){b:Nat}(hb:b<nB S):CallA tb.P 81 [.ptr A.f 0,i64 (b:Int)] M fun y N=>y= .val (.bool (xFree S b))∧Keep M N []:=by
 refine F81_ok ?_
 unfold F81
 simp only[i64,zZi]
 refine lZi fun K hK=>?_
 refine (j_good h hb).mono ?_
 rintro y N ⟨rfl,hk⟩
 rw[zZb]
 have hN:=h.post hk
 refine cZi (fun e=>?_) (fun e=>?_)
 ·refine bZi eZn ?_
  refine bZi fa_chip ?_
  rw[zZp]
  refine bZi hN.ldp ?_
  refine (j_used hN hb).mono ?_
  rintro y N2 ⟨rfl,hk2⟩
  simp only[i64,zZi]
  rw[hK]
  refine⟨?_,hk.trans0 hk2⟩
  unfold xFree
  rw[e,Bool.true_and]
  congr 2
  rw[Bool.eq_iff_iff,beq_iff_eq,beq_iff_eq]
  omega
 ·rw[hK]
  refine⟨?_,hk⟩
  unfold xFree
  rw[e]
  rfl
theorem j_target(h:FR A M S C m):CallA tb.P 82 [.ptr A.f 0] M fun y N=>y=i64 (target S)∧Keep M N []:=by
 refine F82_ok ?_
 unfold F82
 refine bZi eZn ?_
 refine bZi fa_g ?_
 rw[zZp]
 refine bZi h.lsp ?_
 simp only[zZi]
 refine (j_lost h).mono ?_
 rintro y N ⟨rfl,hk⟩
 simp only[i64,zZi]
 have hm:=mayG_iff.1 h.inv.may
 have hg:=h.geo
 have hl:lostN S≤nB S:=cnt_le _ _
 refine⟨bZi (h.post hk).lsp rfl,?_,hk⟩
 rw[ia (by omega),is' (by omega)]
 rfl
def wsX(S:Ps)(n:Nat):List Int:=(List.range n).map (xWear S)
theorem wsX_succ(S:Ps)(n:Nat):(wsX S (n+1)).map i64=(wsX S n).map i64++[i64 (xWear S n)]:=by
 unfold wsX
 rw[List.range_succ]
 simp
theorem wsX_len(S:Ps)(n:Nat):(wsX S n).length=n:=by simp[wsX]
theorem j_wears(h:FR A M S C m):CallA tb.P 87 [.ptr A.f 0] M fun y N=>GrV N y ((wsX S (nB S)).map i64)∧Keep M N []∧∀ c,inBlk y c→M.next≤c:=by
 refine F87_ok ?_
 unfold F87
 refine bZi eZn ?_
 refine bZi fa_g ?_
 rw[zZp]
 refine bZi h.lbl ?_
 simp only[zZi]
 have hg:=h.geo
 refine⟨fun x i n P=>∃ j:Nat,i=j∧n=nB S-j∧j≤nB S∧Keep M P []∧GrV P x ((wsX S j).map i64)∧∀ c,inBlk x c→M.next≤c,⟨_,0,rfl,rfl,Nat.zero_le _,Keep.refl h.wf,.inl ⟨rfl,rfl⟩,fun c hc=>hc.elim⟩,?_⟩
 rintro _ x i n P ⟨j,rfl,rfl,hj,hk,hx,fx⟩
 refine cZi (fun hlt=>?_) (fun hge=>?_)
 ·have hlt:j<nB S:=Int.ofNat_lt.1 (of_decide_eq_true hlt)
  have hP:=h.post hk
  refine bZi eZn ?_
  refine bZi fa_chip ?_
  rw[zZp]
  refine bZi hP.ldp ?_
  refine (c_wear P hk.wf A.p C hP.chip (j:Int)).mono ?_
  rintro y N ⟨rfl,hkN⟩
  rw[hP.wearB hlt]
  simp only[i64,zZi]
  refine lZi fun M21 hM21=>?_
  subst hM21
  obtain⟨x',N',g1,g2,g3,g4⟩:=GrV.grow ty25 ty3 rfl (by decide) hkN.wf (hx.keep0 hk.wf hkN) (i64 (xWear S j)) rfl (by rw[List.length_map,wsX_len];omega)
  refine bZi g1 ?_
  rw[← wsX_succ] at g2
  refine⟨_,by omega,j+1,iInc (by omega),rfl,by omega,keep_grow (hk.trans0 hkN) g3 fx,g2,fun c hc=>?_⟩
  have:=g4 c hc
  have:=hk.nxt
  have:=hkN.nxt
  omega
 ·have hge:¬ (j:Int)<nB S:=of_decide_eq_false hge
  have:j=nB S:=by omega
  subst this
  exact⟨hx,hk,fx⟩
def AskB(A:Adr)(S:Ps)(C:Chip)(m:List Fnd)(a1:AV)(is:Nat→Bool)(M0:Mem):Prop:=∀ (N:Mem) (b:Nat) (K:AV→Mem→Prop),b<nB S→Keep M0 N []→FR A N S C m→(∀ N',Keep N N' []→K (.val (.bool (is b))) N')→eCall tb a1 [.val (.int .i64 (b:Int))] N K
theorem ask_fn{g:FuncId}{f:Func}{a:List AV}{is:Nat→Bool}{M0:Mem}{cs:List AV}(hf:tb.fn.get g=some f)(hc:∀ (N:Mem) (b:Nat),b<nB S→Keep M0 N []→FR A N S C m→CallA tb.P g (a++[.val (.int .i64 (b:Int))]++cs) N fun y N'=>y= .val (.bool (is b))∧Keep N N' []):AskB A S C m (.fn g a cs) is M0:=by
 intro N b K hb hk hN hK
 unfold eCall
 simp only[caseO_some]
 rw[hf,bZs]
 exact (hc N b hb hk hN).mono fun y N' h=>by rw[h.1];exact hK N' h.2
def isX(is:Nat→Bool)(n:Nat):List Bool:=(List.range n).map is
theorem isX_succ(is:Nat→Bool)(n:Nat):(isX is (n+1)).map bv=(isX is n).map bv++[bv (is n)]:=by
 unfold isX
 rw[List.range_succ]
 simp
theorem isX_len(is:Nat→Bool)(n:Nat):(isX is n).length=n:=by simp[isX]
theorem j_these(h:FR A M S C m){a1:AV}{is:Nat→Bool}(ha:AskB A S C m a1 is M):CallA tb.P 88 [.ptr A.f 0,a1] M fun y N=>GrV N y ((isX is (nB S)).map bv)∧Keep M N []∧∀ c,inBlk y c→M.next≤c:=by
 refine F88_ok ?_
 unfold F88
 refine bZi eZn ?_
 refine bZi fa_g ?_
 rw[zZp]
 refine bZi h.lbl ?_
 simp only[zZi]
 have hg:=h.geo
 refine⟨fun x i n P=>∃ j:Nat,i=j∧n=nB S-j∧j≤nB S∧Keep M P []∧GrV P x ((isX is j).map bv)∧∀ c,inBlk x c→M.next≤c,⟨_,0,rfl,rfl,Nat.zero_le _,Keep.refl h.wf,.inl ⟨rfl,rfl⟩,fun c hc=>hc.elim⟩,?_⟩
 rintro _ x i n P ⟨j,rfl,rfl,hj,hk,hx,fx⟩
 refine cZi (fun hlt=>?_) (fun hge=>?_)
 ·have hlt:j<nB S:=Int.ofNat_lt.1 (of_decide_eq_true hlt)
  have hP:=h.post hk
  refine ha P j _ hlt hk hP fun N hkN=>?_
  rw[zZb]
  refine lZi fun M21 hM21=>?_
  subst hM21
  obtain⟨x',N',g1,g2,g3,g4⟩:=GrV.grow ty103 ty4 rfl (by decide) hkN.wf (hx.keep0 hk.wf hkN) (bv (is j)) rfl (by rw[List.length_map,isX_len];omega)
  refine bZi g1 ?_
  rw[← isX_succ] at g2
  refine⟨_,by omega,j+1,iInc (by omega),rfl,by omega,keep_grow (hk.trans0 hkN) g3 fx,g2,fun c hc=>?_⟩
  have:=g4 c hc
  have:=hk.nxt
  have:=hkN.nxt
  omega
 ·have hge:¬ (j:Int)<nB S:=of_decide_eq_false hge
  have:j=nB S:=by omega
  subst this
  exact⟨hx,hk,fx⟩
theorem j_many(h:FR A M S C m){a1:AV}{is:Nat→Bool}(ha:AskB A S C m a1 is M):CallA tb.P 80 [.ptr A.f 0,a1] M fun y N=>y=i64 (cnt (nB S) is:Int)∧Keep M N []:=by
 refine F80_ok ?_
 unfold F80
 refine (j_these h ha).mono ?_
 rintro y N ⟨hy,hk,fy⟩
 refine bZi (bools_len hy.at) ?_
 rw[isX_len]
 simp only[zZi]
 have hg:=h.geo
 refine⟨fun a i n P=>∃ j:Nat,a=cnt j is∧i=j∧n=nB S-j∧j≤nB S∧P=N,⟨_,0,rfl,rfl,rfl,Nat.zero_le _,rfl⟩,?_⟩
 rintro _ a i n P ⟨j,rfl,rfl,rfl,hj,rfl⟩
 refine cZi (fun hlt=>?_) (fun hge=>?_)
 ·have hlt:j<nB S:=Int.ofNat_lt.1 (of_decide_eq_true hlt)
  refine lZi fun K hK=>?_
  obtain⟨b,o,g1,g2,g3⟩:=bool_one hy.at (i:=j) (by rw[isX_len];exact hlt)
  refine bZi (g1 P) ?_
  rw[zZp]
  refine bZi g3 ?_
  rw[zZb]
  have e:(isX is (nB S)).getD j false=is j:=by unfold isX;simp[hlt]
  rw[e]
  have hs:=cnt_succ j is
  have hle:=cnt_le j is
  refine cZi (fun hb=>?_) (fun hb=>?_)
  ·rw[hK]
   exact⟨_,by omega,j+1,by rw[iInc (by omega),hs,if_pos hb],iInc (by omega),rfl,hlt,rfl⟩
  ·rw[hK]
   exact⟨_,by omega,j+1,by rw[hs,if_neg (by rw[hb];simp),Nat.add_zero],iInc (by omega),rfl,hlt,rfl⟩
 ·have hge:¬ (j:Int)<nB S:=of_decide_eq_false hge
  have:j=nB S:=by omega
  subst this
  exact⟨rfl,hk⟩
end
section
variable {A:Adr} {M:Mem} {S:Ps} {C:Chip} {m:List Fnd}
theorem wsX_get(S:Ps){n b:Nat}(h:b<n):(wsX S n).getD b 0=xWear S b:=by unfold wsX;simp[h]
theorem isX_get(is:Nat→Bool){n b:Nat}(h:b<n):(isX is n).getD b false=is b:=by unfold isX;simp[h]
theorem bst_best(lt:Int→Int→Bool)(S:Ps)(is:Nat→Bool)(n:Nat):∀ i,i≤n→bst lt (wsX S n) (isX is n) i=best1 lt (xWear S) is i
 | 0,_=>rfl
 | i+1,hi=>by
   have ih:=bst_best lt S is n i (by omega)
   have hb:=bst_bnd lt (wsX S n) (isX is n) i
   rw[bst,best1,ih,isX_get is (by omega),wsX_get S (by omega)]
   rw[ih] at hb
   cases hg:is i with
   | false=>simp
   | true=>
     rw[if_pos rfl]
     by_cases hn:best1 lt (xWear S) is i<0
     ·rw[if_pos hn,if_pos (by simp[hn])]
     ·rw[if_neg hn,wsX_get S (by omega)]
      cases hl:lt (xWear S i) (xWear S (best1 lt (xWear S) is i).toNat) with
      | true=>rw[if_pos rfl,if_pos (by simp)]
      | false=>rw[if_neg (by simp),if_neg (by simp;omega)]
theorem w_least(M:Mem)(x z:AV)(ws:List Int)(gd:List Bool)(hx:VsAt M x (ws.map i64))(hz:VsAt M z (gd.map bv))(hl:gd.length=ws.length)(hb:ws.length≤10000):
 CallA tb.P 91 [x,z] M fun y N=>y=i64 (bst (fun a b=>decide (a<b)) ws gd ws.length)∧N=M:=by
 refine F91_ok ?_
 unfold F91
 refine (w_best M x z _ (fun a b=>decide (a<b)) call135 ws gd hx hz hl hb).mono ?_
 rintro y N ⟨rfl,rfl⟩
 simp only[i64,zZi]
 exact⟨by trivial,by trivial⟩
theorem j_fresh(h:FR A M S C m):CallA tb.P 124 [.ptr A.f 0] M fun y N=>y= .tup [i64 (xFresh S),.val (.bool (decide (xFresh S≥0)))]∧Keep M N []:=by
 have hg:=h.geo
 refine F124_ok ?_
 unfold F124
 refine (j_wears h).mono ?_
 rintro y N ⟨hy,hk,fy⟩
 have hN:=h.post hk
 refine (j_these hN (is:=xFree S) (ask_fn fn81 fun N' b hb _ hN'=>j_free hN' hb)).mono ?_
 rintro z N2 ⟨hz,hk2,fz⟩
 refine F155_ok ?_
 unfold F155
 refine (w_least N2 y z _ _ (hy.keep0 hk.wf hk2).at hz.at (by rw[wsX_len,isX_len]) (by rw[wsX_len];omega)).mono ?_
 rintro r N3 ⟨rfl,rfl⟩
 rw[wsX_len,bst_best _ S _ _ _ (Nat.le_refl _)]
 simp only[i64,zZi]
 exact⟨rfl,hk.trans0 hk2⟩
theorem spr_is(h:FR A M S C m)(hw:∀ b,b<nB S→0≤xWear S b∧xWear S b≤1000000000):sprL (wsX S (nB S)) (isX (xGood S) (nB S))=spreadX S:=by
 have hg:=h.geo
 unfold sprL spreadX
 rw[wsX_len,bst_best _ S _ _ _ (Nat.le_refl _),bst_best _ S _ _ _ (Nat.le_refl _)]
 by_cases hn:best1 (fun a b=>decide (a<b)) (xWear S) (xGood S) (nB S)<0
 ·simp only[hn,if_true]
 ·simp only[hn,if_false]
  obtain⟨h1,h2⟩:=best1_is (lt:=fun a b=>decide (a<b)) (ws:=xWear S) (gd:=xGood S) (n:=nB S) (by omega)
  have h3:0≤best1 (fun a b=>decide (a>b)) (xWear S) (xGood S) (nB S):=by
   by_cases hm:best1 (fun a b=>decide (a>b)) (xWear S) (xGood S) (nB S)<0
   ·have:=best1_neg hm (best1 (fun a b=>decide (a<b)) (xWear S) (xGood S) (nB S)).toNat (by omega)
    rw[this] at h2;cases h2
   ·omega
  obtain⟨h4,_⟩:=best1_is h3
  rw[wsX_get S (by omega),wsX_get S (by omega)]
  have a1:=hw (best1 (fun a b=>decide (a>b)) (xWear S) (xGood S) (nB S)).toNat (by omega)
  have a2:=hw (best1 (fun a b=>decide (a<b)) (xWear S) (xGood S) (nB S)).toNat (by omega)
  rw[is' (by omega)]
theorem j_due(h:FR A M S C m)(hw:∀ b,b<nB S→0≤xWear S b∧xWear S b≤1000000000){x z:AV}(hx:VsAt M x ((wsX S (nB S)).map i64))(hz:VsAt M z ((isX (xGood S) (nB S)).map bv))(t:Int):
 CallA tb.P 89 [x,z,i64 t] M fun y N=>y= .val (.bool (decide (spreadX S>t)))∧N=M:=by
 have hg:=h.geo
 refine F89_ok ?_
 unfold F89
 simp only[i64,zZi]
 refine (w_spread M x z _ _ hx hz (by rw[wsX_len,isX_len]) (by rw[wsX_len];omega)).mono ?_
 rintro r N ⟨rfl,rfl⟩
 rw[spr_is h hw]
 simp only[i64,zZi]
 exact⟨by trivial,by trivial⟩
theorem first1_no{is:Nat→Bool}:∀ {n:Nat},(∀ k,k<n→is k=false)→first1 is n= -1
 | 0,_=>rfl
 | n+1,h=>by
   rw[first1,first1_no fun k hk=>h k (by omega),h n (by omega)]
   rfl
theorem first1_at{is:Nat→Bool}:∀ {n j:Nat},(∀ k,k<j→is k=false)→j<n→is j=true→first1 is n=j
 | 0,_,_,h,_=>by omega
 | n+1,j,h,hj,hi=>by
   rw[first1]
   by_cases e:j=n
   ·subst e
    rw[first1_no h,hi]
    rfl
   ·rw[first1_at h (by omega) hi,if_pos (by omega)]
theorem s_index(M:Mem){x:AV}{gd:List Bool}(hx:VsAt M x (gd.map bv))(hn:gd.length≤10000):CallA tb.P 149 [x,.val (.bool true)] M fun y N=>y=i64 (first1 (fun b=>gd.getD b false) gd.length)∧N=M:=by
 refine F149_ok ?_
 unfold F149
 rw[zZb]
 refine bZi (bools_len hx) ?_
 simp only[zZi]
 refine⟨fun i n P=>∃ j:Nat,i=j∧n=gd.length-j∧j≤gd.length∧P=M∧∀ k,k<j→gd.getD k false=false,⟨_,0,rfl,rfl,Nat.zero_le _,rfl,fun k hk=>by omega⟩,?_⟩
 rintro _ i n P ⟨j,rfl,rfl,hj,rfl,hf⟩
 refine cZi (fun hlt=>?_) (fun hge=>?_)
 ·have hlt:j<gd.length:=Int.ofNat_lt.1 (of_decide_eq_true hlt)
  obtain⟨b,o,g1,g2,g3⟩:=bool_one hx (i:=j) hlt
  refine bZi (g1 P) ?_
  rw[zZp]
  refine bZi g3 ?_
  rw[zZb]
  refine bZi (eq_bool _ _ true (gd.getD j false) P) ?_
  rw[zZb]
  refine cZi (fun hb=>?_) (fun hb=>?_)
  ·have hb:gd.getD j false=true:=by simpa using hb
   rw[first1_at hf hlt hb]
   exact⟨rfl,rfl⟩
  ·have hb:gd.getD j false=false:=by simpa using hb
   refine⟨_,by omega,j+1,iInc (by omega),rfl,hlt,rfl,fun k hk=>?_⟩
   by_cases e:k=j
   ·rw[e];exact hb
   ·exact hf k (by omega)
 ·have hge:¬ (j:Int)<gd.length:=of_decide_eq_false hge
  have:j=gd.length:=by omega
  subst this
  rw[first1_no hf]
  exact⟨rfl,rfl⟩
theorem min3(M:Mem)(a:Int):eMin tb #[3,3,3] 3 [.int .i64 a,.int .i64 a,.int .i64 a] M=some (.val (.int .i64 a),M):=by
 unfold eMin
 have:peek tb.P (Builtin.min_ #[3,3,3] 3 ⟨[.int .i64 a,.int .i64 a,.int .i64 a]⟩)=some (.int .i64 (if a<(if a<a then a else a) then a else (if a<a then a else a))):=rfl
 rw[this]
 simp
 rfl
theorem v_pick(M:Mem){x y z:AV}{S:Ps}{is:Nat→Bool}{n:Nat}{lvs:Nat→Nat}(hn:n≤1000)(hx:VsAt M x (((List.range n).map fun b=>(lvs b:Int)).map i64))(hy:VsAt M y ((wsX S n).map i64))(hz:VsAt M z ((isX is n).map bv)):
 CallA tb.P 175 [x,y,z] M fun r N=>r=i64 (pick1 lvs (xWear S) is n)∧N=M:=by
 refine F175_ok ?_
 unfold F175
 refine bZi (ints_len hx) ?_
 rw[List.length_map,List.length_range,zZi]
 refine bZi (ints_len hy) ?_
 rw[wsX_len,zZi]
 refine bZi (bools_len hz) ?_
 rw[isX_len,zZi]
 refine bZi (min3 M n) ?_
 rw[zZi]
 have bnd:∀ j:Nat, -1≤pick1 lvs (xWear S) is j∧pick1 lvs (xWear S) is j<j:=fun j=>by
  have:=pick1_spec lvs (xWear S) is j
  induction j with
  | zero=>exact⟨by rw[pick1];omega,by rw[pick1];omega⟩
  | succ j ih=>
    have ih:=ih (pick1_spec lvs (xWear S) is j)
    rw[pick1]
    split <;> omega
 refine⟨fun a i k P=>∃ j:Nat,a=pick1 lvs (xWear S) is j∧i=j∧k=n-j∧j≤n∧P=M,⟨_,0,rfl,rfl,rfl,Nat.zero_le _,rfl⟩,?_⟩
 rintro _ a i k P ⟨j,rfl,rfl,rfl,hj,rfl⟩
 refine cZi (fun hlt=>?_) (fun hge=>?_)
 ·have hlt:j<n:=Int.ofNat_lt.1 (of_decide_eq_true hlt)
  refine lZi fun K hK=>?_
  have key:∀ w:Int,w=pick1 lvs (xWear S) is (j+1)→K w:=by
   intro w hw
   rw[hK]
   exact⟨_,by omega,j+1,hw,iInc (by omega),rfl,hlt,rfl⟩
  clear hK
  have lz:∀ i:Nat,i<n→∃ b o,(∀ N,eIA tb 103 z (.val (.int .i64 (i:Int))) N=some (.ptr b o,N))∧eLd tb 4 (.ptr b o) P=some (.val (.bool (is i)),P):=fun i hi=>by
   obtain⟨b,o,g1,g2,g3⟩:=bool_one hz (i:=i) (by rw[isX_len];exact hi)
   rw[isX_get is hi] at g3
   exact⟨b,o,g1,g3⟩
  have ly:∀ i:Nat,i<n→∃ b o,(∀ N,eIA tb 25 y (.val (.int .i64 (i:Int))) N=some (.ptr b o,N))∧eLd tb 3 (.ptr b o) P=some (.val (.int .i64 (xWear S i)),P):=fun i hi=>by
   obtain⟨b,o,g1,g2,g3⟩:=int_one hy (i:=i) (by rw[wsX_len];exact hi)
   rw[wsX_get S hi] at g3
   exact⟨b,o,g1,g3⟩
  have lx:∀ i:Nat,i<n→∃ b o,(∀ N,eIA tb 25 x (.val (.int .i64 (i:Int))) N=some (.ptr b o,N))∧eLd tb 3 (.ptr b o) P=some (.val (.int .i64 (lvs i:Int)),P):=fun i hi=>by
   obtain⟨b,o,g1,g2,g3⟩:=int_one hx (i:=i) (by simpa using hi)
   have:((List.range n).map fun b=>(lvs b:Int)).getD i 0=lvs i:=by simp[hi]
   rw[this] at g3
   exact⟨b,o,g1,g3⟩
  obtain⟨b1,o1,g1,g2⟩:=lz j hlt
  refine bZi (g1 P) ?_
  rw[zZp]
  refine bZi g2 ?_
  rw[zZb]
  refine cZi (fun hb=>key _ ?_) (fun hb=>?_)
  ·have hb:is j=false:=by simpa using hb
   rw[pick1,hb]
   simp
  have hb:is j=true:=by simpa using hb
  refine lZi fun K2 hK2=>?_
  have key2:∀ t:Bool,t=(decide (pick1 lvs (xWear S) is j<0)||(decide (lvs j<lvs (pick1 lvs (xWear S) is j).toNat)||(lvs j==lvs (pick1 lvs (xWear S) is j).toNat&&decide (xWear S j<xWear S (pick1 lvs (xWear S) is j).toNat))))→K2 t:=by
   intro t ht
   rw[hK2]
   refine cZi (fun e=>key _ ?_) (fun e=>key _ ?_)
   ·rw[pick1,hb,Bool.true_and,← ht,e,if_pos rfl]
   ·rw[pick1,hb,Bool.true_and,← ht,e,if_neg (by simp)]
  clear hK2
  obtain⟨bn1,bn2⟩:=bnd j
  refine cZi (fun e=>key2 _ (by rw[e];rfl)) (fun e=>?_)
  have e0:=of_decide_eq_false e
  obtain⟨q,hq⟩:∃ q:Nat,pick1 lvs (xWear S) is j=q:=⟨_,(Int.toNat_of_nonneg (by omega)).symm⟩
  rw[e,Bool.false_or] at key2
  rw[hq] at key2 ⊢
  rw[Int.toNat_natCast] at key2
  obtain⟨b2,o2,g3,g4⟩:=lx j hlt
  obtain⟨b3,o3,g5,g6⟩:=lx q (by omega)
  refine bZi (g3 P) ?_
  rw[zZp]
  refine bZi (g5 P) ?_
  rw[zZp]
  refine bZi g4 ?_
  rw[zZi]
  refine bZi g6 ?_
  rw[zZi]
  refine cZi (fun e2=>key2 _ ?_) (fun e2=>?_)
  ·have e2:=of_decide_eq_true e2
   rw[decide_eq_true (by omega:lvs j<lvs q),Bool.true_or]
  have e2:=of_decide_eq_false e2
  rw[decide_eq_false (by omega:¬ lvs j<lvs q),Bool.false_or] at key2
  refine bZi (g3 P) ?_
  rw[zZp]
  refine bZi (g5 P) ?_
  rw[zZp]
  refine bZi g4 ?_
  rw[zZi]
  refine bZi g6 ?_
  rw[zZi]
  refine cZi (fun e3=>?_) (fun e3=>key2 _ ?_)
  ·have e3:(lvs j:Int)=lvs q:=by simpa using e3
   have e4:(lvs j==lvs q)=true:=by rw[beq_iff_eq];omega
   rw[e4,Bool.true_and] at key2
   obtain⟨b4,o4,k1,k2⟩:=ly j hlt
   obtain⟨b5,o5,k3,k4⟩:=ly q (by omega)
   refine bZi (k1 P) ?_
   rw[zZp]
   refine bZi (k3 P) ?_
   rw[zZp]
   refine bZi k2 ?_
   rw[zZi]
   refine bZi k4 ?_
   rw[zZi]
   exact key2 _ rfl
  ·have e3:¬ (lvs j:Int)=lvs q:=by simpa using e3
   have e4:(lvs j==lvs q)=false:=by
    cases h:lvs j==lvs q with
    | false=>rfl
    | true=>rw[beq_iff_eq] at h;omega
   rw[e4];rfl
 ·have hge:¬ (j:Int)<n:=of_decide_eq_false hge
  have:j=n:=by omega
  subst this
  exact⟨rfl,rfl⟩
theorem j_open(h:FR A M S C m){q:Nat}{rw':Bool}(hq:M.get q=some (.cells [.ptr A.f 0] rw')){b:Nat}(hb:b<nB S):CallA tb.P 150 [i64 (b:Int),.ptr q 0] M fun y N=>y= .val (.bool (xOpen S b))∧Keep M N []:=by
 refine F150_ok ?_
 unfold F150
 simp only[i64,zZi]
 refine lZi fun K hK=>?_
 have lq:∀ N,Keep M N []→eLd tb 30 (.ptr q 0) N=some (.ptr A.f 0,N):=fun N hk=>lZs (lZc ty30 rfl (hk.get h.wf hq (by simp)) rfl)
 refine bZi (lq M (Keep.refl h.wf)) ?_
 refine (j_good h hb).mono ?_
 rintro y N ⟨rfl,hk⟩
 rw[zZb]
 have hN:=h.post hk
 refine cZi (fun e=>?_) (fun e=>⟨trivial,trivial,?_⟩)
 ·refine bZi (lq N hk) ?_
  refine bZi eZn ?_
  refine bZi fa_chip ?_
  rw[zZp]
  refine bZi hN.ldp ?_
  refine (j_used hN hb).mono ?_
  rintro y N2 ⟨rfl,hk2⟩
  simp only[i64,zZi]
  have hN2:=hN.post hk2
  have hkk:=hk.trans0 hk2
  refine cZi (fun e2=>?_) (fun e2=>⟨trivial,trivial,?_⟩)
  ·refine bZi (lq N2 hkk) ?_
   refine bZi eZn ?_
   refine bZi fa_chip ?_
   rw[zZp]
   refine bZi hN2.ldp ?_
   refine bZi (lq N2 hkk) ?_
   refine bZi eZn ?_
   refine bZi fa_g ?_
   rw[zZp]
   refine bZi hN2.lpg ?_
   rw[zZi]
   refine (j_used hN2 hb).mono ?_
   rintro y N3 ⟨rfl,hk3⟩
   simp only[i64,zZi]
   refine⟨bZi (lq N3 (hkk.trans0 hk3)) rfl,bZi (hN2.post hk3).lpg rfl,?_⟩
   rw[hK]
   refine⟨?_,hkk.trans0 hk3⟩
   unfold xOpen
   rw[e,Bool.true_and]
   have e2:=of_decide_eq_true e2
   rw[decide_eq_true (by omega:0<xUsed S b),Bool.true_and]
   congr 2
   rw[decide_eq_decide]
   omega
  ·rw[hK]
   refine⟨?_,hkk⟩
   unfold xOpen
   have e2:=of_decide_eq_false e2
   rw[decide_eq_false (by omega:¬ 0<xUsed S b)]
   simp
 ·rw[hK]
  refine⟨?_,hk⟩
  unfold xOpen
  rw[e];rfl
theorem j_full(h:FR A M S C m){q:Nat}{rw':Bool}(hq:M.get q=some (.cells [.ptr A.f 0] rw')){b:Nat}(hb:b<nB S):CallA tb.P 173 [i64 (b:Int),.ptr q 0] M fun y N=>y= .val (.bool (xFull S b))∧Keep M N []:=by
 refine F173_ok ?_
 unfold F173
 simp only[i64,zZi]
 refine lZi fun K hK=>?_
 have lq:∀ N,Keep M N []→eLd tb 30 (.ptr q 0) N=some (.ptr A.f 0,N):=fun N hk=>lZs (lZc ty30 rfl (hk.get h.wf hq (by simp)) rfl)
 refine bZi (lq M (Keep.refl h.wf)) ?_
 refine (j_good h hb).mono ?_
 rintro y N ⟨rfl,hk⟩
 rw[zZb]
 have hN:=h.post hk
 refine cZi (fun e=>?_) (fun e=>⟨trivial,trivial,?_⟩)
 ·refine bZi (lq N hk) ?_
  refine bZi eZn ?_
  refine bZi fa_chip ?_
  rw[zZp]
  refine bZi hN.ldp ?_
  refine bZi (lq N hk) ?_
  refine bZi eZn ?_
  refine bZi fa_g ?_
  rw[zZp]
  refine bZi hN.lpg ?_
  rw[zZi]
  refine (j_used hN hb).mono ?_
  rintro y N2 ⟨rfl,hk2⟩
  simp only[i64,zZi]
  refine⟨bZi (lq N2 (hk.trans0 hk2)) rfl,bZi (hN.post hk2).lpg rfl,?_⟩
  rw[hK]
  refine⟨?_,hk.trans0 hk2⟩
  unfold xFull
  rw[e,Bool.true_and]
  congr 2
  rw[Bool.eq_iff_iff,beq_iff_eq,beq_iff_eq]
  omega
 ·rw[hK]
  refine⟨?_,hk⟩
  unfold xFull
  rw[e];rfl
end
section
variable {A:Adr} {M:Mem} {S:Ps} {C:Chip} {m:List Fnd}
theorem cmp_any(M:Mem)(a b:Int):CallA tb.P 77 [i64 a,i64 b] M fun y N=>(∃ z,y=i64 z)∧N=M:=by
 have is:∀ (N:Mem) (z:Int),CallA tb.P 111 [.val (.int .i64 z)] N fun y N'=>y= .val (.bool false)∧N'=N:=fun N z=>by
  refine F111_ok ?_
  unfold F111
  rw[zZi]
  exact⟨by simp,rfl⟩
 refine F77_ok ?_
 unfold F77
 simp only[i64,zZi]
 refine (is M a).mono ?_
 rintro y N ⟨rfl,rfl⟩
 rw[zZb]
 refine (is N b).mono ?_
 rintro y N2 ⟨rfl,rfl⟩
 rw[zZb,cZf,cZf]
 exact cZi (fun _=>⟨⟨_,rfl⟩,rfl⟩) (fun _=>cZi (fun _=>⟨⟨_,rfl⟩,rfl⟩) (fun _=>⟨⟨_,rfl⟩,rfl⟩))
theorem FR.ldg(h:FR A M S C m):eLd tb 23 (.ptr A.f 1) M=some (geoA S.g,M):=by
 have:=h.flat.ldg
 rw[h.rel.g] at this
 exact this
theorem j_cmp{M0:Mem}{b q:Nat}{rw':Bool}(h:FR A M0 S C m)(hq:M0.get q=some (.cells [.ptr A.f 0] rw'))(hqb:q≠b)(hb:b∉A.wr∧¬ inBlk A.fsA b∧∀ x∈m,¬ inBlk x.2.d b):CmpOk (.fn 76 [] [.ptr q 0]) M0 b:=by
 intro N f g K hk hK
 have hN:FR A N S C m:=h.keepS hk fun c hc=>by have:c=b:=by simpa using hc
                                               rw[this];exact hb
 have hqN:N.get q=some (.cells [.ptr A.f 0] rw'):=hk.get h.wf hq (by simpa using hqb)
 unfold eCall
 simp only[caseO_some]
 rw[fn76,bZs]
 refine CallA.mono (Q:=fun y N'=>(∃ z,y=i64 z)∧Keep N N' []) ?_ ?_
 rotate_left
 ·rintro y N' ⟨⟨z,rfl⟩,hk'⟩
  exact hK z N' hk'
 refine F76_ok ?_
 unfold F76
 refine⟨_,_,_,_,_,_,rfl,_,_,_,_,_,_,rfl,?_⟩
 refine lZi fun M13 hM13=>?_
 refine lZi fun M14 hM14=>?_
 have k13:Keep N M13 []:=by rw[hM13];exact Keep.new hN.wf _
 have k14:Keep N M14 []:=k13.trans0 (by rw[hM14];exact Keep.new k13.wf _)
 have g13:M14.get N.next=some (.cells (fdC f) true):=by
  rw[hM14,Mem.get_new,if_neg (by rw[hM13];show N.next≠N.next+1;omega),hM13];exact get_new _ _
 have g14:M14.get M13.next=some (.cells (fdC g) true):=by rw[hM14];exact get_new _ _
 clear hM13 hM14
 have h14:=hN.post k14
 have lq:∀ N',Keep N N' []→eLd tb 30 (.ptr q 0) N'=some (.ptr A.f 0,N'):=fun N' hk=>lZs (lZc ty30 rfl (hk.get hN.wf hqN (by simp)) rfl)
 have lp:∀ (N':Mem) (c:Nat) (f:Fd),N'.get c=some (.cells (fdC f) true)→eLd tb 85 (.ptr c 0) N'=some (placeA f.b f.k,N'):=fun N' c f hg=>lZs (ld_agg (n:=2) ty85 rfl rfl hg (by simp[fdC]))
 refine bZi (lq _ k14) ?_
 refine bZi eZn ?_
 refine bZi fa_g ?_
 rw[zZp]
 refine bZi h14.ldg ⟨_,_,_,_,_,rfl,?_⟩
 refine bZi (lp _ _ _ g13) ⟨_,_,rfl,?_⟩
 refine bZi (lq _ k14) ?_
 refine bZi eZn ?_
 refine bZi fa_g ?_
 rw[zZp]
 refine bZi h14.ldg ⟨_,_,_,_,_,rfl,?_⟩
 refine bZi (lp _ _ _ g14) ⟨_,_,rfl,?_⟩
 refine (c_number M14 k14.wf S.g hN.inv.may f.b f.k).mono ?_
 rintro y N1 ⟨⟨z1,rfl,_⟩,hk1⟩
 simp only[i64,zZi]
 have g14':=hk1.get k14.wf g14 (by simp)
 refine⟨bZi (lq _ (k14.trans0 hk1)) rfl,bZi (h14.post hk1).ldg rfl,bZi (lp _ _ _ g14') rfl,?_⟩
 refine (c_number N1 hk1.wf S.g hN.inv.may g.b g.k).mono ?_
 rintro y N2 ⟨⟨z2,rfl,_⟩,hk2⟩
 simp only[i64,zZi]
 refine (cmp_any N2 z1 z2).mono ?_
 rintro y N3 ⟨⟨z3,rfl⟩,rfl⟩
 simp only[i64,zZi]
 exact⟨⟨_,rfl⟩,(k14.trans0 hk1).trans0 hk2⟩
def fdOf(q:Fnd):Fd:=⟨q.1.1,q.1.2,⟨q.2.k,q.2.p,q.2.s,q.2.e⟩⟩
theorem FR.few(h:FR A M S C m):m.length≤160:=by
 have hg:=h.geo
 have h1:(m.map (·.1)).length≤((List.range (nB S)).flatMap fun (b:Nat)=>(List.range (nG S)).map fun (i:Nat)=>((b:Int),(i:Int))).length:=by
  refine nodup_le h.nd fun c hc=>?_
  obtain⟨q,hq,rfl⟩:=List.mem_map.1 hc
  obtain⟨b,i,v,e1,e2,_⟩:=h.lnk q hq
  have hu:=verAt_used e2
  have hp:=h.inv.pgs b
  have hb:b<nB S:=by
   obtain⟨B,k1,k2⟩:=verAt_iff.1 e2
   have:=(List.getElem?_eq_some_iff.1 k1).1
   rw[h.inv.len] at this
   exact this
  rw[e1,List.mem_flatMap]
  exact⟨b,List.mem_range.2 hb,List.mem_map.2 ⟨i,List.mem_range.2 (by omega),rfl⟩⟩
 rw[List.length_map] at h1
 have h2:∀ n k:Nat,((List.range n).flatMap fun (b:Nat)=>(List.range k).map fun (i:Nat)=>((b:Int),(i:Int))).length=n*k:=fun n k=>by
  induction n with
  | zero=>simp
  | succ n ih=>rw[List.range_succ,List.flatMap_append,List.length_append,ih];simp[Nat.add_mul]
 rw[h2] at h1
 have:nB S*nG S≤20*8:=Nat.mul_le_mul (by omega) (by omega)
 omega
theorem erase_perm{α:Type}:∀ {l:List α} {i:Nat} {a:α},l[i]? =some a→l.Perm (a::l.eraseIdx i)
 | [],i,a,h=>by simp at h
 | b::l,0,a,h=>by
   simp only[List.getElem?_cons_zero,Option.some.injEq] at h
   subst h
   exact .refl _
 | b::l,i+1,a,h=>by
   simp only[List.getElem?_cons_succ] at h
   rw[List.eraseIdx_cons_succ]
   exact ((erase_perm h).cons b).trans (.swap _ _ _)
theorem map_erase{α β:Type}(f:α→β):∀ (l:List α) (i:Nat),(l.map f).eraseIdx i=(l.eraseIdx i).map f
 | [],i=>by simp
 | a::l,0=>rfl
 | a::l,i+1=>by simp only[List.map_cons,List.eraseIdx_cons_succ,map_erase f l i]
theorem j_list(h:FR A M S C m)(w:Int):
 CallA tb.P 47 [.ptr A.f 0,i64 w] M fun y N=>∃ l:List Fd,l.Perm ((m.filter fun q=>q.1.1 != w).map fdOf)∧GrF N y l∧Keep M N []∧∀ c,inBlk y c→M.next≤c:=by
 refine F47_ok ?_
 unfold F47
 simp only[i64,zZi]
 refine lZi fun M2 hM2=>?_
 have hM2':M2=M.new (.cells [.ptr A.f 0] true):=hM2
 have hk2:Keep M M2 []:=by rw[hM2'];exact Keep.new h.wf _
 have hb2:M2.get M.next=some (.cells [.ptr A.f 0] true):=by rw[hM2'];exact get_new _ _
 have hn2:M2.next=M.next+1:=by rw[hM2'];rfl
 clear hM2 hM2'
 have h2:=h.post hk2
 have hfew:=h.few
 refine bZi (lZs (lZc ty30 rfl hb2 rfl)) ?_
 refine bZi eZn ?_
 refine bZi fa_mf ?_
 rw[zZp]
 have l2:eLd tb 79 (.ptr A.f 6) M2=some (.map A.mf,M2):=lZs (lZc ty79 rfl h2.fl rfl)
 refine bZi l2 ?_
 have he:entsB M2 (.map A.mf)=some (some A.mf,mK m):=by unfold entsB;simp only;rw[h2.mf]
 rw[he,bZs]
 have hmf:A.mf<M.next:=h.wf _ _ h.mf
 refine⟨fun rem x n P=>∃ (rem':List Fnd) (acc:List Fd),rem=mK rem'∧(∀ q∈rem',q∈m)∧(acc++(rem'.filter fun q=>q.1.1 != w).map fdOf).Perm ((m.filter fun q=>q.1.1 != w).map fdOf)∧Keep (M2.kill A.mf) P []∧GrF P x acc∧∀ c,inBlk x c→M2.next≤c,
  ⟨m,[],rfl,fun _ h=>h,by rw[List.nil_append],⟨hk2.wf.kill _,Nat.le_refl _,fun _ _ _=>rfl⟩,.inl ⟨rfl,rfl⟩,fun c hc=>hc.elim⟩,?_⟩
 rintro _ x rem P ⟨rem',acc,rfl,hsub,hperm,hk,hx,fx⟩
 have hacc:acc.length≤160:=by
  have:=hperm.length_eq
  rw[List.length_append,List.length_map,List.length_map] at this
  have:=List.length_filter_le (fun q:Fnd=>q.1.1 != w) m
  omega
 refine⟨fun hnil=>?_,fun i kx vx hi=>?_⟩
 ·
  have hr:rem'=[]:=by
   cases rem' with
   | nil=>rfl
   | cons a l=>simp[mK] at hnil
  subst hr
  rw[List.filter_nil,List.map_nil,List.append_nil] at hperm
  have hs:Keep M2 (P.put A.mf (.map (mK m))) []:=by
   refine⟨hk.wf.put (Nat.lt_of_lt_of_le (by omega:A.mf<M2.next) hk.nxt) _,hk.nxt,fun c hc _=>?_⟩
   rw[Mem.get_put]
   by_cases hcm:c=A.mf
   ·rw[if_pos hcm,hcm,h2.mf]
   ·rw[if_neg hcm,hk.old c hc (by simp),Mem.get_kill,if_neg hcm]
  show CallA tb.P 75 [x,.fn 76 [] [.ptr M.next 0]] (P.put A.mf (.map (mK m))) _
  have hx':GrF (P.put A.mf (.map (mK m))) x acc:=hx.mono fun c r hc hr=>by
   rw[Mem.get_put,if_neg (by have:=fx c hc;omega)];exact hr
  have hP:=h2.post hs
  refine (sort_perm hs.wf hx' hacc fun b hb=>j_cmp hP (hs.get hk2.wf hb2 (by simp)) (by have:=fx b hb;omega) ⟨fun hm=>?_,fun hm=>?_,fun q hq hm=>?_⟩).mono ?_
  ·have h1:=fx b hb
   have h3:=h.lt b hm
   omega
  ·have h1:=fx b hb
   have h3:=SlAt.blk_lt h.chip.flt h.wf (by rw[h.fsA];exact hm)
   omega
  ·have h1:=fx b hb
   obtain⟨_,_,_,_,_,_,e4,_⟩:=h.lnk q hq
   have h3:=SlAt.blk_lt e4 h.wf hm
   omega
  ·rintro y N ⟨l',p1,p2,p3,p4,p5⟩
   refine⟨l',p1.trans hperm,p2,⟨p3,by have:=hs.nxt;have:(P.put A.mf (.map (mK m))).next=P.next:=rfl;have:=hk2.nxt;omega,fun c hc _=>?_⟩,fun c hc=>by have:=fx c hc;omega⟩
   have hcn:c<(P.put A.mf (.map (mK m))).next:=Nat.lt_of_lt_of_le (Nat.lt_of_lt_of_le hc hk2.nxt) hs.nxt
   rw[p5 c hcn (fun hm=>by have:=fx c hm;omega),hs.old c (Nat.lt_of_lt_of_le hc hk2.nxt) (by simp),hk2.old c hc (by simp)]
 ·
  obtain⟨q,hq,e1⟩:∃ q,rem'[i]? =some q∧(kx,vx)=(placeA q.1.1 q.1.2,pgA q.2):=by
   unfold mK at hi
   rw[List.getElem?_map] at hi
   obtain⟨q,h1,h2⟩:=Option.map_eq_some_iff.1 hi
   exact⟨q,h1,h2.symm⟩
  injection e1 with e1 e2
  subst e1 e2
  obtain⟨hil,hqe⟩:=List.getElem?_eq_some_iff.1 hq
  have hqm:q∈m:=hsub q (List.mem_of_getElem? hq)
  obtain⟨_,_,_,_,_,_,_,hone,_⟩:=h.lnk q hqm
  have hpr:rem'.Perm (q::rem'.eraseIdx i):=erase_perm hq
  have hme:(mK rem').eraseIdx i=mK (rem'.eraseIdx i):=map_erase _ _ _
  rw[hme]
  have hsub':∀ q'∈rem'.eraseIdx i,q'∈m:=fun q' h'=>hsub q' (List.mem_of_mem_eraseIdx h')
  refine lZi fun M17 hM17=>?_
  refine lZi fun M18 hM18=>?_
  have k17:Keep P M17 []:=by rw[hM17];exact Keep.new hk.wf _
  have k18:Keep M17 M18 []:=by rw[hM18];exact Keep.new k17.wf _
  have g17:M18.get P.next=some (.cells [i64 0,i64 0] true):=by
   rw[hM18,Mem.get_new,if_neg (by rw[hM17];show P.next≠P.next+1;omega),hM17];exact get_new _ _
  have g18:M18.get M17.next=some (.cells [i64 0,i64 0,i64 0,i64 0,.val (.slice none 0 0)] true):=by rw[hM18];exact get_new _ _
  have n17:M17.next=P.next+1:=by rw[hM17];rfl
  have n18:M18.next=M17.next+1:=by rw[hM18];rfl
  clear hM17 hM18
  have k19:Keep P (M18.put P.next (.cells [i64 q.1.1,i64 q.1.2] true)) []:=kZn (k17.trans0 k18) (Nat.le_refl _) (by omega) _
  refine bZi (place_stE q.1.1 q.1.2 g17 rfl) ?_
  have g19:(M18.put P.next (.cells [i64 q.1.1,i64 q.1.2] true)).get M17.next=some (.cells [i64 0,i64 0,i64 0,i64 0,.val (.slice none 0 0)] true):=by rw[Mem.get_put,if_neg (by omega)];exact g18
  refine bZi (pg_stE q.2 hone g19 rfl) ?_
  have k20:Keep P ((M18.put P.next (.cells [i64 q.1.1,i64 q.1.2] true)).put M17.next (.cells (pgC q.2) true)) []:=kZn k19 (by omega) (by show M17.next<M18.next;omega) _
  generalize hM20:(M18.put P.next (.cells [i64 q.1.1,i64 q.1.2] true)).put M17.next (.cells (pgC q.2) true)=M20 at*
  have g20:M20.get P.next=some (.cells [i64 q.1.1,i64 q.1.2] true):=by rw[← hM20,Mem.get_put,if_neg (by omega),Mem.get_put,if_pos rfl]
  have g20':M20.get M17.next=some (.cells (pgC q.2) true):=by rw[← hM20,Mem.get_put,if_pos rfl]
  clear hM20
  refine bZi (lZs (place_ld g20).1) ?_
  simp only[i64,zZi]
  have hK:=hk.trans0 k20
  refine cZi (fun hne=>?_) (fun heq=>?_)
  ·refine bZi (lZs (place_ld g20).2.2) ⟨_,_,rfl,?_⟩
   have lt:eLd tb 90 (.ptr M17.next 0) M20=some (tagA q.2.k q.2.p q.2.s q.2.e,M20):=lZs (ld_agg (n:=4) ty90 rfl rfl g20' (by simp[pgC]))
   refine bZi lt ⟨_,_,_,_,rfl,?_⟩
   refine lZi fun M31 hM31=>?_
   subst hM31
   obtain⟨x',N,a1,a2,a3,a4⟩:=GrF.grow k20.wf (hx.mono fun c r _ hr=>k20.get hk.wf hr (by simp)) (fdOf q) (by omega)
   refine bZi a1 ?_
   refine⟨rem'.eraseIdx i,acc++[fdOf q],rfl,hsub',?_,⟨a3.wf,Nat.le_trans hK.nxt a3.nxt,fun c hc _=>?_⟩,a2,fun c hc=>?_⟩
   ·refine List.Perm.trans ?_ hperm
    rw[List.append_assoc]
    refine List.Perm.append_left _ ?_
    refine List.Perm.trans ?_ ((hpr.filter _).map _).symm
    rw[List.filter_cons,if_pos hne]
    exact .refl _
   ·have hcn:c<M20.next:=Nat.lt_of_lt_of_le hc hK.nxt
    rw[a3.old c hcn (fun hm=>by have:=fx c hm;have:(M2.kill A.mf).next=M2.next:=rfl;omega),hK.old c hc (by simp)]
   ·have h1:=a4 c hc
    have h2:=hK.nxt
    have:(M2.kill A.mf).next=M2.next:=rfl
    omega
  ·refine⟨rem'.eraseIdx i,acc,rfl,hsub',?_,hK,hx.mono fun c r _ hr=>k20.get hk.wf hr (by simp),fx⟩
   refine List.Perm.trans ?_ hperm
   refine List.Perm.append_left _ ?_
   refine List.Perm.trans ?_ ((hpr.filter _).map _).symm
   rw[List.filter_cons,if_neg (by rw[heq];simp)]
end
section
variable {κ ν:Type} [DecidableEq κ]
def mG(ke:κ→AV)(ve:ν→AV)(m:List (κ×ν)):List (AV×AV):=m.map fun q=>(ke q.1,ve q.2)
structure MT (mt kt vt:TypeId) (ke:κ→AV) (ve:ν→AV) (z:AV):Prop where
 ty:∃ ti tk tv,tb.ty.get mt=some ti∧ti.k= .mp kt vt∧tb.ty.get kt=some tk∧tb.ty.get vt=some tv∧tv.zA=z
 eq:∀ a b,eqA tb 60 kt (ke a) (ke b)=some (decide (a=b))
 ok:∀ a,keyOk tb 60 kt (ke a)=true
 fl:∀ a,∃ v,(ke a).flat=some v∧sameV v v=true
variable {mt kt vt:TypeId} {ke:κ→AV} {ve:ν→AV} {z:AV}
theorem findG_no(T:MT mt kt vt ke ve z){k:κ}:∀ (m:List (κ×ν)) (o:Nat),(∀ q∈m,q.1≠k)→findA tb kt (ke k) (mG ke ve m) o=some none
 | [],o,_=>rfl
 | q::m,o,h=>by
   show (match eqA tb 60 kt (ke k) (ke q.1) with|some true=>some (some (o,ke q.1,ve q.2))|some false=>findA tb kt (ke k) (mG ke ve m) (o+1)|none=>none)=_
   rw[T.eq,decide_eq_false (fun e=>h q (by simp) e.symm)]
   exact findG_no T m (o+1) fun q' hq=>h q' (by simp[hq])
theorem findG_at(T:MT mt kt vt ke ve z){k:κ}{v:ν}:∀ (pre post:List (κ×ν)) (o:Nat),(∀ q∈pre,q.1≠k)→findA tb kt (ke k) (mG ke ve (pre++(k,v)::post)) o=some (some (o+pre.length,ke k,ve v))
 | [],post,o,_=>by
   show (match eqA tb 60 kt (ke k) (ke k) with|some true=>some (some (o,ke k,ve v))|some false=>findA tb kt (ke k) (mG ke ve post) (o+1)|none=>none)=_
   rw[T.eq,decide_eq_true rfl]
   rfl
 | q::pre,post,o,h=>by
   show (match eqA tb 60 kt (ke k) (ke q.1) with|some true=>some (some (o,ke q.1,ve q.2))|some false=>findA tb kt (ke k) (mG ke ve (pre++(k,v)::post)) (o+1)|none=>none)=_
   rw[T.eq,decide_eq_false (fun e=>h q (by simp) e.symm)]
   simp only
   rw[findG_at T pre post (o+1) fun q' hq=>h q' (by simp[hq])]
   simp only[List.length_cons]
   congr 3
   omega
omit [DecidableEq κ] in
theorem split_key{m:List (κ×ν)}(hn:(m.map (·.1)).Nodup){k:κ}{v:ν}(h:(k,v)∈m):∃ pre post,m=pre++(k,v)::post∧(∀ q∈pre,q.1≠k)∧∀ q∈post,q.1≠k:=by
 obtain⟨pre,post,rfl⟩:=List.append_of_mem h
 refine⟨pre,post,rfl,fun q hq e=>?_,fun q hq e=>?_⟩
 ·rw[List.map_append,List.nodup_append] at hn
  exact hn.2.2 q.1 (List.mem_map.2 ⟨q,hq,rfl⟩) k (by simp) e
 ·rw[List.map_append,List.nodup_append,List.map_cons,List.nodup_cons] at hn
  exact hn.2.1.1 (List.mem_map.2 ⟨q,hq,e⟩)
theorem lookG_yes(T:MT mt kt vt ke ve z){M:Mem}{b:Nat}{m:List (κ×ν)}(hg:M.get b=some (.map (mG ke ve m)))(hn:(m.map (·.1)).Nodup){k:κ}{v:ν}(h:(k,v)∈m)(ok:Bool):
 eLk tb mt (.map b) (ke k) ok M=some (cond ok (.tup [ve v,.val (.bool true)]) (ve v),M):=by
 obtain⟨ti,tk,tv,h1,h2,h3,h4,h5⟩:=T.ty
 refine eLk_some ?_
 unfold evLookup
 rw[h1]
 simp only[h2]
 rw[h3,h4]
 have he:entsOf M (.map b)=some (mG ke ve m):=by unfold entsOf;simp only;rw[hg]
 rw[he]
 simp only[T.ok,cond_true]
 obtain⟨pre,post,rfl,hp,_⟩:=split_key hn h
 rw[findG_at T pre post 0 hp]
theorem lookG_no(T:MT mt kt vt ke ve z){M:Mem}{b:Nat}{m:List (κ×ν)}(hg:M.get b=some (.map (mG ke ve m))){k:κ}(h:∀ q∈m,q.1≠k)(ok:Bool):
 eLk tb mt (.map b) (ke k) ok M=some (cond ok (.tup [z,.val (.bool false)]) z,M):=by
 obtain⟨ti,tk,tv,h1,h2,h3,h4,h5⟩:=T.ty
 refine eLk_some ?_
 unfold evLookup
 rw[h1]
 simp only[h2]
 rw[h3,h4]
 have he:entsOf M (.map b)=some (mG ke ve m):=by unfold entsOf;simp only;rw[hg]
 rw[he]
 simp only[T.ok,cond_true]
 rw[findG_no T m 0 h,← h5]
theorem putG(T:MT mt kt vt ke ve z){M:Mem}{b:Nat}{m:List (κ×ν)}(hg:M.get b=some (.map (mG ke ve m)))(hn:(m.map (·.1)).Nodup)(k:κ)(v:ν):
 ∃ m',eMU tb mt (.map b) (ke k) (ve v) M=some (uZa,M.put b (.map (mG ke ve m')))∧(m'.map (·.1)).Nodup∧(∀ q,q∈m'↔q=(k,v)∨(q∈m∧q.1≠k))∧m'.length≤m.length+1:=by
 obtain⟨ti,tk,tv,h1,h2,h3,h4,h5⟩:=T.ty
 by_cases hk:∃ w,(k,w)∈m
 ·obtain⟨w,hw⟩:=hk
  obtain⟨pre,post,rfl,hp,hq⟩:=split_key hn hw
  refine⟨pre++(k,v)::post,eMU_some ?_,?_,fun q=>?_,by simp⟩
  ·unfold evMapUpdate
   rw[h1]
   simp only[h2]
   rw[h3,hg]
   simp only[T.ok,cond_true]
   rw[findG_at T pre post 0 hp]
   obtain⟨u,f1,f2⟩:=T.fl k
   simp only[f1,f2,cond_true,Nat.zero_add]
   congr 3
   unfold mG
   rw[List.map_append,List.map_append,List.map_cons,List.map_cons,List.set_append_right _ _ (by simp)]
   simp
  ·simpa using hn
  ·simp only[List.mem_append,List.mem_cons]
   constructor
   ·rintro (h|h|h)
    ·exact .inr ⟨.inl h,hp q h⟩
    ·exact .inl h
    ·exact .inr ⟨.inr (.inr h),hq q h⟩
   ·rintro (h|⟨h|h|h,h'⟩)
    ·exact .inr (.inl h)
    ·exact .inl h
    ·rw[h] at h';exact absurd rfl h'
    ·exact .inr (.inr h)
 ·have hno:∀ q∈m,q.1≠k:=fun q hq e=>hk ⟨q.2,by rw[← e];exact hq⟩
  refine⟨m++[(k,v)],eMU_some ?_,?_,fun q=>?_,by simp⟩
  ·unfold evMapUpdate
   rw[h1]
   simp only[h2]
   rw[h3,hg]
   simp only[T.ok,cond_true]
   rw[findG_no T m 0 hno]
   simp[mG]
  ·rw[List.map_append]
   exact snoc_nodup hn fun hm=>by
    obtain⟨q,hq,e⟩:=List.mem_map.1 hm
    exact hno q hq e
  ·simp only[List.mem_append,List.mem_singleton]
   constructor
   ·rintro (h|h)
    ·exact .inr ⟨h,hno q h⟩
    ·exact .inl h
   ·rintro (h|⟨h,_⟩)
    ·exact .inr h
    ·exact .inl h
end
def plA(c:Int×Int):AV:=placeA c.1 c.2
def whA(c:Int×Bool):AV:= .agg [i64 c.1,bv c.2]
def fdA(f:Fd):AV:= .agg (fdC f)
def unA(_:Unit):AV:=bv true
theorem mt_found:MT 79 85 94 plA pgA (.agg [i64 0,i64 0,i64 0,i64 0,.val (.slice none 0 0)]):=
 ⟨⟨_,_,_,ty79,rfl,ty85,ty94,rfl⟩,fun a b=>eqA_place a.1 a.2 b.1 b.2,fun a=>keyOk_place a.1 a.2,fun a=>⟨_,rfl,by simp[sameV,sameVals,sameScalar]⟩⟩
theorem ty156:tb.ty.get 156=some ⟨.mp 85 4,1,8,[.map none],none⟩:=by kernel_rfl
theorem mt_out:MT 156 85 4 plA unA (bv false):=
 ⟨⟨_,_,_,ty156,rfl,ty85,ty4,rfl⟩,fun a b=>eqA_place a.1 a.2 b.1 b.2,fun a=>keyOk_place a.1 a.2,fun a=>⟨_,rfl,by simp[sameV,sameVals,sameScalar]⟩⟩
theorem ty185:tb.ty.get 185=some ⟨.mp 187 99,1,8,[.map none],none⟩:=by kernel_rfl
theorem ty187:tb.ty.get 187=some ⟨.st [(0,1,false),(1,1,false)],2,16,[.int .i64 0,.bool false],some [3,4]⟩:=by kernel_rfl
theorem eqA_what(a b:Int×Bool):eqA tb 60 187 (whA a) (whA b)=some (decide (a=b)):=by
 obtain⟨a1,a2⟩:=a
 obtain⟨b1,b2⟩:=b
 have e:eqA tb 60 187 (whA (a1,a2)) (whA (b1,b2))=cond (a1==b1) (cond (a2==b2) (some true) (some false)) (some false):=by kernel_rfl
 rw[e]
 by_cases h1:a1=b1
 ·have h1':(a1==b1)=true:=by simpa using h1
  rw[h1']
  by_cases h2:a2=b2
  ·have h2':(a2==b2)=true:=by simpa using h2
   rw[h2'];simp[h1,h2]
  ·have h2':(a2==b2)=false:=by simpa using h2
   rw[h2'];simp[h2]
 ·have h1':(a1==b1)=false:=by simpa using h1
  rw[h1'];simp[h1]
theorem mt_best:MT 185 187 99 whA fdA (.agg (fdC fd0)):=
 ⟨⟨_,_,_,ty185,rfl,ty187,ty99,rfl⟩,eqA_what,fun a=>by kernel_rfl,fun a=>⟨_,rfl,by simp[sameV,sameVals,sameScalar]⟩⟩
structure BmOk (last now:Int) (pre:List Fd) (bm:List ((Int×Bool)×Fd)):Prop where
 nd:(bm.map (·.1)).Nodup
 snd:∀ q∈bm,q.2∈pre∧clsF last now q.2.t=some q.1∧∀ g∈pre,clsF last now g.t=some q.1→newer g.t q.2.t=false
 cmp:∀ g∈pre,∀ c,clsF last now g.t=some c→∃ q∈bm,q.1=c
theorem BmOk.skip{last now:Int}{pre:List Fd}{bm:List ((Int×Bool)×Fd)}(h:BmOk last now pre bm){x:Fd}(hx:clsF last now x.t=none):BmOk last now (pre++[x]) bm:=by
 refine⟨h.nd,fun q hq=>?_,fun g hg c hc=>?_⟩
 ·obtain⟨h1,h2,h3⟩:=h.snd q hq
  refine⟨by simp[h1],h2,fun g hg hc=>?_⟩
  rw[List.mem_append,List.mem_singleton] at hg
  rcases hg with hg|rfl
  ·exact h3 g hg hc
  ·rw[hx] at hc;cases hc
 ·rw[List.mem_append,List.mem_singleton] at hg
  rcases hg with hg|rfl
  ·exact h.cmp g hg c hc
  ·rw[hx] at hc;cases hc
theorem BmOk.stay{last now:Int}{pre:List Fd}{bm:List ((Int×Bool)×Fd)}(h:BmOk last now pre bm){x:Fd}{c:Int×Bool}(hx:clsF last now x.t=some c){y:Fd}(hy:(c,y)∈bm)(hn:newer x.t y.t=false):BmOk last now (pre++[x]) bm:=by
 refine⟨h.nd,fun q hq=>?_,fun g hg d hd=>?_⟩
 ·obtain⟨h1,h2,h3⟩:=h.snd q hq
  refine⟨by simp[h1],h2,fun g hg hc=>?_⟩
  rw[List.mem_append,List.mem_singleton] at hg
  rcases hg with hg|rfl
  ·exact h3 g hg hc
  ·rw[hx] at hc
   injection hc with hc
   have:q=(c,y):=by
    have h4:=h.nd
    obtain⟨pre',post',e,e1,e2⟩:=split_key h4 hy
    rw[e,List.mem_append,List.mem_cons] at hq
    rcases hq with hq|hq|hq
    ·exact absurd hc.symm (e1 q hq)
    ·exact hq
    ·exact absurd hc.symm (e2 q hq)
   rw[this];exact hn
 ·rw[List.mem_append,List.mem_singleton] at hg
  rcases hg with hg|rfl
  ·exact h.cmp g hg d hd
  ·rw[hx] at hd
   injection hd with hd
   exact⟨_,hy,hd⟩
theorem newer_trans{a b c:Tg}(h:newer a b=false)(k:newer c b=true):newer a c=false:=by
 rw[newer_not] at *;rw[newer_iff] at k;omega
theorem BmOk.put{last now:Int}{pre:List Fd}{bm bm':List ((Int×Bool)×Fd)}(h:BmOk last now pre bm){x:Fd}{c:Int×Bool}(hx:clsF last now x.t=some c)(hn:∀ y,(c,y)∈bm→newer x.t y.t=true)(hnd:(bm'.map (·.1)).Nodup)(hm:∀ q,q∈bm'↔q=(c,x)∨(q∈bm∧q.1≠c)):BmOk last now (pre++[x]) bm':=by
 refine⟨hnd,fun q hq=>?_,fun g hg d hd=>?_⟩
 ·rcases (hm q).1 hq with rfl|⟨hq,hqc⟩
  ·refine⟨by simp,hx,fun g hg hc=>?_⟩
   rw[List.mem_append,List.mem_singleton] at hg
   rcases hg with hg|rfl
   ·obtain⟨⟨c',y⟩,hy,rfl⟩:=h.cmp g hg c hc
    exact newer_trans ((h.snd _ hy).2.2 g hg hc) (hn y hy)
   ·rw[newer_not];exact .inr ⟨rfl,Int.le_refl _⟩
  ·obtain⟨h1,h2,h3⟩:=h.snd q hq
   refine⟨by simp[h1],h2,fun g hg hc=>?_⟩
   rw[List.mem_append,List.mem_singleton] at hg
   rcases hg with hg|rfl
   ·exact h3 g hg hc
   ·rw[hx] at hc
    injection hc with hc
    exact absurd hc.symm hqc
 ·rw[List.mem_append,List.mem_singleton] at hg
  rcases hg with hg|rfl
  ·obtain⟨q,hq,rfl⟩:=h.cmp g hg d hd
   by_cases e:q.1=c
   ·exact⟨(c,x),(hm _).2 (.inl rfl),e.symm⟩
   ·exact⟨q,(hm _).2 (.inr ⟨hq,e⟩),rfl⟩
  ·rw[hx] at hd
   injection hd with hd
   exact⟨_,(hm _).2 (.inl rfl),hd⟩
section
variable {A:Adr} {M:Mem} {S:Ps} {C:Chip} {m:List Fnd}
theorem FR.mem_fds(h:FR A M S C m){l:List Fd}(hl:l.Perm ((m.filter fun q=>q.1.1 != -1).map fdOf))(f:Fd):f∈l↔f∈fds S:=by
 rw[hl.mem_iff,List.mem_map]
 constructor
 ·rintro⟨q,hq,rfl⟩
  rw[List.mem_filter] at hq
  obtain⟨b,i,v,e1,e2,e3,_⟩:=h.lnk q hq.1
  refine Go.Proofs.YtlogedcoiogagaaGreat.mem_fds.2 ⟨b,i,v,e2,?_⟩
  unfold fdOf
  rw[e1,e3.1,e3.2.1,e3.2.2.1,e3.2.2.2]
 ·intro hf
  obtain⟨b,i,v,e2,rfl⟩:=Go.Proofs.YtlogedcoiogagaaGreat.mem_fds.1 hf
  obtain⟨q,hq,e1⟩:=h.hav b i v e2
  refine⟨q,List.mem_filter.2 ⟨hq,by rw[e1];simp⟩,?_⟩
  obtain⟨b',i',v',k1,k2,k3,_⟩:=h.lnk q hq
  rw[e1] at k1
  injection k1 with k1 k1'
  have k1:b=b':=by omega
  have k1':i=i':=by omega
  subst k1 k1'
  rw[e2] at k2
  injection k2 with k2
  subst k2
  unfold fdOf
  rw[e1,k3.1,k3.2.1,k3.2.2.1,k3.2.2.2]
theorem what_st{N:Mem}{b:Nat}{cs:List AV}(c:Int×Bool)(hg:N.get b=some (.cells cs true))(hl:cs.length=2):eSt tb 187 (.ptr b 0) (whA c) N=some (uZa,N.put b (.cells [i64 c.1,bv c.2] true)):=
 sZs (st_all (vs:=[i64 c.1,bv c.2]) ty187 rfl hg hl (by simp[i64,bv,AV.one]))
theorem fd_stE{N:Mem}{b:Nat}{cs:List AV}(f:Fd)(hg:N.get b=some (.cells cs true))(hl:cs.length=6):eSt tb 99 (.ptr b 0) (fdA f) N=some (uZa,N.put b (.cells (fdC f) true)):=
 sZs (st_all (vs:=fdC f) ty99 rfl hg hl (fdC_one f))
theorem clsF_is(last now:Int)(t:Tg):clsF last now t=if t.k=3 then some (-1,decide (t.e>last)) else if decide (t.e>last)=true∧t.e≠now then none else some (t.p,decide (t.e>last)):=by
 unfold clsF
 by_cases h1:t.k=3
 ·rw[if_pos h1,if_pos h1]
 ·rw[if_neg h1,if_neg h1]
  by_cases h2:t.e>last
  ·rw[if_pos h2,decide_eq_true h2]
   by_cases h3:t.e=now
   ·rw[if_pos h3,if_neg (by simp[h3])]
   ·rw[if_neg h3,if_pos ⟨rfl,h3⟩]
  ·rw[if_neg h2,decide_eq_false h2,if_neg (by simp)]
theorem j_live(h:FR A M S C m):
 CallA tb.P 123 [.ptr A.f 0] M fun y N=>∃ (b:Nat) (ol:List ((Int×Int)×Unit)),y= .map b∧M.next≤b∧N.get b=some (.map (mG plA unA ol))∧(ol.map (·.1)).Nodup∧(∀ c,c∈ol.map (·.1)↔∃ b i:Nat,c=((b:Int),(i:Int))∧xLive S b i=true)∧Keep M N []:=by
 refine F123_ok ?_
 unfold F123
 refine (j_list h (-1)).mono ?_
 rintro y M2 ⟨l,hl,hy,hk2,fy⟩
 have hmem:=h.mem_fds hl
 have hlen:l.length≤160:=by
  have:=hl.length_eq
  rw[List.length_map] at this
  have:=List.length_filter_le (fun q:Fnd=>q.1.1 != -1) m
  have:=h.few
  omega
 have h2:=h.post hk2
 refine (r_last M2 hk2.wf y l hy.at (by omega)).mono ?_
 rintro y3 M4 ⟨rfl,hk4⟩
 have hlast:lastF l=lastX S:=lastF_mem hmem
 rw[hlast]
 simp only[i64,zZi]
 have hk4':=hk2.trans0 hk4
 have hyb:∀ c,inBlk y c→c<M4.next:=fun c hc=>Nat.lt_of_lt_of_le (SlAt.blk_lt hy.at hk2.wf hc) hk4.nxt
 refine lZi fun M6 hM6=>?_
 have e6:M6=M4.new (.map []):=hM6
 have hk6:Keep M4 M6 []:=by rw[e6];exact Keep.new hk4.wf _
 have g6:M6.get M4.next=some (.map (mG whA fdA [])):=by rw[e6];exact get_new _ _
 have n6:M6.next=M4.next+1:=by rw[e6];rfl
 clear hM6 e6
 have hMn:M.next≤M4.next:=hk4'.nxt
 have hy6:FdsAt M6 y l:=SlAt.keep0 (SlAt.keep0 hy.at hk2.wf hk4) hk4.wf hk6
 refine bZi (lZl hy6.len) ?_
 simp only[zZi]
 refine⟨fun z n P=>∃ (j:Nat) (bm:List ((Int×Bool)×Fd)),z=j∧n=l.length-j∧j≤l.length∧Keep M6 P [M4.next]∧P.get M4.next=some (.map (mG whA fdA bm))∧BmOk (lastX S) S.now (l.take j) bm,
  ⟨_,0,[],rfl,rfl,Nat.zero_le _,Keep.refl hk6.wf,g6,⟨List.nodup_nil,fun q hq=>by simp at hq,fun g hg=>by simp at hg⟩⟩,?_⟩
 rintro _ z n P ⟨j,bm,rfl,rfl,hj,hkP,hgP,hbm⟩
 have hkMP:Keep M P []:=(hk4'.trans0 hk6).trans hkP (by simp) (fun c hc hlt=>absurd hlt (by rw[List.mem_singleton] at hc;omega))
 have hP:=h.post hkMP
 have hyP:FdsAt P y l:=SlAt.keep hy6 hk6.wf hkP fun c hc hm=>absurd (hyb c hc) (by rw[List.mem_singleton] at hm;omega)
 have hbP:M4.next<P.next:=by have:=hkP.nxt;omega
 refine cZi (fun hlt=>?_) (fun hge=>?_)
 ·have hlt:j<l.length:=Int.ofNat_lt.1 (of_decide_eq_true hlt)
  refine lZi fun K90 hK90=>?_
  have key90:∀ (N:Mem) (bm':List ((Int×Bool)×Fd)),Keep P N [M4.next]→N.get M4.next=some (.map (mG whA fdA bm'))→BmOk (lastX S) S.now (l.take j++[l[j]]) bm'→K90 N:=by
   intro N bm' k1 k2 k3
   rw[hK90]
   refine⟨_,by omega,j+1,bm',iInc (by omega),rfl,by omega,hkP.trans k1 (fun _ h _=>h) (fun _ h _=>h),k2,?_⟩
   rw[List.take_add_one,List.getElem?_eq_getElem hlt]
   exact k3
  clear hK90
  obtain⟨b1,o1,a1,a2,_⟩:=hyP.all hlt
  generalize hx:l[j]=x at*
  refine bZi (a1 P) ?_
  rw[zZp]
  refine bZi a2 ⟨_,_,_,_,_,_,rfl,?_⟩
  refine lZi fun M24 hM24=>?_
  have e24:M24=P.new (.cells [i64 0,i64 0,i64 0,i64 0,i64 0,i64 0] true):=hM24
  have k24:Keep P M24 []:=by rw[e24];exact Keep.new hP.wf _
  have g24:M24.get P.next=some (.cells [i64 0,i64 0,i64 0,i64 0,i64 0,i64 0] true):=by rw[e24];exact get_new _ _
  have n24:M24.next=P.next+1:=by rw[e24];rfl
  clear hM24 e24
  refine bZi (fd_stE x g24 rfl) ?_
  have k25:Keep P (M24.put P.next (.cells (fdC x) true)) []:=kZn k24 (Nat.le_refl _) (by omega) _
  generalize hM25:M24.put P.next (.cells (fdC x) true)=M25 at*
  have g25:M25.get P.next=some (.cells (fdC x) true):=by rw[← hM25,Mem.get_put,if_pos rfl]
  have n25:M25.next=P.next+1:=by rw[← hM25];exact n24
  clear hM25
  refine bZi (lZs (lZc ty3 rfl g25 rfl)) ?_
  simp only[i64,zZi]
  refine bZi (lZs (lZc ty3 rfl g25 rfl)) ?_
  simp only[i64,zZi]
  refine lZi fun M30 hM30=>?_
  have e30:M30=M25.new (.cells [i64 0,bv false] true):=hM30
  have k30:Keep P M30 []:=k25.trans0 (by rw[e30];exact Keep.new k25.wf _)
  have g30:M30.get M25.next=some (.cells [i64 0,bv false] true):=by rw[e30];exact get_new _ _
  have g30':M30.get P.next=some (.cells (fdC x) true):=by rw[e30,Mem.get_new,if_neg (by omega)];exact g25
  have n30:M30.next=M25.next+1:=by rw[e30];rfl
  clear hM30 e30
  refine bZi (what_st (x.t.p,decide (x.t.e>lastX S)) g30 rfl) ?_
  have k31:Keep P (M30.put M25.next (.cells [i64 x.t.p,bv (decide (x.t.e>lastX S))] true)) []:=kZn k30 (by omega) (by omega) _
  generalize hM31:M30.put M25.next (.cells [i64 x.t.p,bv (decide (x.t.e>lastX S))] true)=M31 at*
  have g31:M31.get M25.next=some (.cells [i64 x.t.p,bv (decide (x.t.e>lastX S))] true):=by rw[← hM31,Mem.get_put,if_pos rfl]
  have g31':M31.get P.next=some (.cells (fdC x) true):=by rw[← hM31,Mem.get_put,if_neg (by omega)];exact g30'
  have n31:M31.next=M25.next+1:=by rw[← hM31];exact n30
  clear hM31
  refine lZi fun K48 hK48=>?_
  have key48:∀ (N:Mem) (c:Int×Bool),Keep P N []→N.get M25.next=some (.cells [i64 c.1,bv c.2] true)→N.get P.next=some (.cells (fdC x) true)→clsF (lastX S) S.now x.t=some c→K48 N:=by
   intro N c hkN gN gN' hc
   rw[hK48]
   clear hK48
   have lw:∀ N',N'.get M25.next=some (.cells [i64 c.1,bv c.2] true)→eLd tb 187 (.ptr M25.next 0) N'=some (whA c,N'):=fun N' hg=>lZs (ld_agg (n:=2) ty187 rfl rfl hg (by simp))
   refine bZi (lw N gN) ⟨_,_,rfl,?_⟩
   have gb:N.get M4.next=some (.map (mG whA fdA bm)):=hkN.get hP.wf hgP (by simp)
   have hNn:=hkN.nxt
   have n25N:M25.next<N.next:=hkN.wf _ _ gN
   have look:∃ (u:Fd) (ok:Bool),eLk tb 185 (.map M4.next) (whA c) true N=some (.tup [fdA u,.val (.bool ok)],N)∧((ok=true∧(c,u)∈bm)∨(ok=false∧∀ q∈bm,q.1≠c)):=by
    by_cases hex:∃ u,(c,u)∈bm
    ·obtain⟨u,hu⟩:=hex
     exact⟨u,true,lookG_yes mt_best gb hbm.nd hu true,.inl ⟨rfl,hu⟩⟩
    ·have hno:∀ q∈bm,q.1≠c:=fun q hq e=>hex ⟨q.2,by rw[← e];exact hq⟩
     exact⟨fd0,false,lookG_no mt_best gb hno true,.inr ⟨rfl,hno⟩⟩
   obtain⟨u,ok,hlk,huok⟩:=look
   refine bZi hlk ⟨_,_,_,_,_,_,_,rfl,?_⟩
   refine lZi fun M60 hM60=>?_
   have e60:M60=N.new (.cells [i64 0,i64 0,i64 0,i64 0,i64 0,i64 0] true):=hM60
   have k60:Keep N M60 []:=by rw[e60];exact Keep.new hkN.wf _
   have g60:M60.get N.next=some (.cells [i64 0,i64 0,i64 0,i64 0,i64 0,i64 0] true):=by rw[e60];exact get_new _ _
   have n60:M60.next=N.next+1:=by rw[e60];rfl
   clear hM60 e60
   refine bZi (fd_stE u g60 rfl) ?_
   have k61:Keep N (M60.put N.next (.cells (fdC u) true)) []:=kZn k60 (Nat.le_refl _) (by omega) _
   generalize hM61:M60.put N.next (.cells (fdC u) true)=M61 at*
   have g61:M61.get N.next=some (.cells (fdC u) true):=by rw[← hM61,Mem.get_put,if_pos rfl]
   clear hM61
   refine lZi fun K77 hK77=>?_
   have key77:∀ (t:Bool) (N':Mem),Keep M61 N' []→(t=true→∀ v,(c,v)∈bm→newer x.t v.t=true)→(t=false→ok=true∧newer x.t u.t=false)→K77 t N':=by
    intro t N' hkN' ht hf
    rw[hK77]
    clear hK77
    have kk:=(hkN.trans0 k61).trans0 hkN'
    have gb':N'.get M4.next=some (.map (mG whA fdA bm)):=kk.get hP.wf hgP (by simp)
    refine cZi (fun e=>?_) (fun e=>?_)
    ·have gN1:=(k61.trans0 hkN').get hkN.wf gN (by simp)
     have gN2:=(k61.trans0 hkN').get hkN.wf gN' (by simp)
     refine bZi (lw N' gN1) ⟨_,_,rfl,?_⟩
     have lx:eLd tb 99 (.ptr P.next 0) N'=some (fdA x,N'):=lZs (ld_agg (n:=6) ty99 rfl rfl gN2 (by simp[fdC]))
     refine bZi lx ⟨_,_,_,_,_,_,rfl,?_⟩
     obtain⟨bm',p1,p2,p3,_⟩:=putG mt_best gb' hbm.nd c x
     refine bZi p1 ?_
     have hlt':M4.next<N'.next:=kk.wf _ _ gb'
     exact key90 _ bm' (kk.trans (Keep.put kk.wf hlt' _) (by simp) (fun _ h _=>h)) (by rw[Mem.get_put,if_pos rfl]) (hbm.put hc (ht e) p2 p3)
    ·obtain⟨e1,e2⟩:=hf e
     rcases huok with⟨_,hu⟩|⟨e3,_⟩
     ·exact key90 _ bm (kk.mono (by simp)) gb' (hbm.stay hc hu e2)
     ·rw[e1] at e3;cases e3
   clear hK77
   refine cZi (fun e=>?_) (fun e=>?_)
   ·refine key77 _ _ (Keep.refl k61.wf) (fun _ v hv=>?_) (by simp)
    rcases huok with⟨e3,_⟩|⟨_,e3⟩
    ·rw[e3] at e;cases e
    ·exact absurd rfl (e3 _ hv)
   ·have hok:ok=true:=by simpa using e
    have gx1:=k61.get hkN.wf gN' (by simp)
    have lt1:eLd tb 90 (.ptr P.next 2) M61=some (tgA x.t,M61):=lZs (ld_agg (n:=4) ty90 rfl rfl gx1 (by simp[fdC]))
    refine bZi lt1 ⟨_,_,_,_,rfl,?_⟩
    have lt2:eLd tb 90 (.ptr N.next 2) M61=some (tgA u.t,M61):=lZs (ld_agg (n:=4) ty90 rfl rfl g61 (by simp[fdC]))
    refine bZi lt2 ⟨_,_,_,_,rfl,?_⟩
    refine (r_newer M61 k61.wf x.t u.t).mono ?_
    rintro r N' ⟨rfl,hkN'⟩
    rw[zZb]
    have hu:(c,u)∈bm:=by
     rcases huok with⟨_,hu⟩|⟨e3,_⟩
     ·exact hu
     ·rw[hok] at e3;cases e3
    refine key77 _ _ hkN' (fun e2 v hv=>?_) (fun e2=>⟨hok,e2⟩)
    obtain⟨pre',post',e4,e5,e6⟩:=split_key hbm.nd hu
    rw[e4,List.mem_append,List.mem_cons] at hv
    rcases hv with hv|hv|hv
    ·exact absurd rfl (e5 _ hv)
    ·injection hv with _ hv
     rw[hv];exact e2
    ·exact absurd rfl (e6 _ hv)
  clear hK48
  have hcf:=clsF_is (lastX S) S.now x.t
  refine bZi (lZs (lZc ty3 rfl g31' rfl)) ?_
  simp only[i64,zZi]
  refine cZi (fun e=>?_) (fun e=>?_)
  ·have e:x.t.k=3:=by simpa using e
   rw[if_pos e] at hcf
   refine bZi (sZs (st_cell ty3 rfl rfl g31 (by simp))) ?_
   refine key48 _ (-1,decide (x.t.e>lastX S)) (kZn k31 (by omega) (by omega) _) (by rw[Mem.get_put,if_pos rfl];rfl) (by rw[Mem.get_put,if_neg (by omega)];exact g31') hcf
  ·have e:¬ x.t.k=3:=by simpa using e
   rw[if_neg e] at hcf
   refine lZi fun K46 hK46=>?_
   have key46:∀ t:Bool,t=decide (decide (x.t.e>lastX S)=true∧x.t.e≠S.now)→K46 t:=by
    intro t ht
    rw[hK46]
    refine cZi (fun e2=>?_) (fun e2=>?_)
    ·rw[e2] at ht
     have ht:=of_decide_eq_true ht.symm
     rw[if_pos ht] at hcf
     exact key90 _ bm (k31.mono (by simp)) (k31.get hP.wf hgP (by simp)) (hbm.skip hcf)
    ·rw[e2] at ht
     have ht:=of_decide_eq_false ht.symm
     rw[if_neg ht] at hcf
     exact key48 _ _ k31 g31 g31' hcf
   clear hK46
   refine bZi (lZs (lZc ty4 rfl g31 rfl)) ?_
   simp only[bv,zZb]
   refine cZi (fun e2=>?_) (fun e2=>key46 _ (by rw[e2];simp))
   have h31:=hP.post k31
   refine bZi eZn ?_
   have fa8:eFA tb 83 (.ptr A.f 0) 8 M31=some (.ptr A.f 12,M31):=eFA_some (by unfold eZf;rw[ty83];rfl)
   refine bZi fa8 ?_
   rw[zZp]
   refine bZi (lZs (lZc ty3 rfl g31' rfl)) ?_
   simp only[i64,zZi]
   refine bZi (lZs (lZc ty3 rfl h31.fl (o:=12) (v:=i64 S.now) rfl)) ?_
   simp only[i64,zZi]
   refine key46 _ ?_
   rw[e2]
   by_cases e3:x.t.e=S.now
   ·simp[e3]
   ·have:(x.t.e != S.now)=true:=by simpa using e3
    rw[this];simp[e3]
 ·
  have hge:¬ (j:Int)<l.length:=of_decide_eq_false hge
  have:j=l.length:=by omega
  subst this
  rw[List.take_length] at hbm
  refine lZi fun M92 hM92=>?_
  have e92:M92=P.new (.map []):=hM92
  have k92:Keep P M92 []:=by rw[e92];exact Keep.new hP.wf _
  have g92:M92.get P.next=some (.map (mG plA unA [])):=by rw[e92];exact get_new _ _
  have n92:M92.next=P.next+1:=by rw[e92];rfl
  clear hM92 e92
  have hg92:M92.get M4.next=some (.map (mG whA fdA bm)):=k92.get hP.wf hgP (by simp)
  have he:entsB M92 (.map M4.next)=some (some M4.next,mG whA fdA bm):=by unfold entsB;simp only;rw[hg92]
  rw[he,bZs]
  refine⟨fun rem n N=>∃ (rem':List ((Int×Bool)×Fd)) (ol:List ((Int×Int)×Unit)),rem=mG whA fdA rem'∧(∀ q∈rem',q∈bm)∧(∀ q∈bm,q∈rem'∨(q.2.b,q.2.k)∈ol.map (·.1))∧(∀ c∈ol.map (·.1),∃ q∈bm,c=(q.2.b,q.2.k))∧(ol.map (·.1)).Nodup∧Keep (M92.kill M4.next) N [P.next]∧N.get P.next=some (.map (mG plA unA ol)),
   ⟨bm,[],rfl,fun _ h=>h,fun q hq=> .inl hq,fun c hc=>by simp at hc,List.nodup_nil,⟨k92.wf.kill _,Nat.le_refl _,fun _ _ _=>rfl⟩,by show (M92.kill M4.next).get P.next=_;rw[Mem.get_kill,if_neg (by omega)];exact g92⟩,?_⟩
  rintro _ rem N ⟨rem',ol,rfl,hsub,hcov,hsnd,hnd,hkN,hgN⟩
  refine⟨fun hnil=>?_,fun i kx vx hi=>?_⟩
  ·have hr:rem'=[]:=by
    cases rem' with
    | nil=>rfl
    | cons a l=>simp[mG] at hnil
   subst hr
   refine⟨P.next,ol,rfl,hkMP.nxt,?_,hnd,fun c=>?_,?_⟩
   ·show (N.put M4.next _).get P.next=_
    rw[Mem.get_put,if_neg (by omega)];exact hgN
   ·constructor
    ·intro hc
     obtain⟨q,hq,rfl⟩:=hsnd c hc
     obtain⟨q1,q2,q3⟩:=hbm.snd q hq
     obtain⟨b,i,v,hv,e⟩:=Go.Proofs.YtlogedcoiogagaaGreat.mem_fds.1 ((hmem _).1 q1)
     refine⟨b,i,by rw[e],xLive_iff.2 ⟨q.1,v,hv,?_,fun b' i' u hu hcu=>?_⟩⟩
     ·rw[e] at q2;exact q2
     ·have:=q3 ⟨b',i',u.t⟩ ((hmem _).2 (Go.Proofs.YtlogedcoiogagaaGreat.mem_fds.2 ⟨b',i',u,hu,rfl⟩)) hcu
      rw[e] at this;exact this
    ·rintro⟨b,i,rfl,hli⟩
     obtain⟨c,v,hv,hcv,hbest⟩:=xLive_iff.1 hli
     obtain⟨q,hq,hqc⟩:=hbm.cmp ⟨b,i,v.t⟩ ((hmem _).2 (Go.Proofs.YtlogedcoiogagaaGreat.mem_fds.2 ⟨b,i,v,hv,rfl⟩)) c hcv
     obtain⟨q1,q2,q3⟩:=hbm.snd q hq
     obtain⟨b',i',v',hv',e⟩:=Go.Proofs.YtlogedcoiogagaaGreat.mem_fds.1 ((hmem _).1 q1)
     have n1:=q3 ⟨b,i,v.t⟩ ((hmem _).2 (Go.Proofs.YtlogedcoiogagaaGreat.mem_fds.2 ⟨b,i,v,hv,rfl⟩)) (by rw[hqc];exact hcv)
     have n2:=hbest b' i' v' hv' (by rw[e,hqc] at q2;exact q2)
     rw[e] at n1
     rw[newer_not] at n1 n2
     simp only at n1
     obtain⟨rfl,rfl⟩:=h.inv.sq.one _ _ _ _ _ _ hv hv' (by omega)
     rcases hcov q hq with hm|hm
     ·simp at hm
     ·rw[e] at hm;exact hm
   ·refine⟨hkN.wf.put (Nat.lt_of_lt_of_le (by show M4.next<M92.next;omega) hkN.nxt) _,?_,fun c hc _=>?_⟩
    ·have h1:=hkN.nxt
     have h2:=hkMP.nxt
     show M.next≤N.next
     have:(M92.kill M4.next).next=M92.next:=rfl
     omega
    ·have hcP:c<P.next:=Nat.lt_of_lt_of_le hc hkMP.nxt
     show (N.put M4.next _).get c=_
     rw[Mem.get_put,if_neg (by omega),hkN.old c (by show c<M92.next;omega) (by simp;omega),Mem.get_kill,if_neg (by omega),k92.old c hcP (by simp),hkMP.old c hc (by simp)]
  ·obtain⟨q,hq,e1⟩:∃ q,rem'[i]? =some q∧(kx,vx)=(whA q.1,fdA q.2):=by
    unfold mG at hi
    rw[List.getElem?_map] at hi
    obtain⟨q,h1,h2⟩:=Option.map_eq_some_iff.1 hi
    exact⟨q,h1,h2.symm⟩
   injection e1 with e1 e2
   subst e1 e2
   have hqm:q∈bm:=hsub q (List.mem_of_getElem? hq)
   have hpr:=erase_perm hq
   have hme:(mG whA fdA rem').eraseIdx i=mG whA fdA (rem'.eraseIdx i):=map_erase _ _ _
   rw[hme]
   refine lZi fun M100 hM100=>?_
   have e100:M100=N.new (.cells [i64 0,i64 0,i64 0,i64 0,i64 0,i64 0] true):=hM100
   have k100:Keep N M100 []:=by rw[e100];exact Keep.new hkN.wf _
   have g100:M100.get N.next=some (.cells [i64 0,i64 0,i64 0,i64 0,i64 0,i64 0] true):=by rw[e100];exact get_new _ _
   have n100:M100.next=N.next+1:=by rw[e100];rfl
   clear hM100 e100
   refine bZi (fd_stE q.2 g100 rfl) ?_
   have k101:Keep N (M100.put N.next (.cells (fdC q.2) true)) []:=kZn k100 (Nat.le_refl _) (by omega) _
   generalize hM101:M100.put N.next (.cells (fdC q.2) true)=M101 at*
   have g101:M101.get N.next=some (.cells (fdC q.2) true):=by rw[← hM101,Mem.get_put,if_pos rfl]
   clear hM101
   have lpl:eLd tb 85 (.ptr N.next 0) M101=some (placeA q.2.b q.2.k,M101):=lZs (ld_agg (n:=2) ty85 rfl rfl g101 (by simp[fdC]))
   refine bZi lpl ⟨_,_,rfl,?_⟩
   have gol:M101.get P.next=some (.map (mG plA unA ol)):=k101.get hkN.wf hgN (by simp)
   obtain⟨ol',p1,p2,p3,_⟩:=putG mt_out gol hnd (q.2.b,q.2.k) ()
   refine bZi p1 ?_
   refine⟨rem'.eraseIdx i,ol',rfl,fun q' h'=>hsub q' (List.mem_of_mem_eraseIdx h'),fun q' hq'=>?_,fun c hc=>?_,p2,?_,by rw[Mem.get_put,if_pos rfl]⟩
   ·have own:(q.2.b,q.2.k)∈ol'.map (·.1):=List.mem_map.2 ⟨_,(p3 _).2 (.inl rfl),rfl⟩
    rcases hcov q' hq' with h1|h1
    ·have:=(hpr.mem_iff).1 h1
     rw[List.mem_cons] at this
     rcases this with rfl|h2
     ·exact .inr own
     ·exact .inl h2
    ·right
     obtain⟨e,he,he2⟩:=List.mem_map.1 h1
     by_cases hc:e.1=(q.2.b,q.2.k)
     ·rw[← he2,hc];exact own
     ·exact List.mem_map.2 ⟨e,(p3 _).2 (.inr ⟨he,hc⟩),he2⟩
   ·obtain⟨e,he,rfl⟩:=List.mem_map.1 hc
    rcases (p3 e).1 he with rfl|⟨he,_⟩
    ·exact⟨q,hqm,rfl⟩
    ·exact hsnd _ (List.mem_map.2 ⟨e,he,rfl⟩)
   ·exact (hkN.trans k101 (fun _ h _=>h) (by simp)).trans (Keep.put k101.wf (k101.wf _ _ gol) _) (fun _ h _=>h) (fun _ h _=>h)
end
def cntK(l:List (Int×Int))(b:Nat):Nat:=(l.filter fun c=>c.1==(b:Int)).length
def lvI(lv:Nat→Nat)(n:Nat):List Int:=(List.range n).map fun b=>(lv b:Int)
theorem lvI_set{lv lv':Nat→Nat}{n b:Nat}(hb:b<n)(h1:lv' b=lv b+1)(h2:∀ c,c≠b→lv' c=lv c):((lvI lv n).map i64).set b (i64 ((lv b:Int)+1))=(lvI lv' n).map i64:=by
 apply List.ext_getElem?
 intro i
 rw[List.getElem?_set]
 unfold lvI
 by_cases e:b=i
 ·subst e
  simp[hb,h1]
 ·rw[if_neg e]
  by_cases hi:i<n
  ·simp[hi,h2 i (fun h=>e h.symm)]
  ·simp[hi]
theorem lvI_zero(n:Nat):(lvI (fun _=>0) n).map i64=List.replicate n (i64 0):=by
 apply List.ext_getElem?
 intro i
 unfold lvI
 by_cases hi:i<n
 ·simp[hi]
 ·simp[hi]
section
variable {A:Adr} {M:Mem} {S:Ps} {C:Chip} {m:List Fnd}
theorem xLive_lt{b i:Nat}(h:xLive S b i=true):i<xUsed S b∧b<S.x.length:=by
 obtain⟨c,v,hv,_⟩:=xLive_iff.1 h
 refine⟨verAt_used hv,?_⟩
 obtain⟨B,h1,_⟩:=verAt_iff.1 hv
 exact (List.getElem?_eq_some_iff.1 h1).1
theorem cntK_lives{ks:List (Int×Int)}(hn:ks.Nodup)(hk:∀ c,c∈ks↔∃ b i:Nat,c=((b:Int),(i:Int))∧xLive S b i=true)(b:Nat):cntK ks b=xLives S b:=by
 unfold cntK xLives
 have e:((List.range (xUsed S b)).filter (xLive S b)).length=(((List.range (xUsed S b)).filter (xLive S b)).map fun i:Nat=>((b:Int),(i:Int))).length:=by rw[List.length_map]
 rw[e]
 refine Nat.le_antisymm (nodup_le (hn.filter _) fun c hc=>?_) (nodup_le ?_ fun c hc=>?_)
 ·rw[List.mem_filter] at hc
  obtain⟨b',i,rfl,hl⟩:=(hk c).1 hc.1
  have hbb:b'=b:=by have:=hc.2;simp at this;omega
  subst hbb
  exact List.mem_map.2 ⟨i,List.mem_filter.2 ⟨List.mem_range.2 (xLive_lt hl).1,hl⟩,rfl⟩
 ·exact List.pairwise_map.2 (((List.nodup_range).filter _).imp fun hne e=>hne (by injection e with _ e;omega))
 ·obtain⟨i,hi,rfl⟩:=List.mem_map.1 hc
  rw[List.mem_filter] at hi
  exact List.mem_filter.2 ⟨(hk _).2 ⟨b,i,rfl,hi.2⟩,by simp⟩
theorem j_lives(h:FR A M S C m):CallA tb.P 174 [.ptr A.f 0] M fun y N=>VsAt N y ((lvI (xLives S) (nB S)).map i64)∧Keep M N []∧∀ c,inBlk y c→M.next≤c:=by
 refine F174_ok ?_
 unfold F174
 have hg:=h.geo
 refine bZi eZn ?_
 refine bZi fa_g ?_
 rw[zZp]
 refine bZi h.lbl ?_
 simp only[zZi]
 have hms:evMakeSlice tb 25 (.val (.int .i64 (nB S:Int))) (.val (.int .i64 (nB S:Int))) M=some (.sl M.next 0 (nB S) (nB S) none,M.new (.cells ((lvI (fun _=>0) (nB S)).map i64) true)):=by
  unfold evMakeSlice
  rw[ty25]
  have h1:decide (0≤(nB S:Int))=true:=by simp
  have h2:decide ((nB S:Int)≤(nB S:Int))=true:=by simp
  have h3:decide (((8:Nat):Int)*(nB S:Int)≤281474976710656)=true:=by
   rw[decide_eq_true_eq];omega
  have h4:decide ((nB S:Int)<4611686018427387904)=true:=by
   rw[decide_eq_true_eq];omega
  simp only[ty3,h1,h2,h4,cond_true,Int.toNat_natCast]
  rw[h3,cond_true,lvI_zero]
  have:=repA_one' (AV.val (.int .i64 0)) (nB S)
  simp only[i64]
  rw[← this]
  rfl
 refine bZi hms ?_
 have k7:Keep M (M.new (.cells ((lvI (fun _=>0) (nB S)).map i64) true)) []:=Keep.new h.wf _
 have g7:(M.new (.cells ((lvI (fun _=>0) (nB S)).map i64) true)).get M.next=some (.cells ((lvI (fun _=>0) (nB S)).map i64) true):=get_new _ _
 have n7:(M.new (.cells ((lvI (fun _=>0) (nB S)).map i64) true)).next=M.next+1:=rfl
 clear hms
 generalize M.new (.cells ((lvI (fun _=>0) (nB S)).map i64) true)=M7 at*
 refine (j_live (h.post k7)).mono ?_
 rintro y M9 ⟨bo,ol,rfl,hbo,hgo,hnd,hkeys,hk9⟩
 have hK9:=k7.trans0 hk9
 have g9:=hk9.get k7.wf g7 (by simp)
 have he:entsB M9 (.map bo)=some (some bo,mG plA unA ol):=by unfold entsB;simp only;rw[hgo]
 rw[he,bZs]
 have hbo9:bo<M9.next:=hk9.wf _ _ hgo
 refine⟨fun rem n N=>∃ (rem':List ((Int×Int)×Unit)) (done:List (Int×Int)),rem=mG plA unA rem'∧(done++rem'.map (·.1)).Perm (ol.map (·.1))∧Keep (M9.kill bo) N [M.next]∧N.get M.next=some (.cells ((lvI (cntK done) (nB S)).map i64) true),
  ⟨ol,[],rfl,by simp,⟨hk9.wf.kill _,Nat.le_refl _,fun _ _ _=>rfl⟩,by show (M9.kill bo).get M.next=_;rw[Mem.get_kill,if_neg (by omega)];exact g9⟩,?_⟩
 rintro _ rem N ⟨rem',done,rfl,hperm,hkN,hgN⟩
 refine⟨fun hnil=>?_,fun i kx vx hi=>?_⟩
 ·have hr:rem'=[]:=by
   cases rem' with
   | nil=>rfl
   | cons a l=>simp[mG] at hnil
  subst hr
  rw[List.map_nil,List.append_nil] at hperm
  have hcnt:lvI (cntK done) (nB S)=lvI (xLives S) (nB S):=by
   unfold lvI
   apply List.map_congr_left
   intro b _
   rw[cntK_lives (hperm.nodup_iff.2 hnd) (fun c=>by rw[hperm.mem_iff];exact hkeys c) b]
  rw[hcnt] at hgN
  have hgS:(N.put bo (.map (mG plA unA ol))).get M.next=some (.cells ((lvI (xLives S) (nB S)).map i64) true):=by
   rw[Mem.get_put,if_neg (by omega)];exact hgN
  refine⟨⟨by simp,.inr ⟨M.next,0,nB S,none,by simp[lvI],⟨by simp[lvI],.inl rfl⟩,.inr ⟨_,_,hgS,by simp,by rw[List.drop_zero,List.take_of_length_le (by simp)]⟩⟩⟩,⟨hkN.wf.put (Nat.lt_of_lt_of_le (by show bo<M9.next;exact hbo9) hkN.nxt) _,?_,fun c hc _=>?_⟩,fun c hc=>?_⟩
  ·have h1:=hkN.nxt
   have h2:=hK9.nxt
   have:(M9.kill bo).next=M9.next:=rfl
   show M.next≤N.next
   omega
  ·have h2:=hK9.nxt
   show (N.put bo _).get c=_
   rw[Mem.get_put,if_neg (by omega),hkN.old c (by show c<M9.next;omega) (by simp;omega),Mem.get_kill,if_neg (by omega),hK9.old c hc (by simp)]
  ·obtain⟨_,hc⟩:=hc
   omega
 ·obtain⟨q,hq,e1⟩:∃ q,rem'[i]? =some q∧(kx,vx)=(plA q.1,unA q.2):=by
   unfold mG at hi
   rw[List.getElem?_map] at hi
   obtain⟨q,h1,h2⟩:=Option.map_eq_some_iff.1 hi
   exact⟨q,h1,h2.symm⟩
  injection e1 with e1 e2
  subst e1 e2
  have hme:(mG plA unA rem').eraseIdx i=mG plA unA (rem'.eraseIdx i):=map_erase _ _ _
  rw[hme]
  have hpr:=erase_perm hq
  have hqk:q.1∈ol.map (·.1):=hperm.mem_iff.1 (by
   rw[List.mem_append]
   exact .inr (List.mem_map.2 ⟨q,List.mem_of_getElem? hq,rfl⟩))
  obtain⟨b,k,hbk,hlv⟩:=(hkeys q.1).1 hqk
  have hb:b<nB S:=by rw[← h.inv.len];exact (xLive_lt hlv).2
  refine lZi fun M17 hM17=>?_
  have e17:M17=N.new (.cells [i64 0,i64 0] true):=hM17
  have k17:Keep N M17 []:=by rw[e17];exact Keep.new hkN.wf _
  have g17:M17.get N.next=some (.cells [i64 0,i64 0] true):=by rw[e17];exact get_new _ _
  have n17:M17.next=N.next+1:=by rw[e17];rfl
  clear hM17 e17
  refine bZi (place_stE q.1.1 q.1.2 g17 rfl) ?_
  have k18:Keep N (M17.put N.next (.cells [i64 q.1.1,i64 q.1.2] true)) []:=kZn k17 (Nat.le_refl _) (by omega) _
  generalize hM18:M17.put N.next (.cells [i64 q.1.1,i64 q.1.2] true)=M18 at*
  have g18:M18.get N.next=some (.cells [i64 q.1.1,i64 q.1.2] true):=by rw[← hM18,Mem.get_put,if_pos rfl]
  clear hM18
  refine bZi (lZs (place_ld g18).1) ?_
  rw[hbk]
  simp only[i64,zZi]
  have g18':=k18.get hkN.wf hgN (by simp)
  have hia:∀ N',eIA tb 25 (.sl M.next 0 (nB S) (nB S) none) (.val (.int .i64 (b:Int))) N'=some (.ptr M.next b,N'):=fun N'=>eIA_some (by
   unfold evIndexAddr
   rw[ty25]
   have h0:decide (0≤(b:Int))=true:=by simp
   simp only[ty3,Int.toNat_natCast,AM.blt_of hb,cond_true,h0,Nat.zero_add,Nat.mul_one])
  refine bZi (hia _) ?_
  rw[zZp]
  have hcell:((lvI (cntK done) (nB S)).map i64)[b]? =some (i64 (cntK done b:Int)):=by unfold lvI;simp[hb]
  refine bZi (lZs (lZc ty3 rfl g18' hcell)) ?_
  simp only[i64,zZi]
  refine bZi (hia _) ?_
  rw[zZp]
  refine bZi (sZs (st_cell ty3 rfl rfl g18' (by simp[lvI,hb]))) ?_
  have hdl:cntK done b≤1000:=by
   have h1:=hperm.length_eq
   rw[List.length_append,List.length_map,List.length_map] at h1
   have h2:(ol.map (·.1)).length≤(m.map (·.1)).length:=nodup_le hnd fun c hc=>by
    obtain⟨b',i',e,hl'⟩:=(hkeys c).1 hc
    obtain⟨c',v',hv',_⟩:=xLive_iff.1 hl'
    obtain⟨q',hq',e'⟩:=h.hav b' i' v' hv'
    exact List.mem_map.2 ⟨q',hq',by rw[e',e]⟩
   rw[List.length_map,List.length_map] at h2
   have h3:=h.few
   have:cntK done b≤done.length:=List.length_filter_le _ _
   omega
  rw[ia (by omega)]
  have hset:((lvI (cntK done) (nB S)).map i64).set b (i64 ((cntK done b:Int)+1))=(lvI (cntK (done++[q.1])) (nB S)).map i64:=by
   refine lvI_set hb ?_ fun c hc=>?_
   ·unfold cntK;rw[List.filter_append,List.length_append,hbk];simp
   ·unfold cntK
    rw[List.filter_append,List.length_append,hbk]
    have:(((b:Int),(k:Int)).1==(c:Int))=false:=by
     cases e:(((b:Int),(k:Int)).1==(c:Int)) with
     | false=>rfl
     | true=>rw[beq_iff_eq] at e;simp only at e;omega
    rw[List.filter_cons,if_neg (by rw[this];simp)]
    simp
  refine⟨rem'.eraseIdx i,done++[q.1],rfl,?_,?_,by rw[Mem.get_put,if_pos rfl];exact congrArg (fun l=>some (Row.cells l true)) hset⟩
  ·refine List.Perm.trans ?_ hperm
   rw[List.append_assoc]
   refine List.Perm.append_left _ ?_
   exact (hpr.map _).symm
  ·have hlt:M.next<M18.next:=k18.wf _ _ g18'
   exact (hkN.trans k18 (fun _ h _=>h) (by simp)).trans (Keep.put k18.wf hlt _) (fun _ h _=>h) (fun _ h _=>h)
theorem FR.setF(h:FR A M S C m){S':Ps}(hx:S'.x=S.x)(hg:S'.g=S.g)(hf:S'.fs=S.fs)(ho:S'.ops=S.ops)(hi:PInv S'):
 FR A (M.put A.f (.cells (flC (flOf A S')) true)) S' C m∧Keep M (M.put A.f (.cells (flC (flOf A S')) true)) [A.f]:=by
 have hfl:=h.lt A.f (by simp[Adr.wr])
 have hk:Keep M (M.put A.f (.cells (flC (flOf A S')) true)) [A.f]:=Keep.put h.wf hfl _
 have hv:∀ b i,verAt S' b i=verAt S b i:=fun b i=>by unfold verAt;rw[hx]
 have hnd:=h.dis
 unfold Adr.all at hnd
 rw[List.nodup_cons] at hnd
 have hn1:A.mf≠A.f:=fun e=>hnd.1 (by simp[e])
 have hn2:A.f∉A.ft:=fun e=>hnd.1 (by simp[e])
 refine⟨⟨hk.wf,hi,by rw[Mem.get_put,if_pos rfl],h.chip.keepS h.wf hk (fun b hb=>?_),h.foot,h.fsA,⟨h.rel.g.trans hg.symm,h.rel.fs.trans hf.symm,h.rel.calm,h.rel.ops.trans ho.symm,fun b B hB=>?_⟩,by rw[Mem.get_put,if_neg hn1];exact h.mf,h.nd,fun q hq=>?_,fun b i v hbi=>h.hav b i v (by rw[← hv];exact hbi),h.dis,h.fsx⟩,hk⟩
 ·rw[List.mem_singleton] at hb
  subst hb
  exact⟨by rw[h.foot];exact hn2,by rw[h.fsA];exact fun hm=>h.fsx _ hm (by simp[Adr.av,Adr.all])⟩
 ·obtain⟨X,e1,e2,e3,e4,e5,e6⟩:=h.rel.blk b B hB
  exact⟨X,by rw[hx];exact e1,e2,e3,e4,e5,fun j h1 h2=>e6 j h1 (by unfold nG at h2 ⊢;rw[hg] at h2;exact h2)⟩
 ·obtain⟨b,i,v,e1,e2,e3,e4,e5,e6⟩:=h.lnk q hq
  refine⟨b,i,v,e1,by rw[hv];exact e2,e3,SlAt.keep e4 h.wf hk (fun c hc hm=>?_),e5,e6⟩
  rw[List.mem_singleton] at hm
  subst hm
  exact e6 _ hc (by simp[Adr.av,Adr.all])
theorem j_worn(h:FR A M S C m):CallA tb.P 49 [.ptr A.f 0] M fun y N=>y=i64 (wornX S).2∧FR A N (wornX S).1 C m∧Keep M N [A.f]:=by
 refine F49_ok ?_
 unfold F49
 refine bZi eZn ?_
 refine bZi fa_g ?_
 rw[zZp]
 refine bZi h.lsp ?_
 simp only[zZi]
 refine (j_lost h).mono ?_
 rintro y N ⟨rfl,hk⟩
 simp only[i64,zZi]
 have hN:=h.post hk
 refine⟨bZi hN.lsp rfl,?_⟩
 unfold wornX
 refine cZi (fun e=>?_) (fun e=>?_)
 ·rw[if_pos (of_decide_eq_true e)]
  exact⟨rfl,hN,hk.mono (by simp)⟩
 ·rw[if_neg (of_decide_eq_false e)]
  refine bZi eZn ?_
  have fa9:eFA tb 83 (.ptr A.f 0) 9 N=some (.ptr A.f 13,N):=(fl_fa A.f).2.2.2.2.2.2
  refine bZi fa9 ?_
  rw[zZp]
  refine bZi (sZs (st_cell ty4 rfl rfl hN.fl (by simp[flC]))) ?_
  obtain⟨h1,h2⟩:=hN.setF (S':={ S with deg:=true }) rfl rfl rfl rfl (hN.inv.deg true)
  exact⟨rfl,h1,hk.trans h2 (by simp) (fun _ h _=>h)⟩
end
section
variable {A:Adr} {M:Mem} {S:Ps} {C:Chip} {m:List Fnd}
theorem ib{a:Int}(h: -4611686018427387904≤a∧a≤4611686018427387903):iAdd .i64 a 1=a+1:=wrap_i64' (by omega) (by omega)
theorem FR.isG(h:FR A M S C m){b i:Nat}(hb:b<nB S)(hi:i<nG S):isG C.g (b:Int) (i:Int)=true:=by
 have hg:=h.geo
 rw[isG_iff,h.rel.g]
 omega
theorem FR.raw(h:FR A M S C m):(rawN C.g:Int)=S.g.by'+16:=by
 rw[h.rel.g]
 have hm:=mayG_iff.1 h.inv.may
 unfold rawN
 omega
theorem er_calm(h:FR A M S C m){b:Nat}(hb:b<nB S)(hl:xLost S b=false)(ho:S.ops≤4294967295∧0≤S.ops):
 ∃ B X,C.bs[b]? =some B∧S.x[b]? =some X∧erR C b=({ C with ops:=C.ops+1,bs:=C.bs.set b { B with by':=List.replicate B.by'.length 255#8,next:=0,wear:=B.wear+1,done:=B.done+1 } },0):=by
 obtain⟨B,X,e1,e2,e3,e4,e5⟩:=h.block hb
 have hg:=h.geo
 obtain⟨c1,c2,c3⟩:=h.rel.calm.bg
 refine⟨B,X,e1,e2,?_⟩
 have ha:askd C (b:Int) 0=0:=by
  unfold askd
  rw[h.rel.calm.off]
  have:=h.isG hb (i:=0) (by omega)
  rw[show ((0:Nat):Int)=0 from rfl] at this
  rw[if_neg (by simp),if_pos this]
 unfold erR
 rw[if_pos ha,c1]
 have hf:erF C=255#8:=by unfold erF;rw[c1];simp
 rw[hf,c2,Int.toNat_natCast]
 have hcx:=h.inv.cnt b X e2
 have hop:=h.rel.ops
 have hlf:failsF C.fs b B.done=false:=by
  unfold xLost at hl
  rw[e2] at hl
  simp only[Bool.or_eq_false_iff] at hl
  rw[h.rel.fs,e5];exact hl.2
 unfold erS
 simp only[e1]
 rw[if_neg (by rw[hlf];simp)]
 simp only[Bool.false_eq_true,if_false,if_true]
 unfold Chip.upB
 simp only
 rw[ib (a:=C.ops) (by omega),ib (a:=B.wear) (by omega),ib (a:=B.done) (by omega)]
theorem FR.nx(h:FR A M S C m):A.f∉A.ft∧A.mf∉A.ft∧A.f≠A.mf:=by
 have hnd:=h.dis
 unfold Adr.all at hnd
 rw[List.nodup_cons,List.nodup_cons] at hnd
 exact⟨fun e=>hnd.1 (by simp[e]),fun e=>hnd.2.1 (by simp[e]),fun e=>hnd.1 (by simp[e])⟩
theorem j_erase(h:FR A M S C m){b:Nat}(hb:b<nB S)(ho:S.ops≤4294967295∧0≤S.ops):
 CallA tb.P 85 [.ptr A.f 0,i64 (b:Int)] M fun y N=>∃ C' m',y=i64 (eraseX S b).2∧FR A N (eraseX S b).1 C' m'∧Keep M N A.wr:=by
 refine F85_ok ?_
 unfold F85
 simp only[i64,zZi]
 refine lZi fun M2 hM2=>?_
 have e2:M2=M.new (.cells [i64 (b:Int)] true):=hM2
 have k2:Keep M M2 []:=by rw[e2];exact Keep.new h.wf _
 have g2:M2.get M.next=some (.cells [i64 (b:Int)] true):=by rw[e2];exact get_new _ _
 clear hM2 e2
 have h2:=h.post k2
 refine bZi (lZs (lZc ty3 rfl g2 rfl)) ?_
 simp only[i64,zZi]
 refine (j_bad h2 hb).mono ?_
 rintro y M6 ⟨rfl,k6⟩
 rw[zZb]
 have h6:=h2.post k6
 have K6:=k2.trans0 k6
 unfold eraseX
 refine cZi (fun e=>?_) (fun e=>?_)
 ·rw[if_pos e]
  exact⟨C,m,rfl,h6,K6.mono (by simp)⟩
 rw[if_neg (by rw[e];simp)]
 refine bZi eZn ?_
 refine bZi fa_chip ?_
 rw[zZp]
 refine bZi h6.ldp ?_
 have g6:=k6.get k2.wf g2 (by simp)
 refine bZi (lZs (lZc ty3 rfl g6 rfl)) ?_
 simp only[i64,zZi]
 obtain⟨B,X,b1,b2,hr⟩:=er_calm h6 hb e ho
 refine (c_erase M6 k6.wf A.p C h6.chip (b:Int)).mono ?_
 rintro y N ⟨rfl,hst⟩
 rw[hr] at hst ⊢
 simp only[i64,zZi]
 simp only[bne_self_eq_false,cZf]
 generalize hC':({ C with ops:=C.ops+1,bs:=C.bs.set b { B with by':=List.replicate B.by'.length 255#8,next:=0,wear:=B.wear+1,done:=B.done+1 } }:Chip)=C' at*
 obtain⟨n1,n2,n3⟩:=h.nx
 have hnf:∀ c,c∉A.ft→∀ r,M6.get c=some r→N.get c=some r:=fun c hc r hr=>hst.keep.get k6.wf hr (by rw[h6.foot];exact hc)
 have fN:N.get A.f=some (.cells (flC (flOf A S)) true):=hnf _ n1 _ h6.fl
 have mN:N.get A.mf=some (.map (mK m)):=hnf _ n2 _ h6.mf
 have hltft:∀ c∈A.ft,c<M.next:=fun c hc=>h.lt c (by simp[Adr.wr,hc])
 have gN:N.get M.next=some (.cells [i64 (b:Int)] true):=hnf _ (fun hm=>by have:=hltft _ hm;omega) _ g6
 refine bZi eZn ?_
 refine bZi fa_mf ?_
 rw[zZp]
 refine bZi (lZs (lZc ty79 rfl fN (o:=6) (v:= .map A.mf) rfl)) ?_
 refine (f_delf N hst.wf A.mf m mN h6.nd (fun q hq=>?_) M.next (b:Int) gN).mono ?_
 ·obtain⟨_,_,_,_,_,_,_,h7,_⟩:=h6.lnk q hq
  exact h7
 rintro y N2 ⟨rfl,mN2,kN2⟩
 have hmfd:∀ c,inBlk A.fsA c→c≠A.mf:=fun c hc e=>h.fsx c hc (by rw[e];simp[Adr.av,Adr.all])
 have hbX:b<S.x.length:=by rw[h.inv.len];exact hb
 have hR:FR A N2 (wipeX S b) C' (m.filter fun q=> !(q.1.1==(b:Int))):=by
  have fN2:N2.get A.f=some (.cells (flC (flOf A S)) true):=kN2.get hst.wf fN (by simp;exact n3)
  have hch:ChipAt N2 A.p C':=hst.at'.keepS hst.wf kN2 fun c hc=>by
   rw[List.mem_singleton] at hc
   subst hc
   exact⟨by rw[hst.foot,h6.foot];exact n2,by rw[hst.fsA,h6.fsA];exact fun hm=>hmfd _ hm rfl⟩
  refine⟨kN2.wf,h6.inv.wipe b,fN2,hch,hst.foot.trans h6.foot,hst.fsA.trans h6.fsA,⟨hst.g.trans h6.rel.g,hst.fs.trans h6.rel.fs,?_,?_,fun c D hD=>?_⟩,mN2,h6.nd.sublist (List.filter_sublist.map _),fun q hq=>?_,fun c i v hv=>?_,h6.dis,h6.fsx⟩
  ·rw[← hC'];exact⟨h6.rel.calm.off,h6.rel.calm.turn,h6.rel.calm.cuts⟩
  ·rw[← hC']
   show C.ops+1=S.ops+1
   rw[h6.rel.ops]
  ·have hCb:C'.bs=C.bs.set b { B with by':=List.replicate B.by'.length 255#8,next:=0,wear:=B.wear+1,done:=B.done+1 }:=by rw[← hC']
   rw[hCb,List.getElem?_set] at hD
   have hraw:rawN C'.g=rawN C.g:=by rw[hst.g]
   by_cases ec:b=c
   ·subst ec
    rw[if_pos rfl,if_pos (by rw[h6.blen];exact hb)] at hD
    injection hD with hD
    obtain⟨X',x1,x2,x3,x4,_⟩:=h6.rel.blk b B b1
    rw[b2] at x1
    injection x1 with x1
    subst x1
    refine⟨⟨[],X.w+1,X.n+1⟩,?_,by rw[← hD];rfl,by rw[← hD];show B.wear+1=_;rw[x3],by rw[← hD];show B.done+1=_;rw[x4],fun j v hv=>by simp at hv,fun j _ hj=>?_⟩
    ·show (S.x.modify b _)[b]? =_
     rw[List.getElem?_modify,b2];simp
    ·have hj:j<nG S:=hj
     have hlenB:=h6.chip.ful B (List.mem_of_getElem? b1)
     rw[← hD,hraw]
     show pageB _ _ _=_
     unfold pageB
     simp only
     rw[hlenB]
     exact rep_page (by rw[h6.rel.g];exact hj)
   ·rw[if_neg ec] at hD
    obtain⟨X',x1,x2,x3,x4,x5,x6⟩:=h6.rel.blk c D hD
    refine⟨X',?_,x2,x3,x4,by rw[hraw];exact x5,fun j h1 h2=>by rw[hraw];exact x6 j h1 h2⟩
    show (S.x.modify b _)[c]? =_
    rw[List.getElem?_modify,x1];simp[ec]
  ·rw[List.mem_filter] at hq
   obtain⟨c,i,v,e1,e2,e3,e4,e5,e6⟩:=h6.lnk q hq.1
   have hcb:c≠b:=fun e=>by
    have:=hq.2
    rw[e1,e] at this
    simp at this
   refine⟨c,i,v,e1,by rw[verAt_wipe,if_neg hcb];exact e2,e3,?_,e5,e6⟩
   have hb1:BytesAt N q.2.d v.d:=SlAt.keep e4 k6.wf hst.keep fun d hd hm=>e6 d hd (by rw[h6.foot] at hm;simp[Adr.av,Adr.all,hm])
   exact SlAt.keep hb1 hst.wf kN2 fun d hd hm=>e6 d hd (by rw[List.mem_singleton] at hm;subst hm;simp[Adr.av,Adr.all])
  ·rw[verAt_wipe] at hv
   split at hv
   ·cases hv
   ·rename_i hcb
    obtain⟨q,hq,e1⟩:=h6.hav c i v hv
    refine⟨q,List.mem_filter.2 ⟨hq,?_⟩,e1⟩
    rw[e1]
    simp
    omega
 refine (j_worn hR).mono ?_
 rintro y N3 ⟨rfl,hR3,k3⟩
 simp only[i64,zZi]
 refine⟨C',_,by trivial,hR3,?_⟩
 have k1:Keep M N A.wr:=(K6.trans hst.keep (by simp) (fun c hc _=>by rw[h6.foot] at hc;simp[Adr.wr,hc]))
 exact (k1.trans kN2 (fun _ h _=>h) (fun c hc _=>by rw[List.mem_singleton] at hc;subst hc;simp[Adr.wr])).trans k3 (fun _ h _=>h) (fun c hc _=>by rw[List.mem_singleton] at hc;subst hc;simp[Adr.wr])
theorem pg_calm(h:FR A M S C m){b:Nat}(hb:b<nB S)(hl:xLost S b=false)(hu:xUsed S b<nG S)(ho:S.ops≤4294967295∧0≤S.ops){d:List (BitVec 8)}(hd:d.length=rawN C.g):
 ∃ B X,C.bs[b]? =some B∧S.x[b]? =some X∧X.v.length=xUsed S b∧pgR C b (xUsed S b:Int) d=({ C with ops:=C.ops+1,bs:=C.bs.set b { B with by':=over B.by' (xUsed S b*rawN C.g) d,next:=B.next+1,done:=B.done+1 } },0):=by
 obtain⟨B,X,e1,e2,e3,e4,e5⟩:=h.block hb
 have hg:=h.geo
 obtain⟨c1,c2,c3⟩:=h.rel.calm.bg
 have hxu:X.v.length=xUsed S b:=by unfold xUsed;rw[e2]
 refine⟨B,X,e1,e2,hxu,?_⟩
 have ha:askd C (b:Int) (xUsed S b:Int)=0:=by
  unfold askd
  rw[h.rel.calm.off,if_neg (by simp),if_pos (h.isG hb hu)]
 unfold pgR
 rw[if_pos ha,if_pos hd,c1,c2,Int.toNat_natCast,Int.toNat_natCast]
 have hcx:=h.inv.cnt b X e2
 have hop:=h.rel.ops
 have hlf:failsF C.fs b B.done=false:=by
  unfold xLost at hl
  rw[e2] at hl
  simp only[Bool.or_eq_false_iff] at hl
  rw[h.rel.fs,e5];exact hl.2
 unfold pgS
 simp only[e1]
 rw[if_neg (by rw[hlf];simp),if_neg (by rw[e3,hxu];simp)]
 simp only[Bool.false_eq_true,if_false]
 unfold Chip.upB
 simp only
 rw[ib (a:=C.ops) (by omega),ib (a:=B.next) (by omega),ib (a:=B.done) (by omega)]
theorem j_program(h:FR A M S C m){b:Nat}{t:Tg}{x:AV}{d:List (BitVec 8)}(hb:b<nB S)(hl:xLost S b=false)(hu:xUsed S b<nG S)(ho:S.ops+1≤4294967295)
 (hok:∀ s:Int,0≤s∧s≤4294967295→okL d t.k t.p s t.e=true) (hd:(d.length:Int)=S.g.by') (hp:t.k≠3→t.p<logG S.g) (he:t.e≤S.ep) (hx:BytesAt M x d) (hone:x.one=true) (hxa:∀ c,inBlk x c→c∉A.av):
 CallA tb.P 121 [.ptr A.f 0,placeA (b:Int) (xUsed S b:Int),tgA t,x] M fun y N=>∃ C' m',y=i64 (progX S b t d).2∧FR A N (progX S b t d).1 C' m'∧Keep M N A.wr:=by
 have hseq:=h.inv.seq
 refine F121_ok ?_
 unfold F121
 refine⟨_,_,rfl,_,_,_,_,rfl,?_⟩
 refine lZi fun M7 hM7=>?_
 have e7:M7=M.new (.cells [i64 (b:Int),i64 (xUsed S b:Int)] true):=hM7
 have k7:Keep M M7 []:=by rw[e7];exact Keep.new h.wf _
 have g7:M7.get M.next=some (.cells [i64 (b:Int),i64 (xUsed S b:Int)] true):=by rw[e7];exact get_new _ _
 have n7:M7.next=M.next+1:=by rw[e7];rfl
 clear hM7 e7
 refine lZi fun M8 hM8=>?_
 have e8:M8=M7.new (.cells (tgC t) true):=hM8
 have k8:Keep M M8 []:=k7.trans0 (by rw[e8];exact Keep.new k7.wf _)
 have g8:M8.get M7.next=some (.cells (tgC t) true):=by rw[e8];exact get_new _ _
 have g8':M8.get M.next=some (.cells [i64 (b:Int),i64 (xUsed S b:Int)] true):=by rw[e8,Mem.get_new,if_neg (by omega)];exact g7
 have n8:M8.next=M7.next+1:=by rw[e8];rfl
 clear hM8 e8 k7 g7
 have h8:=h.post k8
 have fa6:∀ N,eFA tb 83 (.ptr A.f 0) 6 N=some (.ptr A.f 10,N):=fun N=>eFA_some (by unfold eZf;rw[ty83];rfl)
 refine bZi eZn ?_
 refine bZi (fa6 _) ?_
 rw[zZp]
 refine bZi (lZs (lZc ty3 rfl h8.fl (o:=10) (v:=i64 S.seq) rfl)) ?_
 simp only[i64,zZi]
 refine bZi eZn ?_
 refine bZi (fa6 _) ?_
 rw[zZp]
 rw[ib (by omega)]
 refine bZi (sZs (st_cell ty3 rfl rfl h8.fl (by simp[flC]))) ?_
 have hS1:∃ S1:Ps,S1={ S with seq:=S.seq+1,ops:=S.ops }:=⟨_,rfl⟩
 have hflA:=h.lt A.f (by simp[Adr.wr])
 have hfl19:(M8.put A.f (.cells ((flC (flOf A S)).set 10 (.val (.int .i64 (S.seq+1)))) true)).get A.f=some (.cells (flC (flOf A { S with seq:=S.seq+1 })) true):=by rw[Mem.get_put,if_pos rfl];rfl
 have k19:Keep M8 (M8.put A.f (.cells ((flC (flOf A S)).set 10 (.val (.int .i64 (S.seq+1)))) true)) [A.f]:=Keep.put k8.wf (by omega) _
 generalize hM19:M8.put A.f (.cells ((flC (flOf A S)).set 10 (.val (.int .i64 (S.seq+1)))) true)=M19 at*
 have n19:M19.next=M8.next:=by rw[← hM19];rfl
 clear hM19 hS1
 refine bZi eZn ?_
 refine bZi (fa6 _) ?_
 rw[zZp]
 refine bZi (lZs (lZc ty3 rfl hfl19 (o:=10) (v:=i64 (S.seq+1)) rfl)) ?_
 simp only[i64,zZi]
 have g19:M19.get M7.next=some (.cells (tgC t) true):=k19.get k8.wf g8 (by simp;omega)
 have g19':M19.get M.next=some (.cells [i64 (b:Int),i64 (xUsed S b:Int)] true):=k19.get k8.wf g8' (by simp;omega)
 refine bZi (sZs (st_cell ty3 rfl rfl g19 (by simp[tgC]))) ?_
 have hset:(tgC t).set 2 (.val (.int .i64 (S.seq+1)))=tgC { t with s:=S.seq+1 }:=rfl
 rw[hset]
 have k26:Keep M (M19.put M7.next (.cells (tgC { t with s:=S.seq+1 }) true)) [A.f]:=
  (k8.trans k19 (by simp) (fun _ h _=>h)).trans (Keep.put k19.wf (by omega) _) (fun _ h _=>h) (fun c hc hlt=>by rw[List.mem_singleton] at hc;omega)
 have g26:(M19.put M7.next (.cells (tgC { t with s:=S.seq+1 }) true)).get M7.next=some (.cells (tgC { t with s:=S.seq+1 }) true):=by rw[Mem.get_put,if_pos rfl]
 have g26':(M19.put M7.next (.cells (tgC { t with s:=S.seq+1 }) true)).get M.next=some (.cells [i64 (b:Int),i64 (xUsed S b:Int)] true):=by rw[Mem.get_put,if_neg (by omega)];exact g19'
 have f26:(M19.put M7.next (.cells (tgC { t with s:=S.seq+1 }) true)).get A.f=some (.cells (flC (flOf A { S with seq:=S.seq+1 })) true):=by rw[Mem.get_put,if_neg (by omega)];exact hfl19
 have n26:(M19.put M7.next (.cells (tgC { t with s:=S.seq+1 }) true)).next=M8.next:=n19
 generalize M19.put M7.next (.cells (tgC { t with s:=S.seq+1 }) true)=M26 at*
 refine bZi (lZs (tag_ld g26).2.2.2.2) ⟨_,_,_,_,rfl,?_⟩
 obtain⟨nn1,nn2,nn3⟩:=h.nx
 have hx26:BytesAt M26 x d:=SlAt.keep hx h.wf k26 fun c hc hm=>hxa c hc (by rw[List.mem_singleton] at hm;subst hm;simp[Adr.av,Adr.all])
 have hokd:=hok (S.seq+1) (by omega)
 have hdl:d.length≤64:=(okL_may hokd).1.2
 refine (t_lay M26 k26.wf x d t.k t.p (S.seq+1) t.e hx26 (by omega)).mono ?_
 rintro y M33 ⟨k33,hlay⟩
 rcases hlay with⟨_,raw,rfl,hraw,fraw⟩|⟨hno,_⟩
 rotate_left
 ·rw[hokd] at hno;cases hno
 refine⟨_,_,rfl,?_⟩
 have K33:=k26.trans k33 (fun _ h _=>h) (by simp)
 have f33:=k33.get k26.wf f26 (by simp)
 have g33:=k33.get k26.wf g26 (by simp)
 have g33':=k33.get k26.wf g26' (by simp)
 have hfdis:∀ c∈[A.f],c∉foot A.p C∧¬ inBlk C.fsA c:=fun c hc=>by
  rw[List.mem_singleton] at hc
  subst hc
  exact⟨by rw[h.foot];exact nn1,by rw[h.fsA];exact fun hm=>h.fsx _ hm (by simp[Adr.av,Adr.all])⟩
 have ch33:ChipAt M33 A.p C:=h.chip.keepS h.wf K33 hfdis
 have m33:M33.get A.mf=some (.map (mK m)):=K33.get h.wf h.mf (by simp;exact fun e=>nn3 e.symm)
 refine bZi eZn ?_
 refine bZi fa_chip ?_
 rw[zZp]
 refine bZi (lZs (lZc ty28 rfl f33 (o:=0) (v:= .ptr A.p 0) rfl)) ?_
 refine bZi (lZs (place_ld g33').2.2) ⟨_,_,rfl,?_⟩
 have hrl:(laid d t.k t.p (S.seq+1) t.e).length=rawN C.g:=by
  rw[laid_length]
  have:=h.raw
  omega
 obtain⟨B,X,b1,b2,hxu,hr⟩:=pg_calm h hb hl hu (by omega) hrl
 have hftlt:∀ c∈A.ft,c<M.next:=fun c hc=>h.lt c (by simp[Adr.wr,hc])
 refine (c_program M33 k33.wf A.p C ch33 (b:Int) (xUsed S b:Int) raw _ hraw.at (by rw[hrl];have:=h.raw;have:=mayG_iff.1 h.inv.may;omega) (fun c hc hm=>?_)).mono ?_
 ·have h1:=fraw c hc
  have h2:=hftlt c (by rw[← h.foot];exact hm)
  have h3:=k26.nxt
  omega
 rintro y N ⟨rfl,hst⟩
 rw[hr] at hst ⊢
 simp only[i64,zZi]
 simp only[bne_self_eq_false,cZf]
 generalize hC':({ C with ops:=C.ops+1,bs:=C.bs.set b { B with by':=over B.by' (xUsed S b*rawN C.g) (laid d t.k t.p (S.seq+1) t.e),next:=B.next+1,done:=B.done+1 } }:Chip)=C' at*
 have hnf:∀ c,c∉A.ft→∀ r,M33.get c=some r→N.get c=some r:=fun c hc r hr=>hst.keep.get k33.wf hr (by rw[h.foot];exact hc)
 have fN:=hnf _ nn1 _ f33
 have mN:=hnf _ nn2 _ m33
 have gN:=hnf _ (fun hm=>by have:=hftlt _ hm;omega) _ g33
 have gN':=hnf _ (fun hm=>by have:=hftlt _ hm;omega) _ g33'
 refine bZi eZn ?_
 refine bZi fa_mf ?_
 rw[zZp]
 refine bZi (lZs (lZc ty79 rfl fN (o:=6) (v:= .map A.mf) rfl)) ?_
 refine bZi (lZs (place_ld gN').2.2) ⟨_,_,rfl,?_⟩
 refine bZi (lZs (tag_ld gN).2.2.2.2) ⟨_,_,_,_,rfl,?_⟩
 have hbd:eBd tb 94 [(0,tagA t.k t.p (S.seq+1) t.e),(1,x)] N=some (pgA ⟨t.k,t.p,S.seq+1,t.e,x⟩,N):=by
  refine eBd_some ?_
  unfold evBuild
  rw[ty94]
  rcases hx.2 with⟨rfl,_⟩|⟨b',o',c',ex',rfl,_⟩ <;> rfl
 refine bZi hbd ⟨_,_,_,_,_,rfl,?_⟩
 have hno:∀ q∈m,q.1≠((b:Int),(xUsed S b:Int)):=fun q hq e=>by
  obtain⟨b',i',v',e1,e2,_⟩:=h.lnk q hq
  rw[e] at e1
  injection e1 with e1 e1'
  have h1:=verAt_used e2
  have:b'=b:=by omega
  subst this
  omega
 obtain⟨m',p1,p2,p3,_⟩:=putG mt_found (show N.get A.mf=some (.map (mG plA pgA m)) from mN) h.nd ((b:Int),(xUsed S b:Int)) (⟨t.k,t.p,S.seq+1,t.e,x⟩:Pg)
 refine bZi p1 ?_
 have kP:Keep N (N.put A.mf (.map (mG plA pgA m'))) [A.mf]:=Keep.put hst.wf (hst.wf _ _ mN) _
 have hbX:b<S.x.length:=by rw[h.inv.len];exact hb
 have KN:Keep M N A.wr:=K33.trans hst.keep (fun c hc _=>by rw[List.mem_singleton] at hc;subst hc;simp[Adr.wr]) (fun c hc _=>by rw[h.foot] at hc;simp[Adr.wr,hc])
 have KP:Keep M (N.put A.mf (.map (mG plA pgA m'))) A.wr:=KN.trans kP (fun _ h _=>h) (fun c hc _=>by rw[List.mem_singleton] at hc;subst hc;simp[Adr.wr])
 have hR:FR A (N.put A.mf (.map (mG plA pgA m'))) (pushX S b t d) C' m':=by
  have hch:ChipAt (N.put A.mf (.map (mG plA pgA m'))) A.p C':=hst.at'.keepS hst.wf kP fun c hc=>by
   rw[List.mem_singleton] at hc
   subst hc
   exact⟨by rw[hst.foot,h.foot];exact nn2,by rw[hst.fsA,h.fsA];exact fun hm=>h.fsx _ hm (by simp[Adr.av,Adr.all])⟩
  refine⟨KP.wf,h.inv.push hb hl hu hokd hd hp he,?_,hch,hst.foot.trans h.foot,hst.fsA.trans h.fsA,⟨hst.g.trans h.rel.g,hst.fs.trans h.rel.fs,?_,?_,fun c D hD=>?_⟩,by rw[Mem.get_put,if_pos rfl];rfl,p2,fun q hq=>?_,fun c i v hv=>?_,h.dis,h.fsx⟩
  ·rw[Mem.get_put,if_neg (fun e=>nn3 e)];exact fN
  ·rw[← hC'];exact⟨h.rel.calm.off,h.rel.calm.turn,h.rel.calm.cuts⟩
  ·rw[← hC']
   show C.ops+1=S.ops+1
   rw[h.rel.ops]
  ·have hCb:C'.bs=C.bs.set b { B with by':=over B.by' (xUsed S b*rawN C.g) (laid d t.k t.p (S.seq+1) t.e),next:=B.next+1,done:=B.done+1 }:=by rw[← hC']
   rw[hCb,List.getElem?_set] at hD
   have hraw:rawN C'.g=rawN C.g:=by rw[hst.g]
   by_cases ec:b=c
   ·subst ec
    rw[if_pos rfl,if_pos (by rw[h.blen];exact hb)] at hD
    injection hD with hD
    obtain⟨X',x1,x2,x3,x4,x5,x6⟩:=h.rel.blk b B b1
    rw[b2] at x1
    injection x1 with x1
    subst x1
    have hlenB:=h.chip.ful B (List.mem_of_getElem? b1)
    rw[h.rel.g] at hlenB
    have hpage:∀ j,j<nG S→pageB D (rawN C'.g) j=if j=xUsed S b then laid d t.k t.p (S.seq+1) t.e else pageB B (rawN C.g) j:=fun j hj=>by
     rw[hraw,← hD]
     unfold pageB
     simp only
     have:=over_page (l:=B.by') (d:=laid d t.k t.p (S.seq+1) t.e) (r:=rawN C.g) (j:=xUsed S b) (k:=j) (n:=nG S) (by rw[hlenB,h.rel.g];rfl) hrl hu hj
     rw[this]
    refine⟨⟨X.v++[⟨{ t with s:=S.seq+1 },d⟩],X.w,X.n+1⟩,?_,?_,by rw[← hD];exact x3,by rw[← hD];show B.done+1=_;rw[x4],fun j v hv=>?_,fun j h1 hj=>?_⟩
    ·show (S.x.modify b _)[b]? =_
     rw[List.getElem?_modify,b2];simp
    ·rw[← hD]
     show B.next+1=_
     rw[x2];simp
    ·simp only at hv
     have hjl:j<X.v.length+1:=by
      have:=(List.getElem?_eq_some_iff.1 hv).1
      simpa using this
     rw[hpage j (by omega)]
     by_cases ej:j=xUsed S b
     ·rw[if_pos ej]
      rw[ej,← hxu,List.getElem?_append_right (Nat.le_refl _)] at hv
      simp at hv
      rw[← hv];rfl
     ·rw[if_neg ej]
      rw[List.getElem?_append_left (by omega)] at hv
      exact x5 j v hv
    ·simp only[List.length_append,List.length_singleton] at h1
     rw[hpage j hj,if_neg (by omega),hraw]
     exact x6 j (by omega) hj
   ·rw[if_neg ec] at hD
    obtain⟨X',x1,x2,x3,x4,x5,x6⟩:=h.rel.blk c D hD
    refine⟨X',?_,x2,x3,x4,by rw[hraw];exact x5,fun j h1 h2=>by rw[hraw];exact x6 j h1 h2⟩
    show (S.x.modify b _)[c]? =_
    rw[List.getElem?_modify,x1];simp[ec]
  ·rcases (p3 q).1 hq with rfl|⟨hq,_⟩
   ·refine⟨b,xUsed S b,⟨{ t with s:=S.seq+1 },d⟩,rfl,by rw[verAt_push hbX,if_pos ⟨rfl,rfl⟩],⟨rfl,rfl,rfl,rfl⟩,?_,hone,hxa⟩
    exact SlAt.keep hx h.wf KP fun c hc hm=>hxa c hc (Adr.wr_av hm)
   ·obtain⟨c,i,v,e1,e2,e3,e4,e5,e6⟩:=h.lnk q hq
    refine⟨c,i,v,e1,?_,e3,SlAt.keep e4 h.wf KP fun c hc hm=>e6 c hc (Adr.wr_av hm),e5,e6⟩
    rw[verAt_push hbX,if_neg]
    ·exact e2
    ·rintro⟨rfl,rfl⟩
     have:=verAt_used e2
     omega
  ·rw[verAt_push hbX] at hv
   split at hv
   ·rename_i hc
    obtain⟨rfl,rfl⟩:=hc
    exact⟨_,(p3 _).2 (.inl rfl),rfl⟩
   ·rename_i hc
    obtain⟨q,hq,e1⟩:=h.hav c i v hv
    refine⟨q,(p3 _).2 (.inr ⟨hq,fun e=>hc ?_⟩),e1⟩
    rw[e1] at e
    injection e with e e'
    omega
 refine (j_worn hR).mono ?_
 rintro y N3 ⟨rfl,hR3,k3⟩
 simp only[i64,zZi]
 exact⟨C',m',by trivial,hR3,KP.trans k3 (fun _ h _=>h) (fun c hc _=>by rw[List.mem_singleton] at hc;subst hc;simp[Adr.wr])⟩
end
def toX(S:Ps)(to:Int):Int:=if to<0 then xFresh S else if (xLost S to.toNat||xUsed S to.toNat==nG S)=true then xFresh S else to
theorem clr_to{S0 S:Ps}{b i:Nat}{to:Int}(h0:ClrPre S0 b)(h:Clr S0 b i to S)(hi:i<nG S0){c:Int×Bool}{v:Ver}(hv:Best S c b i v):
 ∃ t:Nat,toX S to=(t:Int)∧t<nB S∧t≠b∧xLost S t=false∧xFree S0 t=true∧xUsed S t≤cnt i (xLive S0 b)∧phi S0≤phi S+(if xUsed S t=0 then 0 else 1):=by
 have fresh:phi S0≤phi S→0≤xFresh S∧xFresh S<nB S∧(xFresh S).toNat<nB S∧(xFresh S).toNat≠b∧xLost S (xFresh S).toNat=false∧xFree S0 (xFresh S).toNat=true∧xUsed S (xFresh S).toNat=0:=fun hp=>by
  have h1:=phi_eq S
  have h2:=h.lost
  have h3:=h0.phi
  have h4:=congrArg Geo.sp h.env.g
  obtain⟨f1,f2,f3⟩:=fresh_some (S:=S) (by omega)
  have f4:=f3
  unfold xFree xGood at f4
  simp only[Bool.and_eq_true,Bool.not_eq_true',beq_iff_eq] at f4
  refine⟨f1,f2,by omega,fun e=>?_,f4.1,?_,f4.2⟩
  ·have:=verAt_used hv.1
   rw[← e] at this;omega
  ·cases hf:xFree S0 (xFresh S).toNat with
   | true=>rfl
   | false=>
     have hst:=h.stay _ hf
     unfold xFree xGood at f3 hf
     rw[lost_blk h.env.fs hst,used_blk hst,hf] at f3
     cases f3
 unfold toX
 rcases h.to with⟨h1,h2,h3⟩|⟨h1,h2,h3,h4,h5,h6,h7⟩
 ·rw[if_pos h1]
  obtain⟨f1,f2,f3,f4,f5,f6,f7⟩:=fresh (by omega)
  exact⟨(xFresh S).toNat,by omega,f3,f4,f5,f6,by omega,by rw[if_pos f7];omega⟩
 ·rw[if_neg (by omega)]
  rcases h7 with⟨h7,h8⟩|⟨h7,h8⟩
  ·rw[if_pos (by rw[h7];rfl)]
   obtain⟨f1,f2,f3,f4,f5,f6,f7⟩:=fresh h8
   exact⟨(xFresh S).toNat,by omega,f3,f4,f5,f6,by omega,by rw[if_pos f7];omega⟩
  ·have hc:=cnt_le i (xLive S0 b)
   have hne:(xUsed S to.toNat==nG S)=false:=by
    rw[h.env.nG]
    simp;omega
   rw[h7,hne,if_neg (by simp)]
   exact⟨to.toNat,by omega,by omega,h3,h7,h4,h6,by rw[if_neg (by omega)];omega⟩
theorem clrL_skip{b:Nat}{live:Nat→Bool}{k i:Nat}{to:Int}{S:Ps}(h:live i=false):clrL b live (k+1) i to S=clrL b live k (i+1) to S:=by
 rw[clrL,h]
theorem clrL_copy{b:Nat}{live:Nat→Bool}{k i:Nat}{to:Int}{S:Ps}{v:Ver}{t:Nat}(h:live i=true)(hv:verAt S b i=some v)(ht:toX S to=(t:Int)):
 clrL b live (k+1) i to S=if (progX S t v.t v.d).2≠0 then progX S t v.t v.d else clrL b live k (i+1) (t:Int) (progX S t v.t v.d).1:=by
 unfold toX at ht
 rw[clrL,h,hv]
 simp only
 rw[ht,if_neg (by omega),Int.toNat_natCast]
section
variable {A:Adr} {M:Mem} {S:Ps} {C:Chip} {m:List Fnd}
theorem FR.ver(h:FR A M S C m){b i:Nat}{v:Ver}(hv:verAt S b i=some v):∃ x,(((b:Int),(i:Int)),(⟨v.t.k,v.t.p,v.t.s,v.t.e,x⟩:Pg))∈m∧BytesAt M x v.d∧x.one=true∧∀ c,inBlk x c→c∉A.av:=by
 obtain⟨q,hq,e1⟩:=h.hav b i v hv
 obtain⟨b',i',v',k1,k2,k3,k4,k5,k6⟩:=h.lnk q hq
 rw[e1] at k1
 injection k1 with k1 k1'
 have k1:b=b':=by omega
 have k1':i=i':=by omega
 subst k1 k1'
 rw[hv] at k2
 injection k2 with k2
 subst k2
 refine⟨q.2.d,?_,k4,k5,k6⟩
 have:q=(((b:Int),(i:Int)),(⟨v.t.k,v.t.p,v.t.s,v.t.e,q.2.d⟩:Pg)):=by
  obtain⟨q1,⟨q2,q3,q4,q5,q6⟩⟩:=q
  simp only at e1 k3
  obtain⟨rfl,rfl,rfl,rfl⟩:=k3
  rw[e1]
 rw[← this];exact hq
theorem look_live{N:Mem}{bo:Nat}{ol:List ((Int×Int)×Unit)}{S:Ps}(hg:N.get bo=some (.map (mG plA unA ol)))(hnd:(ol.map (·.1)).Nodup)(hk:∀ c,c∈ol.map (·.1)↔∃ b i:Nat,c=((b:Int),(i:Int))∧xLive S b i=true)(b i:Nat):
 eLk tb 156 (.map bo) (placeA (b:Int) (i:Int)) false N=some (.val (.bool (xLive S b i)),N):=by
 cases hl:xLive S b i with
 | true=>
   obtain⟨q,hq,e⟩:=List.mem_map.1 ((hk ((b:Int),(i:Int))).2 ⟨b,i,rfl,hl⟩)
   obtain⟨q1,q2⟩:=q
   simp only at e
   subst e
   exact lookG_yes mt_out hg hnd hq false
 | false=>
   refine lookG_no mt_out hg (k:=((b:Int),(i:Int))) (fun q hq e=>?_) false
   obtain⟨b',i',e1,e2⟩:=(hk q.1).1 (List.mem_map.2 ⟨q,hq,rfl⟩)
   rw[e] at e1
   injection e1 with e1 e1'
   have:b=b':=by omega
   have:i=i':=by omega
   subst b' i'
   rw[hl] at e2;cases e2
theorem j_clear(h:FR A M S C m){b:Nat}(h0:ClrPre S b):
 CallA tb.P 90 [.ptr A.f 0,i64 (b:Int)] M fun y N=>∃ C' m',y=i64 (clearX S b).2∧FR A N (clearX S b).1 C' m'∧Keep M N A.wr:=by
 have hg:=h.geo
 have hseq:=h.inv.seq
 have hop0:=h0.ops
 refine F90_ok ?_
 unfold F90
 simp only[i64,zZi]
 refine (j_live h).mono ?_
 rintro y M3 ⟨bo,ol,rfl,hbo,hgo,hnd,hkeys,hk3⟩
 have hbo3:bo<M3.next:=hk3.wf _ _ hgo
 have hMle:M.next≤M3.next:=hk3.nxt
 have hX:=h.aside (T:=[M3.next]) (fun c hc=>by rw[List.mem_singleton] at hc;omega)
 have hwlt:∀ c∈A.wr,c<M.next:=h.lt
 generalize hA':({ A with ext:=[M3.next]++A.ext }:Adr)=A' at*
 have eA:A'.f=A.f∧A'.p=A.p∧A'.wr=A.wr∧A'.mf=A.mf∧M3.next∈A'.ext∧∀ {N:Mem} {S:Ps} {C:Chip} {m:List Fnd},FR A' N S C m→FR A N S C m:=by
  subst hA'
  exact⟨rfl,rfl,rfl,rfl,by simp,fun h=>h.back⟩
 obtain⟨eAf,eAp,eAw,eAm,eAx,eAb⟩:=eA
 clear hA'
 have h3:=hX.post hk3
 refine lZi fun M4 hM4=>?_
 have e4:M4=M3.new (.cells [i64 0,i64 0] true):=hM4
 have k4:Keep M3 M4 []:=by rw[e4];exact Keep.new hk3.wf _
 have g4:M4.get M3.next=some (.cells [i64 0,i64 0] true):=by rw[e4];exact get_new _ _
 have n4:M4.next=M3.next+1:=by rw[e4];rfl
 clear hM4 e4
 refine bZi (place_stE (b:Int) 0 g4 rfl) ?_
 have k5:Keep M3 (M4.put M3.next (.cells [i64 (b:Int),i64 0] true)) []:=kZn k4 (Nat.le_refl _) (by omega) _
 generalize hM5:M4.put M3.next (.cells [i64 (b:Int),i64 0] true)=M5 at*
 have g5:M5.get M3.next=some (.cells [i64 (b:Int),i64 0] true):=by rw[← hM5,Mem.get_put,if_pos rfl]
 clear hM5
 refine⟨fun to z n N=>∃ (i:Nat) (w:Int) (S1:Ps) (C1:Chip) (m1:List Fnd),z=i∧n=nG S-i∧i≤nG S∧Clr S b i to S1∧FR A' N S1 C1 m1∧Keep M N A.wr∧clrL b (xLive S b) (nG S-i) i to S1=clearX S b∧N.get M3.next=some (.cells [i64 (b:Int),i64 w] true)∧N.get bo=some (.map (mG plA unA ol)),
  ⟨_,0,0,S,C,m,rfl,rfl,Nat.zero_le _,⟨h.inv,Same.refl S,Env.refl S,rfl,by omega,fun _ h=>h,h0.lost,rfl,fun _=>rfl,fun _ _=>rfl,fun j hj=>by omega,fun _ _=>rfl,.inl ⟨by omega,rfl,rfl⟩⟩,h3.post k5,(hk3.trans0 k5).mono (by simp),rfl,g5,k5.get hk3.wf hgo (by simp)⟩,?_⟩
 rintro _ to z n N ⟨i,w,S1,C1,m1,rfl,rfl,hi,hclr,hN,hkN,hres,gN,goN⟩
 have hnb:=hclr.env.nB
 have hng:=hclr.env.nG
 have hops1:=hclr.ops
 have hnb3:M3.next<N.next:=hN.wf _ _ gN
 have h3wr:M3.next∉A.wr:=fun hm=>by have:=hwlt _ hm;omega
 have howr:bo∉A.wr:=fun hm=>by have:=hwlt _ hm;omega
 have hwlt':∀ c∈A.wr,c≠M3.next:=fun c hc e=>h3wr (by rw[← e];exact hc)
 refine bZi (sZs (st_cell ty3 rfl rfl gN (by simp))) ?_
 have kp:Keep N (N.put M3.next (.cells ([i64 (b:Int),i64 w].set 1 (.val (.int .i64 (i:Int)))) true)) [M3.next]:=Keep.put hN.wf hnb3 _
 have hP:=hN.keepX kp fun c hc=>by
  rw[List.mem_singleton] at hc
  subst hc
  exact⟨eAx,by rw[eAw];exact h3wr⟩
 have hkP:Keep M (N.put M3.next (.cells ([i64 (b:Int),i64 w].set 1 (.val (.int .i64 (i:Int)))) true)) A.wr:=hkN.trans kp (fun _ h _=>h) (fun c hc hlt=>by rw[List.mem_singleton] at hc;omega)
 have gP:(N.put M3.next (.cells ([i64 (b:Int),i64 w].set 1 (.val (.int .i64 (i:Int)))) true)).get M3.next=some (.cells [i64 (b:Int),i64 (i:Int)] true):=by rw[Mem.get_put,if_pos rfl];rfl
 have goP:(N.put M3.next (.cells ([i64 (b:Int),i64 w].set 1 (.val (.int .i64 (i:Int)))) true)).get bo=some (.map (mG plA unA ol)):=by rw[Mem.get_put,if_neg (by omega)];exact goN
 generalize N.put M3.next (.cells ([i64 (b:Int),i64 w].set 1 (.val (.int .i64 (i:Int)))) true)=P at*
 rw[← eAf]
 refine bZi eZn ?_
 refine bZi fa_g ?_
 rw[zZp]
 refine bZi hP.lpg ?_
 rw[zZi]
 have hS1seq:=hP.inv.seq
 have hb1:b<nB S1:=by rw[hnb];exact h0.hb
 refine cZi (fun e=>?_) (fun e=>?_)
 ·have e:i=nG S:=by
   have:(i:Int)=nG S1:=by simpa using e
   rw[hng] at this
   omega
  subst e
  rw[Nat.sub_self,clrL] at hres
  refine (j_erase hP hb1 (by omega)).mono ?_
  rintro y N2 ⟨C',m',rfl,hN2,kN2⟩
  rw[hres] at hN2 ⊢
  simp only[i64,zZi]
  rw[eAw] at kN2
  exact⟨C',m',by trivial,eAb hN2,hkP.trans kN2 (fun _ h _=>h) (fun _ h _=>h)⟩
 ·have hilt:i<nG S:=by
   have:¬ (i:Int)=nG S1:=by simpa using e
   rw[hng] at this
   omega
  have hsub:nG S-i=(nG S-(i+1))+1:=by omega
  refine bZi (lZs (place_ld gP).2.2) ⟨_,_,rfl,?_⟩
  refine bZi (look_live goP hnd hkeys b i) ?_
  rw[zZb]
  refine cZi (fun hl=>?_) (fun hl=>?_)
  ·have hl:xLive S b i=false:=by simpa using hl
   rw[hsub,clrL_skip hl] at hres
   refine⟨_,by omega,i+1,i,S1,C1,m1,iInc (by omega),rfl,hilt,?_,hP,hkP,hres,gP,goP⟩
   refine⟨hclr.inv,hclr.same,hclr.env,hclr.deg,by omega,hclr.lostM,hclr.lost,hclr.blk,hclr.wear,hclr.stay,fun j hj=>?_,fun j hj=>hclr.todo j (by omega),?_⟩
   ·by_cases ej:j=i
    ·subst ej;rw[hclr.todo j (Nat.le_refl _)];exact hl
    ·exact hclr.done j (by omega)
   ·have:cnt (i+1) (xLive S b)=cnt i (xLive S b):=by rw[cnt_succ,hl];simp
    rw[this];exact hclr.to
  ·have hl:xLive S b i=true:=by simpa using hl
   obtain⟨c,v,hv⟩:=xLive_iff.1 ((hclr.todo i (Nat.le_refl _)).trans hl)
   obtain⟨t,ht1,ht2,ht3,ht4,ht5,ht6,ht7⟩:=clr_to h0 hclr hilt hv
   rw[hsub,clrL_copy hl hv.1 ht1] at hres
   have htag:=hclr.inv.tag _ _ _ hv.1
   have hokm:=okL_may htag.1
   have hcl:=clr_copy h0 hclr hilt hv ht2 ht3 ht4 ht5 ht6 ht7
   have huse:xUsed S1 t<nG S1:=by rw[hng];have:=cnt_le i (xLive S b);omega
   refine lZi fun K55 hK55=>?_
   have key55:∀ (N2:Mem),FR A' N2 S1 C1 m1→Keep P N2 []→K55 (t:Int) N2:=by
    intro N2 hN2 kN2
    rw[hK55]
    clear hK55
    have gN2:=kN2.get hP.wf gP (by simp)
    obtain⟨x,hx1,hx2,hx3,hx4⟩:=hN2.ver hv.1
    have lp:∀ N',N'.get M3.next=some (.cells [i64 (b:Int),i64 (i:Int)] true)→eLd tb 85 (.ptr M3.next 0) N'=some (placeA (b:Int) (i:Int),N'):=fun N' hg=>lZs (place_ld hg).2.2
    have lm:∀ {N':Mem},FR A' N' S1 C1 m1→eLd tb 79 (.ptr A'.f 6) N'=some (.map A'.mf,N'):=fun hN'=>lZs (lZc ty79 rfl hN'.fl (o:=6) (v:= .map A'.mf) rfl)
    have lk:∀ {N':Mem},FR A' N' S1 C1 m1→eLk tb 79 (.map A'.mf) (placeA (b:Int) (i:Int)) false N'=some (pgA ⟨v.t.k,v.t.p,v.t.s,v.t.e,x⟩,N'):=fun {N'} hN'=>lookG_yes mt_found (show N'.get A'.mf=some (.map (mG plA pgA m1)) from hN'.mf) hN'.nd hx1 false
    refine bZi eZn ?_
    refine bZi fa_chip ?_
    rw[zZp]
    refine bZi eZn ?_
    refine bZi fa_mf ?_
    rw[zZp]
    refine bZi eZn ?_
    refine bZi fa_mf ?_
    rw[zZp]
    refine bZi hN2.ldp ?_
    refine bZi (lm hN2) ?_
    refine bZi (lp _ gN2) ⟨_,_,rfl,?_⟩
    refine bZi (lk hN2) ⟨_,_,_,_,_,rfl,?_⟩
    refine bZi (lm hN2) ?_
    refine bZi (lp _ gN2) ⟨_,_,rfl,?_⟩
    refine bZi (lk hN2) ⟨_,_,_,_,_,rfl,?_⟩
    refine (j_used hN2 ht2).mono ?_
    rintro y N3 ⟨rfl,kN3⟩
    have hN3:=hN2.post kN3
    have gN3:=kN3.get hN2.wf gN2 (by simp)
    simp only[i64,zZi]
    refine⟨bZi (lm hN3) rfl,bZi (lp _ gN3) rfl,bZi (lk hN3) rfl,bZi (lm hN3) rfl,bZi (lp _ gN3) rfl,bZi (lk hN3) rfl,?_⟩
    have hxN3:BytesAt N3 x v.d:=SlAt.keep0 hx2 hN2.wf kN3
    refine (j_program hN3 (t:=v.t) ht2 ht4 huse (by omega) (fun s hs=>okL_of (by omega)) htag.2.1 htag.2.2.2.1 htag.2.2.2.2 hxN3 hx3 hx4).mono ?_
    rintro y N4 ⟨C',m',rfl,hN4,kN4⟩
    simp only[i64,zZi]
    rw[eAw] at kN4
    have kk:Keep M N4 A.wr:=(hkP.trans (kN2.trans0 kN3) (fun _ h _=>h) (by simp)).trans kN4 (fun _ h _=>h) (fun _ h _=>h)
    rcases hcl with⟨hc1,_⟩|⟨hc1,hc2⟩
    ·rw[if_pos hc1] at hres
     refine cZi (fun _=>?_) (fun e2=>?_)
     ·rw[hres] at hN4 ⊢
      exact⟨C',m',rfl,eAb hN4,kk⟩
     ·have e2:(progX S1 t v.t v.d).2=0:=by simpa using e2
      exact absurd e2 hc1
    ·rw[if_neg (by rw[hc1];simp)] at hres
     refine cZi (fun e2=>?_) (fun _=>?_)
     ·have e2:¬ (progX S1 t v.t v.d).2=0:=by simpa using e2
      exact absurd hc1 e2
     ·refine⟨_,by omega,i+1,i,_,C',m',iInc (by omega),rfl,hilt,hc2,hN4,kk,hres,?_,?_⟩
      ·exact kN4.get hN3.wf gN3 h3wr
      ·exact kN4.get hN3.wf ((kN2.trans0 kN3).get hP.wf goP (by simp)) howr
   clear hK55
   refine lZi fun K48 hK48=>?_
   have key48:∀ (u:Bool) (N2:Mem),FR A' N2 S1 C1 m1→Keep P N2 []→(u=true→toX S1 to=xFresh S1)→(u=false→toX S1 to=to)→K48 u N2:=by
    intro u N2 hN2 kN2 hu1 hu2
    rw[hK48]
    clear hK48
    refine cZi (fun e=>?_) (fun e=>?_)
    ·have hfr:xFresh S1=(t:Int):=(hu1 e).symm.trans ht1
     refine (j_fresh hN2).mono ?_
     rintro y N3 ⟨rfl,kN3⟩
     refine⟨_,_,rfl,?_⟩
     rw[hfr,decide_eq_true (by omega:(t:Int)≥0)]
     simp only[Bool.not_true,cZf]
     exact key55 _ (hN2.post kN3) (kN2.trans0 kN3)
    ·have:to=(t:Int):=(hu2 e).symm.trans ht1
     rw[this]
     exact key55 _ hN2 kN2
   clear hK48
   have hto:=hclr.to
   refine cZi (fun e=>⟨trivial,key48 _ _ hP (Keep.refl hP.wf) (fun _=>?_) (by simp)⟩) (fun e=>?_)
   ·unfold toX
    rw[if_pos (of_decide_eq_true e)]
   have e:=of_decide_eq_false e
   obtain⟨u,hu⟩:∃ u:Nat,to=u:=⟨to.toNat,by omega⟩
   subst hu
   have hub:u<nB S1:=by
    rcases hto with⟨h1,_⟩|⟨_,h1,_⟩
    ·omega
    ·omega
   have htx:toX S1 (u:Int)=if (xLost S1 u||xUsed S1 u==nG S1)=true then xFresh S1 else (u:Int):=by
    unfold toX
    rw[if_neg (by omega),Int.toNat_natCast]
   refine (j_bad hP hub).mono ?_
   rintro y N2 ⟨rfl,kN2⟩
   rw[zZb]
   have hN2:=hP.post kN2
   refine cZi (fun e2=>⟨trivial,key48 _ _ hN2 kN2 (fun _=>by rw[htx,e2];rfl) (by simp)⟩) (fun e2=>?_)
   refine bZi eZn ?_
   refine bZi fa_chip ?_
   rw[zZp]
   refine bZi eZn ?_
   refine bZi fa_g ?_
   rw[zZp]
   refine bZi hN2.ldp ?_
   refine bZi hN2.lpg ?_
   rw[zZi]
   refine (j_used hN2 hub).mono ?_
   rintro y N3 ⟨rfl,kN3⟩
   simp only[i64,zZi]
   have hN3:=hN2.post kN3
   refine⟨bZi hN3.lpg rfl,key48 _ _ hN3 (kN2.trans0 kN3) (fun e3=>?_) (fun e3=>?_)⟩
   ·rw[htx,e2,Bool.false_or,if_pos]
    have e3:(xUsed S1 u:Int)=nG S1:=by simpa using e3
    rw[beq_iff_eq];omega
   ·rw[htx,e2,Bool.false_or,if_neg]
    have e3:¬ (xUsed S1 u:Int)=nG S1:=by simpa using e3
    rw[beq_iff_eq];omega
end
section
variable {A:Adr} {M:Mem} {S:Ps} {C:Chip} {m:List Fnd}
theorem FR.wr_bnd(h:FR A M S C m)(ho:S.ops≤1000000000)(b:Nat)(hb:b<nB S):0≤xWear S b∧xWear S b≤1000000000:=by
 obtain⟨B,X,e1,e2,_⟩:=h.block hb
 have:=h.inv.cnt b X e2
 unfold xWear
 rw[e2]
 simp only
 omega
theorem levL_step(k:Nat)(S:Ps):levL (k+1) S=if spreadX S>S.g.tr then (if (clearX S (best1 (fun a b=>decide (a<b)) (xWear S) (xGood S) (nB S)).toNat).2≠0 then clearX S (best1 (fun a b=>decide (a<b)) (xWear S) (xGood S) (nB S)).toNat else levL k (clearX S (best1 (fun a b=>decide (a<b)) (xWear S) (xGood S) (nB S)).toNat).1) else (S,0):=rfl
theorem j_level(h:FR A M S C m)(h0:Pre S (nB S))(ho:S.ops+1000≤1000000000):
 CallA tb.P 55 [.ptr A.f 0] M fun y N=>∃ C' m',y=i64 (levelX S).2∧FR A N (levelX S).1 C' m'∧Keep M N A.wr:=by
 have hg:=h.geo
 refine F55_ok ?_
 unfold F55
 refine bZi eZn ?_
 refine bZi fa_g ?_
 rw[zZp]
 refine bZi h.lbl ?_
 rw[zZi]
 refine lZi fun K33 hK33=>?_
 have key33:∀ (N:Mem) (S1:Ps) (C1:Chip) (m1:List Fnd),FR A N S1 C1 m1→Keep M N A.wr→levelX S=(S1,0)→K33 N:=by
  intro N S1 C1 m1 h1 h2 h3
  rw[hK33,h3]
  exact⟨C1,m1,rfl,h1,h2⟩
 clear hK33
 refine⟨fun z n N=>∃ (k:Nat) (S1:Ps) (C1:Chip) (m1:List Fnd),z=k∧n=nB S-k∧k≤nB S∧Pre S1 (nB S-k)∧Env S S1∧FR A N S1 C1 m1∧Keep M N A.wr∧levL (nB S-k) S1=levelX S∧S1.ops≤S.ops+9*k,
  ⟨_,0,S,C,m,rfl,rfl,Nat.zero_le _,h0,Env.refl S,h,Keep.refl h.wf,rfl,by omega⟩,?_⟩
 rintro _ z n N ⟨k,S1,C1,m1,rfl,rfl,hk,hpre,henv,hN,hkN,hres,hops⟩
 have hnb:=henv.nB
 refine cZi (fun e=>?_) (fun e=>?_)
 ·have hlt:k<nB S:=Int.ofNat_lt.1 (of_decide_eq_true e)
  have hsub:nB S-k=(nB S-(k+1))+1:=by omega
  rw[hsub,levL_step] at hres
  refine (j_wears hN).mono ?_
  rintro y M13 ⟨hy,k13,fy⟩
  have h13:=hN.post k13
  refine (j_these h13 (is:=xGood S1) (ask_fn fn83 fun N' b hb _ hN'=>j_good hN' hb)).mono ?_
  rintro x M15 ⟨hx,k15,fx⟩
  have h15:=h13.post k15
  have hy15:=(hy.keep0 k13.wf k15).at
  refine bZi eZn ?_
  refine bZi fa_g ?_
  rw[zZp]
  refine bZi h15.ltr ?_
  rw[zZi]
  refine (j_due h15 (h15.wr_bnd (by omega)) hy15 hx.at S1.g.tr).mono ?_
  rintro r M23 ⟨rfl,rfl⟩
  rw[zZb]
  refine cZi (fun e2=>?_) (fun e2=>?_)
  ·have e2:¬ spreadX S1>S1.g.tr:=by simpa using e2
   rw[if_neg e2] at hres
   exact key33 _ S1 C1 m1 h15 (hkN.trans (k13.trans0 k15) (fun _ h _=>h) (by simp)) hres.symm
  ·have e2:spreadX S1>S1.g.tr:=by simpa using e2
   rw[if_pos e2] at hres
   refine (w_least M23 y x _ _ hy15 hx.at (by rw[wsX_len,isX_len]) (by rw[wsX_len];omega)).mono ?_
   rintro r M26 ⟨rfl,rfl⟩
   rw[wsX_len,bst_best _ S1 _ _ _ (Nat.le_refl _)]
   simp only[i64,zZi]
   have hm:=mayG_iff.1 hpre.inv.may
   have hp0:0≤best1 (fun a b=>decide (a<b)) (xWear S1) (xGood S1) (nB S1):=by
    by_cases hn:best1 (fun a b=>decide (a<b)) (xWear S1) (xGood S1) (nB S1)<0
    ·unfold spreadX at e2
     simp only[hn,if_true] at e2
     omega
    ·omega
   obtain⟨hp1,hp2⟩:=best1_is hp0
   unfold xGood at hp2
   simp only[Bool.not_eq_true'] at hp2
   obtain⟨b,hb⟩:∃ b:Nat,best1 (fun a b=>decide (a<b)) (xWear S1) (xGood S1) (nB S1)=b:=⟨_,(Int.toNat_of_nonneg hp0).symm⟩
   have hbe:best1 (fun a b=>decide (a<b)) (xWear S1) (fun b=> !xLost S1 b) (nB S1)=b:=hb
   rw[hb] at hres hp1 ⊢
   rw[hbe] at hp2
   rw[Int.toNat_natCast] at hres hp2
   have hpo:=hpre.ops
   have hcp:ClrPre S1 b:=⟨hpre.inv,by omega,hp2,hpre.lost,hpre.phi,by omega⟩
   have hcq:=clear_ok hcp
   refine (j_clear h15 hcp).mono ?_
   rintro r M29 ⟨C',m',rfl,h29,k29⟩
   simp only[i64,zZi]
   have kk:Keep M M29 A.wr:=(hkN.trans (k13.trans0 k15) (fun _ h _=>h) (by simp)).trans k29 (fun _ h _=>h) (fun _ h _=>h)
   refine cZi (fun e3=>?_) (fun e3=>?_)
   ·have e3:(clearX S1 b).2≠0:=by simpa using e3
    rw[if_pos e3] at hres
    rw[hres] at h29 ⊢
    exact⟨C',m',rfl,h29,kk⟩
   ·have e3:(clearX S1 b).2=0:=by simpa using e3
    rw[if_neg (by rw[e3];simp)] at hres
    have hco:=hcq.ops
    rcases hcq.code with⟨_,c2,c3,c4,_⟩|⟨c1,_⟩
    ·refine⟨_,by omega,k+1,_,C',m',iInc (by omega),rfl,hlt,⟨hcq.inv,by rw[hcq.env.g];exact c3,by rw[hcq.env.g];have:=hpre.phi;omega,?_⟩,henv.trans hcq.env,h29,kk,hres,?_⟩
     ·have:=h15.geo;omega
     ·have:=h15.geo;omega
    ·rw[e3] at c1;cases c1
 ·have hge:¬ (k:Int)<nB S:=of_decide_eq_false e
  have:k=nB S:=by omega
  subst this
  rw[Nat.sub_self] at hres
  exact key33 _ S1 C1 m1 hN hkN hres.symm
theorem j_collect(h:FR A M S C m)(h0:Pre S (nB S+1))(hno:∀ b,b<nB S→xOpen S b=false)(hf:(freeN S:Int)≤target S)(ho:S.ops+2000≤1000000000):
 CallA tb.P 151 [.ptr A.f 0] M fun y N=>∃ C' m',y=i64 (collectX S).2∧FR A N (collectX S).1 C' m'∧Keep M N A.wr:=by
 have hg:=h.geo
 have hop0:=h0.ops
 obtain⟨v1,v2,v3,v4⟩:=victim_ok (S:=S) ⟨h0.inv,h0.lost,h0.phi,by omega⟩ hno hf
 have hres:collectX S=if (clearX S (victim S).toNat).2≠0 then clearX S (victim S).toNat else levelX (clearX S (victim S).toNat).1:=by
  unfold collectX
  rw[if_neg (by omega),if_neg (by omega)]
 obtain⟨b,hb⟩:∃ b:Nat,victim S=b:=⟨_,(Int.toNat_of_nonneg v1).symm⟩
 rw[hb,Int.toNat_natCast] at hres v3 v4
 rw[hb] at v2
 refine F151_ok ?_
 unfold F151
 refine lZi fun M1 hM1=>?_
 have e1:M1=M.new (.cells [.ptr A.f 0] true):=hM1
 have k1:Keep M M1 []:=by rw[e1];exact Keep.new h.wf _
 have g1:M1.get M.next=some (.cells [.ptr A.f 0] true):=by rw[e1];exact get_new _ _
 clear hM1 e1
 have h1:=h.post k1
 have lq:∀ N,N.get M.next=some (.cells [.ptr A.f 0] true)→eLd tb 30 (.ptr M.next 0) N=some (.ptr A.f 0,N):=fun N hg=>lZs (lZc ty30 rfl hg rfl)
 refine bZi (lq _ g1) ?_
 refine (j_lives h1).mono ?_
 rintro y M4 ⟨hy,k4,fy⟩
 have h4:=h1.post k4
 have g4:=k4.get k1.wf g1 (by simp)
 refine bZi (lq _ g4) ?_
 refine bZi (lq _ g4) ?_
 refine (j_wears h4).mono ?_
 rintro x M8 ⟨hx,k8,fx⟩
 have h8:=h4.post k8
 have g8:=k8.get k4.wf g4 (by simp)
 refine⟨bZi (lq _ g8) rfl,?_⟩
 refine (j_these h8 (is:=xFull S) (ask_fn (a:=[]) (cs:=[.ptr M.next 0]) fn173 fun N' b hb hk hN'=>j_full hN' (hk.get h8.wf g8 (by simp)) hb)).mono ?_
 rintro z M11 ⟨hz,k11,fz⟩
 have h11:=h8.post k11
 have g11:=k11.get k8.wf g8 (by simp)
 have hy11:VsAt M11 y ((lvI (xLives S) (nB S)).map i64):=SlAt.keep0 (SlAt.keep0 hy k4.wf k8) k8.wf k11
 refine (v_pick M11 (by omega) hy11 (hx.keep0 k8.wf k11).at hz.at).mono ?_
 rintro r M13 ⟨rfl,rfl⟩
 have hvic:pick1 (xLives S) (xWear S) (xFull S) (nB S)=b:=hb
 rw[hvic]
 simp only[i64,zZi]
 have K13:Keep M M13 []:=((k1.trans0 k4).trans0 k8).trans0 k11
 refine lZi fun K28 hK28=>?_
 have key28:K28 false:=by
  rw[hK28]
  refine cZi (fun e=>by cases e) (fun _=>?_)
  refine bZi (lq _ g11) ?_
  have hcp:ClrPre S b:=⟨h0.inv,by omega,by unfold xFull xGood at v3;simp only[Bool.and_eq_true,Bool.not_eq_true'] at v3;exact v3.1,h0.lost,h0.phi,by omega⟩
  have hcq:=clear_ok hcp
  refine (j_clear h11 hcp).mono ?_
  rintro r M31 ⟨C',m',rfl,h31,k31⟩
  simp only[i64,zZi]
  have g31:=k31.get h11.wf g11 (fun hm=>by have:=h.lt _ hm;omega)
  have kk:Keep M M31 A.wr:=(K13.mono (S':=A.wr) (by simp)).trans k31 (fun _ h _=>h) (fun _ h _=>h)
  refine cZi (fun e3=>?_) (fun e3=>?_)
  ·have e3:(clearX S b).2≠0:=by simpa using e3
   rw[if_pos e3] at hres
   rw[hres]
   exact⟨C',m',rfl,h31,kk⟩
  ·have e3:(clearX S b).2=0:=by simpa using e3
   rw[if_neg (by rw[e3];simp)] at hres
   rw[hres]
   refine bZi (lq _ g31) ?_
   have hco:=hcq.ops
   rcases hcq.code with⟨_,c2,c3,c4,_⟩|⟨c1,_⟩
   ·refine (j_level h31 ⟨hcq.inv,by rw[hcq.env.g];exact c3,by rw[hcq.env.g];have:=h0.phi;omega,by rw[hcq.env.nB];omega⟩ (by omega)).mono ?_
    rintro r M35 ⟨C2,m2,rfl,h35,k35⟩
    simp only[i64,zZi]
    exact⟨C2,m2,by trivial,h35,kk.trans k35 (fun _ h _=>h) (fun _ h _=>h)⟩
   ·rw[e3] at c1;cases c1
 clear hK28
 refine cZi (fun e=>?_) (fun e=>?_)
 ·have:=of_decide_eq_true e
  omega
 ·have hlv:(lvI (xLives S) (nB S)).getD b 0=xLives S b:=by
   unfold lvI
   have:b<nB S:=by omega
   simp[this]
  obtain⟨p,o,a1,a2,a3⟩:=int_one hy11 (i:=b) (by unfold lvI;simp;omega)
  rw[hlv] at a3
  refine bZi (a1 _) ?_
  rw[zZp]
  refine bZi a3 ?_
  rw[zZi]
  refine bZi (lq _ g11) ?_
  refine bZi eZn ?_
  refine bZi fa_g ?_
  rw[zZp]
  refine bZi h11.lpg ?_
  rw[zZi]
  have:((xLives S b:Int)==(nG S:Int))=false:=by
   cases e:((xLives S b:Int)==(nG S:Int)) with
   | false=>rfl
   | true=>rw[beq_iff_eq] at e;omega
  rw[this]
  exact key28
end
end Go.Proofs.YtlogedcoiogagaaGreat
