import Derived.Test.YtfkkmhadipfobaaGreatA37
import Derived.Test.YtfkkmhadipfobaaGreatB3
import Derived.Test.YtfkkmhadipfobaaGreatQA
set_option linter.unusedSimpArgs false
set_option linter.unusedVariables false
set_option linter.unusedSectionVars false
/- Bytes: what they are; small contracts. (Turned from the first seat by ren.py.) -/
set_option maxRecDepth 100000
namespace Go.Proofs.YtfkkmhadipfobaaGreat
open Go.AM

theorem ty23 : tb.ty.get 23 = some ⟨.sli 5, 1, 24, [.slice none 0 0], none⟩ := by kernel_rfl

theorem ty5 : tb.ty.get 5 = some ⟨.int .u8, 1, 1, [.int .u8 0], none⟩ := by kernel_rfl

def bv8 (b : BitVec 8) : AV := .val (.int .u8 (b.toNat : Int))

def bvs (l : List (BitVec 8)) : List AV := l.map bv8

@[simp] theorem bvs_length (l : List (BitVec 8)) : (bvs l).length = l.length := by simp [bvs]

theorem bvs_append (l m : List (BitVec 8)) : bvs (l ++ m) = bvs l ++ bvs m := by simp [bvs]

theorem bvs_one (l : List (BitVec 8)) : ∀ v ∈ bvs l, v.one = true := by
  intro v hv
  obtain ⟨b, _, rfl⟩ := List.mem_map.1 hv
  rfl

def BytesAt (M : Mem) (x : AV) (l : List (BitVec 8)) : Prop := SlAt 1 M x l.length (bvs l)

theorem BytesAt.len {M M' : Mem} {x : AV} {l : List (BitVec 8)} (h : BytesAt M x l) : evLenCap tb false 23 x M' = some l.length := SlAt.len h ty23 rfl

theorem BytesAt.at {M : Mem} {x : AV} {l : List (BitVec 8)} (h : BytesAt M x l) {i : Nat} (hi : i < l.length) :
    ∃ b o, evIndexAddr tb 23 x (.val (.int .i64 (i : Int))) = some (.ptr b o) ∧ evLoad tb 5 (.ptr b o) M = some (.val (.int .u8 (l[i].toNat : Int))) := by
  obtain ⟨b, o, h1, _, h2, _⟩ := SlAt.at h ty23 rfl ty5 rfl hi (k' := .i64)
  refine ⟨b, o, h1, ?_⟩
  unfold evLoad
  rw [ty5]
  have := h2 0 (by omega)
  simp only [TI.isAgg, cond_false]
  rw [Nat.add_zero, Nat.mul_one, Nat.add_zero] at this
  rw [this]
  simp [bvs, hi, bv8]

theorem iInc {i : Nat} (h : i < 9223372036854775807) : iAdd .i64 (i : Int) 1 = ((i + 1 : Nat) : Int) := by
  rw [iAdd, wrap_i64' (by omega) (by omega)]; rfl

theorem take_succ_eq {l m : List (BitVec 8)} {i : Nat} (hl : i < l.length) (hm : i < m.length) (h : l.take i = m.take i) (he : l[i] = m[i]) : l.take (i + 1) = m.take (i + 1) := by
  rw [List.take_succ_eq_append_getElem hl, List.take_succ_eq_append_getElem hm, h, he]

theorem same_bytes (M : Mem) (x y : AV) (l m : List (BitVec 8)) (hx : BytesAt M x l) (hy : BytesAt M y m) (hl : l.length ≤ 9223372036854775806) :
    CallA tb.P 19 [x, y] M fun v N => v = .val (.bool (decide (l = m))) ∧ N = M := by
  refine F19_ok ?_
  unfold F19
  refine bindO_i (eLen_some hx.len) ?_
  simp only [zI_int]
  refine bindO_i (eLen_some hy.len) ?_
  simp only [zI_int]
  refine condB_i (fun hne => ?_) (fun heq => ?_)
  · have : l ≠ m := fun h => by subst h; simp at hne
    simp [this]
  · have hlen : l.length = m.length := by simp at heq; omega
    refine ⟨fun z n N => ∃ i : Nat, z = i ∧ n = l.length - i ∧ i ≤ l.length ∧ N = M ∧ l.take i = m.take i, ⟨l.length, 0, rfl, rfl, Nat.zero_le _, rfl, by simp⟩, ?_⟩
    rintro _ z n N ⟨i, rfl, rfl, hi, rfl, htk⟩
    refine bindO_i (eLen_some hx.len) ?_
    simp only [zI_int]
    refine condB_i (fun hlt => ?_) (fun hge => ?_)
    · have hlt : i < l.length := by simpa using hlt
      have hlt' : i < m.length := by omega
      obtain ⟨b, o, hia, hld⟩ := hx.at hlt
      obtain ⟨b', o', hia', hld'⟩ := hy.at hlt'
      refine bindO_i (eIA_some hia) ?_
      refine bindO_i (eIA_some hia') ?_
      refine bindO_i (eLd_some hld) ?_
      simp only [zI_int]
      refine bindO_i (eLd_some hld') ?_
      simp only [zI_int]
      refine condB_i (fun hd => ?_) (fun hd => ?_)
      · have hne : l[i] ≠ m[i] := fun h => by rw [h] at hd; simp at hd
        have : l ≠ m := fun h => by subst h; exact hne rfl
        simp [this]
      · have he : l[i] = m[i] := by
          apply BitVec.eq_of_toNat_eq
          have : (l[i].toNat : Int) = m[i].toNat := by simpa using hd
          omega
        exact ⟨l.length - (i + 1), by omega, i + 1, iInc (by omega), rfl, hlt, by trivial, take_succ_eq hlt hlt' htk he⟩
    · have hge : i = l.length := by have : ¬ (i : Int) < l.length := by simpa using hge
                                    omega
      subst hge
      have : l = m := by
        rw [List.take_of_length_le (Nat.le_refl _), List.take_of_length_le (by omega)] at htk
        exact htk
      simp [this]

theorem ty3 : tb.ty.get 3 = some ⟨.int .i64, 1, 8, [.int .i64 0], none⟩ := by kernel_rfl

def i64 (z : Int) : AV := .val (.int .i64 z)

/-- Nothing yet, or what append alone has made. -/
def Gr (M : Mem) (x : AV) (l : List (BitVec 8)) : Prop := (x = .val (.slice none 0 0) ∧ l = []) ∨ ∃ b, Grown 1 M x l.length (bvs l) b

theorem Gr.at {M : Mem} {x : AV} {l : List (BitVec 8)} (h : Gr M x l) : BytesAt M x l := by
  rcases h with ⟨rfl, rfl⟩ | ⟨b, h⟩
  · exact SlAt.nil
  · exact h.at

theorem Gr.mono {M N : Mem} {x : AV} {l : List (BitVec 8)} (h : Gr M x l) (hk : ∀ c r, inBlk x c → M.get c = some r → N.get c = some r) : Gr N x l := by
  rcases h with h | ⟨b, h1, h2, h3, h4⟩
  · exact .inl h
  · exact .inr ⟨b, h1, h2, h3, hk b _ (by rw [h1]; exact ⟨by omega, rfl⟩) h4⟩

theorem Gr.append {M : Mem} {x y : AV} {l m : List (BitVec 8)} (hw : M.WF) (h : Gr M x l) (hy : BytesAt M y m) (hm : 0 < m.length) (hb : l.length + m.length ≤ 1000000) :
    ∃ x' N, evAppend tb 23 23 x y M = some (x', N) ∧ Gr N x' (l ++ m) ∧ N.WF ∧ N.next = M.next + 1 ∧ (∀ c r, ¬ inBlk x c → M.get c = some r → N.get c = some r) ∧ (∀ c, inBlk x' c → c = M.next) := by
  rcases h with ⟨rfl, rfl⟩ | ⟨b, hg⟩
  · obtain ⟨N, h1, rfl⟩ := append_nil (T := tb) (k := 1) ty23 rfl ty5 rfl hy hm ⟨by simp only; simp only [List.length_nil] at hb; omega, by simp only [List.length_nil] at hb; omega⟩
    refine ⟨_, _, h1, ?_, hw.new _, rfl, fun c r _ hc => ?_, fun c hc => hc.2.symm⟩
    · rw [List.nil_append]
      exact .inr ⟨M.next, rfl, hm, by simp, by rw [Mem.get_new, if_pos rfl]⟩
    · rw [Mem.get_new, if_neg (by have := hw c r hc; omega)]; exact hc
  · obtain ⟨N, h1, rfl⟩ := append_grown (T := tb) (k := 1) ty23 rfl ty5 rfl hg hy hm (bvs_one m) ⟨by simp only; omega, by omega⟩
    refine ⟨_, _, h1, ?_, (hw.kill _).new _, rfl, fun c r hn hc => ?_, fun c hc => hc.2.symm⟩
    · refine .inr ⟨M.next, by simp, by simp; omega, by simp, ?_⟩
      rw [Mem.get_new, if_pos (by rfl), bvs_append]
    · have hcb : c ≠ b := fun he => by
        subst he
        exact hn (by rw [hg.1]; exact ⟨by have := hg.2.1; omega, rfl⟩)
      rw [Mem.get_new, if_neg (by have := hw c r hc; simp; omega), Mem.get_kill, if_neg hcb]; exact hc

theorem bytes_one {M : Mem} {b : Nat} {v : BitVec 8} {rw' : Bool} (h : M.get b = some (.cells [bv8 v] rw')) : BytesAt M (.sl b 0 1 1 none) [v] :=
  ⟨rfl, .inr ⟨b, 0, 1, none, rfl, ⟨Nat.le_refl _, .inl rfl⟩, .inr ⟨_, _, h, Nat.le_refl _, rfl⟩⟩⟩

theorem BytesAt.slice {M : Mem} {x : AV} {l : List (BitVec 8)} (h : BytesAt M x l) {lo hi : Option AV} {a r : Nat}
    (hlo : (lo = none ∧ a = 0) ∨ lo = some (.val (.int .i64 (a : Int)))) (hhi : (hi = none ∧ r = l.length) ∨ hi = some (.val (.int .i64 (r : Int)))) (har : a ≤ r) (hrn : r ≤ l.length) :
    ∃ y, evSliceAt tb 23 x lo hi none = some y ∧ BytesAt M y ((l.take r).drop a) := by
  obtain ⟨y, h1, h2, _⟩ := SlAt.slice h ty23 rfl ty5 rfl (k1 := .i64) (k2 := .i64) hlo hhi har hrn
  refine ⟨y, h1, ?_⟩
  unfold BytesAt
  have e1 : ((l.take r).drop a).length = r - a := by simp; omega
  have e2 : bvs ((l.take r).drop a) = ((bvs l).drop (a * 1)).take ((r - a) * 1) := by
    unfold bvs
    rw [Nat.mul_one, Nat.mul_one, List.map_drop, List.map_take, List.drop_take]
  rw [e1, e2]; exact h2

theorem getD_get {l : List (BitVec 8)} {i : Nat} (h : i < l.length) : l.getD i 0#8 = l[i] := by
  rw [List.getD_eq_getElem?_getD, List.getElem?_eq_getElem h]; rfl

/-- A slice has become another one by what was appended; whatever else there was stays. -/
structure GrowTo (M N : Mem) (x x' : AV) : Prop where
  wf : N.WF
  nxt : M.next ≤ N.next
  old : ∀ c, c < M.next → ¬ inBlk x c → N.get c = M.get c
  blk : ∀ c, inBlk x' c → M.next ≤ c ∨ inBlk x c

theorem GrowTo.refl {M : Mem} (hw : M.WF) (x : AV) : GrowTo M M x x := ⟨hw, Nat.le_refl _, fun _ _ _ => rfl, fun _ h => .inr h⟩

theorem GrowTo.trans {M N P : Mem} {x x' x'' : AV} (h : GrowTo M N x x') (k : GrowTo N P x' x'') : GrowTo M P x x'' :=
  ⟨k.wf, Nat.le_trans h.nxt k.nxt, fun c hc hx => by
    have h1 : ¬ inBlk x' c := fun h2 => by
      rcases h.blk c h2 with h3 | h3
      · omega
      · exact hx h3
    rw [k.old c (Nat.lt_of_lt_of_le hc h.nxt) h1, h.old c hc hx], fun c hc => by
    rcases k.blk c hc with h1 | h1
    · exact .inl (Nat.le_trans h.nxt h1)
    · exact h.blk c h1⟩

theorem GrowTo.pre {M N P : Mem} {x x' : AV} (h : Keep M N []) (k : GrowTo N P x x') : GrowTo M P x x' :=
  ⟨k.wf, Nat.le_trans h.nxt k.nxt, fun c hc hx => by rw [k.old c (Nat.lt_of_lt_of_le hc h.nxt) hx, h.old c hc (by simp)], fun c hc => (k.blk c hc).imp (Nat.le_trans h.nxt) id⟩

theorem GrowTo.post {M N P : Mem} {x x' : AV} (h : GrowTo M N x x') (k : Keep N P []) : GrowTo M P x x' :=
  ⟨k.wf, Nat.le_trans h.nxt k.nxt, fun c hc hx => by rw [k.old c (Nat.lt_of_lt_of_le hc h.nxt) (by simp), h.old c hc hx], h.blk⟩

/-- What lies elsewhere reads as it did. -/
theorem GrowTo.keep {M N : Mem} {x x' y : AV} {l : List (BitVec 8)} (h : GrowTo M N x x') (hw : M.WF) (hy : BytesAt M y l) (hd : ∀ c, inBlk y c → ¬ inBlk x c) : BytesAt N y l :=
  SlAt.mono hy fun c r hin hc => by rw [h.old c (hw c r hc) (hd c hin)]; exact hc

theorem Gr.grow {M : Mem} {x y : AV} {l m : List (BitVec 8)} (hw : M.WF) (h : Gr M x l) (hy : BytesAt M y m) (hm : 0 < m.length) (hb : l.length + m.length ≤ 1000000) :
    ∃ x' N, evAppend tb 23 23 x y M = some (x', N) ∧ Gr N x' (l ++ m) ∧ GrowTo M N x x' ∧ ∀ c, inBlk x' c → c = M.next := by
  rcases h with ⟨rfl, rfl⟩ | ⟨b, hg⟩
  · obtain ⟨N, h1, rfl⟩ := append_nil (T := tb) (k := 1) ty23 rfl ty5 rfl hy hm ⟨by simp only; simp only [List.length_nil] at hb; omega, by simp only [List.length_nil] at hb; omega⟩
    refine ⟨_, _, h1, ?_, ⟨hw.new _, Nat.le_succ _, fun c hc _ => ?_, fun c hc => .inl (by rw [← hc.2]; exact Nat.le_refl _)⟩, fun c hc => hc.2.symm⟩
    · rw [List.nil_append]
      exact .inr ⟨M.next, rfl, hm, by simp, by rw [Mem.get_new, if_pos rfl]⟩
    · rw [Mem.get_new, if_neg (by omega)]
  · obtain ⟨N, h1, rfl⟩ := append_grown (T := tb) (k := 1) ty23 rfl ty5 rfl hg hy hm (bvs_one m) ⟨by simp only; omega, by omega⟩
    refine ⟨_, _, h1, ?_, ⟨(hw.kill _).new _, Nat.le_succ _, fun c hc hn => ?_, fun c hc => .inl (by rw [← hc.2]; exact Nat.le_refl _)⟩, fun c hc => hc.2.symm⟩
    · refine .inr ⟨M.next, by simp, by simp; omega, by simp, ?_⟩
      rw [Mem.get_new, if_pos (by rfl), bvs_append]
    · have hcb : c ≠ b := fun he => by
        subst he
        exact hn (by rw [hg.1]; exact ⟨by have := hg.2.1; omega, rfl⟩)
      rw [Mem.get_new, if_neg (by simp; omega), Mem.get_kill, if_neg hcb]

/-- Bytes of the text are appended. -/
theorem Gr.lit {M : Mem} {x : AV} {l : List (BitVec 8)} (hw : M.WF) (h : Gr M x l) (m : List (BitVec 8)) (hm : 0 < m.length) (hb : l.length + m.length ≤ 1000000) :
    ∃ x' N, evAppend tb 23 23 x (.sl M.next 0 m.length m.length none) (M.new (.cells (bvs m) true)) = some (x', N) ∧ Gr N x' (l ++ m) ∧ GrowTo M N x x' := by
  have hs : BytesAt (M.new (.cells (bvs m) true)) (.sl M.next 0 m.length m.length none) m :=
    ⟨by simp, .inr ⟨M.next, 0, m.length, none, rfl, ⟨Nat.le_refl _, .inl rfl⟩, .inr ⟨_, _, by rw [Mem.get_new, if_pos rfl], by simp, by rw [List.drop_zero, Nat.mul_one, List.take_of_length_le (by simp)]⟩⟩⟩
  have hg : Gr (M.new (.cells (bvs m) true)) x l := h.mono fun c r _ hc => by rw [Mem.get_new, if_neg (by have := hw c r hc; omega)]; exact hc
  obtain ⟨x', N, h1, h2, h3, _⟩ := Gr.grow (hw.new _) hg hs hm hb
  exact ⟨x', N, h1, h2, h3.pre (Keep.new hw _)⟩

theorem eq_nil_sl (M : Mem) (b o n c : Nat) (ex : Option Nat) : eBin tb .eql 23 (.tmp 3) (.const (.slice none 0 0)) (.sl b o n c ex) (.val (.slice none 0 0)) M = some (.val (.bool false), M) := by
  refine eBin_some ?_
  show (eqRes .eql (addrEq tb 23 (.sl b o n c ex) (.val (.slice none 0 0)))) = _
  unfold addrEq
  rw [ty23]
  rfl

theorem t_clone (M : Mem) (hw : M.WF) (x : AV) (l : List (BitVec 8)) (hx : BytesAt M x l) (h0 : 0 < l.length) (hl : l.length ≤ 1000000) :
    CallA tb.P 25 [x] M fun y N => Gr N y l ∧ Keep M N [] ∧ ∀ c, inBlk y c → M.next ≤ c := by
  refine F25_ok ?_
  unfold F25
  rcases hx.2 with ⟨_, hn⟩ | ⟨b, o, cp, ex, rfl, _⟩
  · omega
  · refine bindO_i (eq_nil_sl _ _ _ _ _ _) ?_
    simp only [zB_bool]
    refine condB_i (fun h => by cases h) (fun _ => ?_)
    refine letP_i fun M3 hM3 => ?_
    subst hM3
    have hw3 := hw.new (.cells [] true)
    have hx3 : BytesAt (M.new (.cells [] true)) (.sl b o l.length cp ex) l := SlAt.keep0 hx hw (Keep.new hw _)
    have hap : evAppend tb 23 23 (.sl M.next 0 0 0 none) (.sl b o l.length cp ex) (M.new (.cells [] true)) = some (.sl (M.next + 1) 0 l.length l.length (some 1), (M.new (.cells [] true)).new (.cells (bvs l) true)) := by
      unfold evAppend isInt
      rw [ty23]
      simp only [ty5, SlAt.evLen hx3, SlAt.evFirst hx3, bvs_length, Nat.mul_one, AM.beq_self, cond_true, Nat.zero_add, ble_not (show ¬ l.length ≤ 0 by omega), cond_false]
      unfold evGrow roomy
      simp only [Nat.zero_add, ble_of (show (3 * l.length + 4096) * 1 ≤ 281474976710656 by omega), ble_of (show l.length ≤ 1152921504606846976 by omega), cond_true]
      rfl
    refine bindO_i hap ?_
    refine ⟨.inr ⟨M.next + 1, rfl, h0, by simp, by rw [Mem.get_new, if_pos (by rfl)]⟩, (Keep.new hw _).trans0 (Keep.new hw3 _), fun c hc => ?_⟩
    have := hc.2
    omega

theorem wrap_i64_u8 (b : BitVec 8) : IntKind.wrap .i64 (b.toNat : Int) = (b.toNat : Int) := by
  have := b.isLt
  exact wrap_i64' (by omega) (by omega)

theorem ne_u8 (b : BitVec 8) (n : Nat) (hn : n < 256) : ((b.toNat : Int) != (n : Int)) = decide (b ≠ BitVec.ofNat 8 n) := by
  rw [Bool.eq_iff_iff]
  simp only [bne_iff_ne, ne_eq, decide_eq_true_eq]
  refine not_congr ⟨fun h => BitVec.eq_of_toNat_eq ?_, fun h => by rw [h]; simp; omega⟩
  simp; omega

end Go.Proofs.YtfkkmhadipfobaaGreat

/- Sums, tags (turned from the first seat by ren.py). -/
set_option maxRecDepth 100000
namespace Go.Proofs.YtfkkmhadipfobaaGreat
open Go.AM

def bit (r : BitVec 32) : BitVec 32 := if r &&& 1#32 = 1#32 then (r >>> 1) ^^^ 3988292384#32 else r >>> 1

def bits : Nat → BitVec 32 → BitVec 32
  | 0, r => r
  | n + 1, r => bits n (bit r)

def reg (r : BitVec 32) (l : List (BitVec 8)) : BitVec 32 := l.foldl (fun r x => bits 8 (r ^^^ x.setWidth 32)) r

def more (s : BitVec 32) (l : List (BitVec 8)) : BitVec 32 := ~~~ (reg (~~~ s) l)

theorem reg_take (r : BitVec 32) (l : List (BitVec 8)) (i : Nat) (hi : i < l.length) : reg r (l.take (i + 1)) = bits 8 (reg r (l.take i) ^^^ l[i].setWidth 32) := by
  rw [List.take_succ_eq_append_getElem hi]
  unfold reg
  rw [List.foldl_append]
  rfl

theorem bit_t {r : BitVec 32} (h : r &&& 1#32 = 1#32) : bit r = (r >>> 1) ^^^ 3988292384#32 := by unfold bit; rw [if_pos h]

theorem bit_f {r : BitVec 32} (h : ¬ r &&& 1#32 = 1#32) : bit r = r >>> 1 := by unfold bit; rw [if_neg h]

theorem wrap_u8_u32 (b : BitVec 8) : IntKind.u32.wrap (b.toNat : Int) = ((b.setWidth 32).toNat : Int) := by
  rw [wrap_u32, BitVec.toNat_setWidth]
  have := b.isLt
  omega

theorem iXor_u32 (a b : BitVec 32) : iXor .u32 (a.toNat : Int) (b.toNat : Int) = ((a ^^^ b).toNat : Int) := by
  show IntKind.u32.wrap ((BitVec.ofInt 32 (a.toNat : Int) ^^^ BitVec.ofInt 32 (b.toNat : Int)).toNat : Int) = _
  rw [ofInt_bv, ofInt_bv, wrap_u32_bv]

theorem iXor_poly (a : BitVec 32) : iXor .u32 (a.toNat : Int) 3988292384 = ((a ^^^ 3988292384#32).toNat : Int) := iXor_u32 a 3988292384#32

theorem iAnd1_u32 (a : BitVec 32) : iAnd .u32 (a.toNat : Int) 1 = ((a &&& 1#32).toNat : Int) := by
  show IntKind.u32.wrap ((BitVec.ofInt 32 (a.toNat : Int) &&& BitVec.ofInt 32 ((1#32).toNat : Int)).toNat : Int) = _
  rw [ofInt_bv, ofInt_bv, wrap_u32_bv]

theorem iShr1_u32 (a : BitVec 32) : iShr .u32 (a.toNat : Int) 1 = ((a >>> 1).toNat : Int) := by
  show Int.fdiv (a.toNat : Int) 2 = _
  rw [Int.fdiv_eq_ediv_of_nonneg _ (by omega), BitVec.toNat_ushiftRight, Nat.shiftRight_eq_div_pow]
  omega

theorem eq1_u32 (a : BitVec 32) : ((a.toNat : Int) == 1) = decide (a = 1#32) := by
  rw [Bool.eq_iff_iff]
  simp only [beq_iff_eq, decide_eq_true_eq]
  constructor
  · intro h; exact BitVec.eq_of_toNat_eq (by simp; omega)
  · intro h; rw [h]; rfl

theorem crc_more (M : Mem) (s : BitVec 32) (x : AV) (l : List (BitVec 8)) (hx : BytesAt M x l) (hl : l.length ≤ 9223372036854775806) :
    CallA tb.P 135 [.val (.int .u32 s.toNat), x] M fun y N => y = .val (.int .u32 (more s l).toNat) ∧ N = M := by
  refine F135_ok ?_
  unfold F135
  simp only [zI_int]
  refine bindO_i (eUn_some (not_u32 _ s)) ?_
  simp only [ofV, zI_int]
  refine bindO_i (eLen_some hx.len) ?_
  simp only [zI_int]
  refine ⟨fun z k n N => ∃ i : Nat, z = ((reg (~~~ s) (l.take i)).toNat : Int) ∧ k = i ∧ n = l.length - i ∧ i ≤ l.length ∧ N = M, ⟨l.length, 0, rfl, rfl, rfl, Nat.zero_le _, rfl⟩, ?_⟩
  rintro _ z k n N ⟨i, rfl, rfl, rfl, hi, rfl⟩
  refine condB_i (fun hlt => ?_) (fun hge => ?_)
  · have hlt : i < l.length := by simpa using hlt
    obtain ⟨b, o, hia, hld⟩ := hx.at hlt
    refine bindO_i (eIA_some hia) ?_
    refine bindO_i (eLd_some hld) ?_
    simp only [zI_int, wrap_u8_u32, iXor_u32]
    refine ⟨fun z k n N' => ∃ (r : BitVec 32) (q : Nat), z = (r.toNat : Int) ∧ k = ((8 - q : Nat) : Int) ∧ q ≤ 8 ∧ n = q ∧ N' = N ∧ bits q r = reg (~~~ s) (l.take (i + 1)), ⟨8, _, 8, rfl, rfl, Nat.le_refl _, rfl, rfl, (reg_take _ l i hlt).symm⟩, ?_⟩
    rintro _ z k n N' ⟨r, q, rfl, rfl, hq, rfl, rfl, hr⟩
    refine condB_i (fun hlt' => ?_) (fun hge' => ?_)
    · have hn0 : 0 < n := by have : ((8 - n : Nat) : Int) < 8 := by simpa using hlt'
                             omega
      have hbits : bits (n - 1) (bit r) = reg (~~~ s) (l.take (i + 1)) := by
        rw [← hr, show n = (n - 1) + 1 by omega]; rfl
      simp only [letP_eq, iShr1_u32, iXor_poly, iAnd1_u32, eq1_u32, iInc (show 8 - n < 9223372036854775807 by omega)]
      refine condB_i (fun hb => ?_) (fun hb => ?_)
      · exact ⟨n - 1, by omega, _, n - 1, rfl, by rw [show 8 - (n - 1) = 8 - n + 1 by omega], by omega, rfl, by trivial, by rw [← bit_t (by simpa using hb)]; exact hbits⟩
      · exact ⟨n - 1, by omega, _, n - 1, rfl, by rw [show 8 - (n - 1) = 8 - n + 1 by omega], by omega, rfl, by trivial, by rw [← bit_f (by simpa using hb)]; exact hbits⟩
    · have hn0 : n = 0 := by have : ¬ ((8 - n : Nat) : Int) < 8 := by simpa using hge'
                             omega
      subst hn0
      refine ⟨l.length - (i + 1), by omega, i + 1, ?_, iInc (by omega), rfl, hlt, rfl⟩
      rw [← hr]; rfl
  · have hge : i = l.length := by have : ¬ (i : Int) < l.length := by simpa using hge
                                  omega
    subst hge
    refine bindO_i (eUn_some (not_u32 _ _)) ?_
    simp only [ofV, zI_int, List.take_length, more, and_self]

def Small (n : Nat) (z : BitVec 32) : Prop := z.toNat < 2 ^ n

theorem Small.shr {n : Nat} {z : BitVec 32} (h : Small (n + 1) z) : Small n (z >>> 1) := by
  unfold Small at h ⊢
  rw [BitVec.toNat_ushiftRight, Nat.shiftRight_eq_div_pow]
  have : 2 ^ (n + 1) = 2 * 2 ^ n := Nat.pow_succ'
  rw [this] at h
  generalize 2 ^ n = p at h ⊢
  omega

theorem crc_of (M : Mem) (x : AV) (l : List (BitVec 8)) (hx : BytesAt M x l) (hl : l.length ≤ 9223372036854775806) :
    CallA tb.P 110 [x] M fun y N => y = .val (.int .u32 (more 0#32 l).toNat) ∧ N = M := by
  refine F110_ok ((crc_more M 0#32 x l hx hl).mono ?_)
  rintro y N ⟨rfl, rfl⟩
  simp only [zI_int, and_self]

theorem ty64 : tb.ty.get 64 = some ⟨.st [(0, 1, false), (1, 1, false), (2, 1, false), (3, 1, false)], 4, 32, [.int .i64 0, .int .i64 0, .int .i64 0, .int .i64 0], some [3, 3, 3, 3]⟩ := by kernel_rfl

theorem t_in (M : Mem) (a b c : Int) : CallA tb.P 106 [i64 a, i64 b, i64 c] M fun y N => y = .val (.bool (decide (b ≤ a) && decide (a ≤ c))) ∧ N = M := by
  refine F106_ok ?_
  unfold F106
  simp only [i64, zI_int, letP_eq]
  refine condB_i (fun h => ?_) (fun h => ?_)
  · have h : b ≤ a := by simpa using h
    simp [h]
  · have h : ¬ b ≤ a := by simpa using h
    simp [h]

/-- May such a tag be? -/
def mayT (k p s e : Int) : Bool := decide (1 ≤ k ∧ k ≤ 3 ∧ 0 ≤ p ∧ p ≤ 65535 ∧ (k = 3 → p = 0) ∧ 0 ≤ s ∧ s ≤ 4294967295 ∧ 0 ≤ e ∧ e ≤ 16777215)

def tagA (k p s e : Int) : AV := .agg [i64 k, i64 p, i64 s, i64 e]

theorem tag_ld {M : Mem} {b : Nat} {k p s e : Int} (hg : M.get b = some (.cells [i64 k, i64 p, i64 s, i64 e] true)) :
    evLoad tb 3 (.ptr b 0) M = some (i64 k) ∧ evLoad tb 3 (.ptr b 1) M = some (i64 p) ∧ evLoad tb 3 (.ptr b 2) M = some (i64 s) ∧ evLoad tb 3 (.ptr b 3) M = some (i64 e) ∧ evLoad tb 64 (.ptr b 0) M = some (tagA k p s e) :=
  ⟨ld_cell ty3 rfl hg rfl, ld_cell ty3 rfl hg rfl, ld_cell ty3 rfl hg rfl, ld_cell ty3 rfl hg rfl, ld_agg (n := 4) ty64 rfl rfl hg (by simp)⟩

theorem t_may (M : Mem) (hw : M.WF) (k p s e : Int) : CallA tb.P 111 [tagA k p s e] M fun y N => y = .val (.bool (mayT k p s e)) ∧ Keep M N [] := by
  refine F111_ok ?_
  unfold F111
  refine ⟨k, p, s, e, rfl, ?_⟩
  simp only [letP_eq]
  have hg : (M.new (.cells [i64 k, i64 p, i64 s, i64 e] true)).get M.next = some (.cells [i64 k, i64 p, i64 s, i64 e] true) := by rw [Mem.get_new, if_pos rfl]
  obtain ⟨l0, l1, l2, l3, _⟩ := tag_ld hg
  have hK := Keep.new hw (.cells [i64 k, i64 p, i64 s, i64 e] true)
  refine bindO_i (eLd_some l0) ?_
  simp only [i64, zI_int]
  refine (t_in _ k 1 3).mono ?_
  rintro y N ⟨rfl, rfl⟩
  simp only [zB_bool]
  refine condB_i (fun h1 => ?_) (fun h1 => ⟨?_, hK⟩)
  rotate_left
  · have : mayT k p s e = false := by
      unfold mayT
      simp only [Bool.and_eq_false_iff, decide_eq_false_iff_not] at h1 ⊢
      omega
    rw [this]
  simp only [Bool.and_eq_true, decide_eq_true_eq] at h1
  refine bindO_i (eLd_some l1) ?_
  simp only [i64, zI_int]
  refine (t_in _ p 0 65535).mono ?_
  rintro y N ⟨rfl, rfl⟩
  simp only [zB_bool]
  refine condB_i (fun h2 => ?_) (fun h2 => ⟨?_, hK⟩)
  rotate_left
  · have : mayT k p s e = false := by
      unfold mayT
      simp only [Bool.and_eq_false_iff, decide_eq_false_iff_not] at h2 ⊢
      omega
    rw [this]
  simp only [Bool.and_eq_true, decide_eq_true_eq] at h2
  have tail : (k = 3 → p = 0) → bindO (eLd tb 3 (.ptr M.next 2) (M.new (.cells [i64 k, i64 p, i64 s, i64 e] true))) (fun y18 => zI .i64 y18.1 fun z19 => CallA tb.P 106 [(.val (.int .i64 z19)), (.val (.int .i64 0)), (.val (.int .i64 4294967295))] (M.new (.cells [i64 k, i64 p, i64 s, i64 e] true)) fun y20 M21 => zB y20 fun b22 =>
      condB (b22) (bindO (eLd tb 3 (.ptr M.next 3) M21) fun y23 => zI .i64 y23.1 fun z24 => CallA tb.P 106 [(.val (.int .i64 z24)), (.val (.int .i64 0)), (.val (.int .i64 16777215))] M21 fun y25 M26 => zB y25 fun b27 => AV.val (.bool b27) = .val (.bool (mayT k p s e)) ∧ Keep M M26 []) (AV.val (.bool false) = .val (.bool (mayT k p s e)) ∧ Keep M M21 [])) := by
    intro h3
    refine bindO_i (eLd_some l2) ?_
    simp only [i64, zI_int]
    refine (t_in _ s 0 4294967295).mono ?_
    rintro y N ⟨rfl, rfl⟩
    simp only [zB_bool]
    refine condB_i (fun h4 => ?_) (fun h4 => ⟨?_, hK⟩)
    · simp only [Bool.and_eq_true, decide_eq_true_eq] at h4
      refine bindO_i (eLd_some l3) ?_
      simp only [i64, zI_int]
      refine (t_in _ e 0 16777215).mono ?_
      rintro y N ⟨rfl, rfl⟩
      simp only [zB_bool]
      refine ⟨?_, hK⟩
      congr 2
      unfold mayT
      rw [Bool.eq_iff_iff]
      simp only [Bool.and_eq_true, decide_eq_true_eq]
      constructor
      · intro h; exact ⟨h1.1, h1.2, h2.1, h2.2, h3, h4.1, h4.2, h.1, h.2⟩
      · intro h; exact ⟨h.2.2.2.2.2.2.2.1, h.2.2.2.2.2.2.2.2⟩
    · have : mayT k p s e = false := by
        unfold mayT
        simp only [Bool.and_eq_false_iff, decide_eq_false_iff_not] at h4 ⊢
        omega
      rw [this]
  refine bindO_i (eLd_some l0) ?_
  simp only [i64, zI_int]
  refine condB_i (fun h3 => ?_) (fun h3 => ?_)
  · exact tail (fun h => by subst h; simp at h3)
  · refine bindO_i (eLd_some l1) ?_
    simp only [i64, zI_int]
    refine condB_i (fun h5 => ?_) (fun h5 => ⟨?_, hK⟩)
    · exact tail (fun _ => by simpa using h5)
    · have hk3 : k = 3 := by simpa using h3
      have hp0 : p ≠ 0 := by simpa using h5
      have : mayT k p s e = false := by
        unfold mayT
        simp only [decide_eq_false_iff_not]
        rintro ⟨_, _, _, _, h, _⟩
        exact hp0 (h hk3)
      rw [this]

def byteOf (n : Int) (i : Nat) : BitVec 8 := BitVec.ofInt 8 (n.fdiv (2 ^ (8 * i)))

/-- A number's bytes, the highest first. -/
def be (n : Int) : Nat → List (BitVec 8)
  | 0 => []
  | s + 1 => byteOf n s :: be n s

@[simp] theorem be_length (n : Int) : ∀ s, (be n s).length = s
  | 0 => rfl
  | s + 1 => by simp [be, be_length n s]

/-- A number of bytes, the highest first. -/
def val (l : List (BitVec 8)) : Nat := l.foldl (fun n b => n * 256 + b.toNat) 0

theorem val_take {l : List (BitVec 8)} {i : Nat} (h : i < l.length) : val (l.take (i + 1)) = val (l.take i) * 256 + l[i].toNat := by
  rw [List.take_succ_eq_append_getElem h]
  unfold val
  rw [List.foldl_append]
  rfl

theorem val_lt : ∀ (l : List (BitVec 8)) (i : Nat), i ≤ l.length → val (l.take i) < 256 ^ i
  | l, 0, _ => by simp [val]
  | l, i + 1, h => by
    rw [val_take (by omega)]
    have h1 := val_lt l i (by omega)
    have h2 := (l[i]'(by omega)).isLt
    have e : 256 ^ (i + 1) = 256 ^ i * 256 := Nat.pow_succ 256 i
    rw [e]
    have h3 : (val (l.take i) + 1) * 256 ≤ 256 ^ i * 256 := Nat.mul_le_mul_right 256 h1
    omega

theorem or_shl (a : Nat) (b : BitVec 8) (ha : a < 2 ^ 32) : iOr .i64 (iShl .i64 (a : Int) 8) (IntKind.wrap .i64 (b.toNat : Int)) = ((a * 256 + b.toNat : Nat) : Int) := by
  have hb := b.isLt
  have hp : (2 : Nat) ^ 32 = 4294967296 := by decide
  rw [hp] at ha
  have e1 : iShl .i64 (a : Int) 8 = ((a * 256 : Nat) : Int) := by
    show IntKind.i64.wrap ((a : Int) * 2 ^ (min (8 : Int).toNat IntKind.i64.bits)) = _
    have : (2 : Int) ^ (min (8 : Int).toNat IntKind.i64.bits) = 256 := by decide
    rw [this, wrap_i64' (by omega) (by omega)]; omega
  have e2 : IntKind.wrap .i64 (b.toNat : Int) = (b.toNat : Int) := wrap_i64' (by omega) (by omega)
  rw [e1, e2]
  show IntKind.i64.wrap ((BitVec.ofInt 64 ((a * 256 : Nat) : Int) ||| BitVec.ofInt 64 (b.toNat : Int)).toNat : Int) = _
  have e3 : (BitVec.ofInt 64 ((a * 256 : Nat) : Int) ||| BitVec.ofInt 64 (b.toNat : Int)).toNat = a * 256 + b.toNat := by
    rw [BitVec.toNat_or, BitVec.ofInt_natCast, BitVec.ofInt_natCast, BitVec.toNat_ofNat, BitVec.toNat_ofNat, Nat.mod_eq_of_lt (by omega), Nat.mod_eq_of_lt (by omega)]
    have : a * 256 = a <<< 8 := by rw [Nat.shiftLeft_eq]
    rw [this]
    exact (Nat.shiftLeft_add_eq_or_of_lt (by omega) a).symm
  rw [e3, wrap_i64' (by omega) (by omega)]

theorem val_small {l : List (BitVec 8)} (hl : l.length ≤ 4) {i : Nat} (hi : i ≤ l.length) : val (l.take i) < 4294967296 := by
  have h1 := val_lt l i hi
  have h2 : 256 ^ i ≤ 256 ^ 4 := Nat.pow_le_pow_right (by omega) (by omega)
  have h3 : (256 : Nat) ^ 4 = 4294967296 := by decide
  omega

theorem t_number (M : Mem) (x : AV) (l : List (BitVec 8)) (hx : BytesAt M x l) (hl : l.length ≤ 4) :
    CallA tb.P 109 [x] M fun y N => y = i64 (val l) ∧ N = M := by
  refine F109_ok ?_
  unfold F109
  refine bindO_i (eLen_some hx.len) ?_
  simp only [zI_int]
  refine ⟨fun z k q P => ∃ i : Nat, k = i ∧ q = l.length - i ∧ i ≤ l.length ∧ z = (val (l.take i) : Int) ∧ P = M, ⟨l.length, 0, rfl, rfl, Nat.zero_le _, rfl, rfl⟩, ?_⟩
  rintro _ z k q P ⟨i, rfl, rfl, hi, rfl, rfl⟩
  refine condB_i (fun hlt => ?_) (fun hge => ?_)
  · have hlt : i < l.length := by simpa using hlt
    obtain ⟨b, o, hia, hld⟩ := hx.at hlt
    refine bindO_i (eIA_some hia) ?_
    refine bindO_i (eLd_some hld) ?_
    simp only [zI_int]
    have hsm := val_small hl hi
    rw [or_shl _ _ (by omega), ← val_take hlt]
    exact ⟨l.length - (i + 1), by omega, i + 1, iInc (by omega), rfl, hlt, rfl, by trivial⟩
  · have hge : i = l.length := by have : ¬ (i : Int) < l.length := by simpa using hge
                                  omega
    subst hge
    rw [List.take_length]
    exact ⟨rfl, by trivial⟩

/-- What stands ahead of the sum. -/
def body (d : List (BitVec 8)) (k p s e : Int) : List (BitVec 8) := d ++ [74#8, BitVec.ofInt 8 k] ++ be p 2 ++ be s 4 ++ be e 3

/-- A raw page. -/
def laid (d : List (BitVec 8)) (k p s e : Int) : List (BitVec 8) := body d k p s e ++ be ((more 0#32 (body d k p s e)).toNat : Int) 4 ++ [0#8]

@[simp] theorem body_length (d : List (BitVec 8)) (k p s e : Int) : (body d k p s e).length = d.length + 11 := by simp [body]

@[simp] theorem laid_length (d : List (BitVec 8)) (k p s e : Int) : (laid d k p s e).length = d.length + 16 := by simp [laid]

/-- On the way: what was laid so far; the tag lies still. -/
structure Lying (M P : Mem) (row : Row) (u : AV) (l : List (BitVec 8)) : Prop where
  gr : Gr P u l
  wf : P.WF
  box : P.get M.next = some row
  fresh : ∀ c, inBlk u c → M.next < c
  keep : Keep M P []

theorem Lying.step {M P P' : Mem} {row : Row} {u u' : AV} {l l' : List (BitVec 8)} (h : Lying M P row u l) (hg : GrowTo P P' u u') (hl : Gr P' u' l') : Lying M P' row u' l' :=
  ⟨hl, hg.wf, by
    rw [hg.old M.next (h.wf _ _ h.box) (fun hc => by have := h.fresh _ hc; omega)]
    exact h.box, fun c hc => by
    rcases hg.blk c hc with h1 | h1
    · exact Nat.lt_of_lt_of_le (h.wf _ _ h.box) h1
    · exact h.fresh c h1, ⟨hg.wf, Nat.le_trans h.keep.nxt hg.nxt, fun c hc _ => by
    rw [hg.old c (Nat.lt_of_lt_of_le hc h.keep.nxt) (fun hi => by have := h.fresh c hi; omega)]
    exact h.keep.old c hc (by simp)⟩⟩

theorem wrap_i64_u32 (s : BitVec 32) : IntKind.wrap .i64 (s.toNat : Int) = (s.toNat : Int) := by
  have := s.isLt
  exact wrap_i64' (by omega) (by omega)

end Go.Proofs.YtfkkmhadipfobaaGreat

/- Raw pages as they are read (turned from the first seat by ren.py). -/
set_option maxRecDepth 100000
namespace Go.Proofs.YtfkkmhadipfobaaGreat
open Go.AM

theorem BytesAt.ld {M : Mem} {x : AV} {l : List (BitVec 8)} (h : BytesAt M x l) (i : Nat) (hi : i < l.length) :
    ∃ b o, evIndexAddr tb 23 x (.val (.int .i64 (i : Int))) = some (.ptr b o) ∧ inBlk x b ∧ evLoad tb 5 (.ptr b o) M = some (.val (.int .u8 (l[i].toNat : Int))) ∧
      ∀ N : Mem, N.get b = M.get b → evLoad tb 5 (.ptr b o) N = some (.val (.int .u8 (l[i].toNat : Int))) := by
  obtain ⟨b, o, h1, h0, h2, _⟩ := SlAt.at h ty23 rfl ty5 rfl hi (k' := .i64)
  have hld : ∀ N : Mem, N.get b = M.get b → evLoad tb 5 (.ptr b o) N = some (.val (.int .u8 (l[i].toNat : Int))) := fun N hN => by
    unfold evLoad
    rw [ty5]
    have := h2 0 (by omega)
    simp only [TI.isAgg, cond_false]
    rw [Nat.add_zero, Nat.mul_one, Nat.add_zero] at this
    unfold Mem.cellAt at this ⊢
    rw [hN, this]
    simp [bvs, hi, bv8]
  exact ⟨b, o, h1, h0, hld M rfl, hld⟩

theorem t_lit (M : Mem) (b : BitVec 8) : CallA tb.P 108 [.val (.int .u8 (b.toNat : Int))] M fun y N => y = .val (.bool (decide (b ≠ 255#8))) ∧ N = M := by
  refine F108_ok ?_
  unfold F108
  simp only [zI_int]
  refine ⟨?_, by trivial⟩
  congr 2
  rw [Bool.eq_iff_iff]
  simp only [bne_iff_ne, ne_eq, decide_eq_true_eq]
  refine not_congr ⟨fun h => BitVec.eq_of_toNat_eq ?_, fun h => by rw [h]; rfl⟩
  have : (255#8).toNat = 255 := rfl
  omega

theorem t_index (M : Mem) (x : AV) (l : List (BitVec 8)) (hx : BytesAt M x l) (hl : l.length ≤ 1000000) :
    CallA tb.P 134 [x, .fn 108 [] []] M fun y N => N = M ∧ ((∃ i : Nat, y = i64 i ∧ ∃ h : i < l.length, l[i] ≠ 255#8) ∨ (y = i64 (-1) ∧ ∀ b ∈ l, b = 255#8)) := by
  refine F134_ok ?_
  unfold F134
  refine bindO_i (eLen_some hx.len) ?_
  simp only [zI_int]
  refine ⟨fun z q P => ∃ i : Nat, z = i ∧ q = l.length - i ∧ i ≤ l.length ∧ P = M ∧ ∀ b ∈ l.take i, b = 255#8, ⟨l.length, 0, rfl, rfl, Nat.zero_le _, rfl, by simp⟩, ?_⟩
  rintro _ z q P ⟨i, rfl, rfl, hi, rfl, hall⟩
  refine condB_i (fun hlt => ?_) (fun hge => ?_)
  · have hlt : i < l.length := by simpa using hlt
    obtain ⟨b, o, hia, hld⟩ := hx.at hlt
    refine bindO_i (eIA_some hia) ?_
    refine bindO_i (eLd_some hld) ?_
    simp only [zI_int]
    refine eCall_i fn108 ?_
    refine (t_lit P l[i]).mono ?_
    rintro y N ⟨rfl, rfl⟩
    simp only [zB_bool]
    refine condB_i (fun h => ⟨by trivial, .inl ⟨i, rfl, hlt, by simpa using h⟩⟩) (fun h => ?_)
    have h : l[i] = 255#8 := by simpa using h
    refine ⟨l.length - (i + 1), by omega, i + 1, iInc (by omega), rfl, hlt, by trivial, fun b hb => ?_⟩
    rw [List.take_succ_eq_append_getElem hlt, List.mem_append] at hb
    rcases hb with hb | hb
    · exact hall b hb
    · simp only [List.mem_singleton] at hb
      rw [hb, h]
  · have hge : i = l.length := by have : ¬ (i : Int) < l.length := by simpa using hge
                                  omega
    subst hge
    rw [List.take_length] at hall
    exact ⟨rfl, .inr ⟨rfl, hall⟩⟩

/-- Are all bytes 255? -/
def allFF (l : List (BitVec 8)) : Bool := l.all fun b => decide (b = 255#8)

theorem t_contains (M : Mem) (x : AV) (l : List (BitVec 8)) (hx : BytesAt M x l) (hl : l.length ≤ 1000000) :
    CallA tb.P 107 [x, .fn 108 [] []] M fun y N => y = .val (.bool (!allFF l)) ∧ N = M := by
  refine F107_ok ?_
  unfold F107
  refine (t_index M x l hx hl).mono ?_
  rintro y N ⟨rfl, h⟩
  rcases h with ⟨i, rfl, hi, hne⟩ | ⟨rfl, hall⟩
  · simp only [i64, zI_int]
    have : allFF l = false := by
      unfold allFF
      rw [List.all_eq_false]
      exact ⟨l[i], List.getElem_mem _, by simpa using hne⟩
    simp [this]
  · simp only [i64, zI_int]
    have : allFF l = true := by
      unfold allFF
      rw [List.all_eq_true]
      exact fun b hb => by simpa using hall b hb
    simp [this]

/-- What stands in a raw page's last sixteen bytes. -/
def fK (r : List (BitVec 8)) : Int := ((r.getD 1 0#8).toNat : Int)

def fP (r : List (BitVec 8)) : Int := (val ((r.take 4).drop 2) : Int)

def fS (r : List (BitVec 8)) : Int := (val ((r.take 8).drop 4) : Int)

def fE (r : List (BitVec 8)) : Int := (val ((r.take 11).drop 8) : Int)

def lenOk (l : List (BitVec 8)) : Bool := decide (40 ≤ l.length ∧ l.length ≤ 80)

def valid (l : List (BitVec 8)) : Bool :=
  let r := l.drop (l.length - 16)
  decide (r.getD 0 0#8 = 74#8 ∧ r.getD 15 0#8 = 0#8 ∧ val ((r.take 15).drop 11) = (more 0#32 (l.take (l.length - 16 + 11))).toNat) && mayT (fK r) (fP r) (fS r) (fE r)

def state (l : List (BitVec 8)) : Nat := if lenOk l = true then (if allFF l = true then 0 else if valid l = true then 1 else 2) else 2

def ReadPost (M : Mem) (l : List (BitVec 8)) (y : AV) (N : Mem) : Prop :=
  Keep M N [] ∧ ((state l = 1 ∧ ∃ x, y = .tup [x, tagA (fK (l.drop (l.length - 16))) (fP (l.drop (l.length - 16))) (fS (l.drop (l.length - 16))) (fE (l.drop (l.length - 16))), i64 1] ∧ Gr N x (l.take (l.length - 16)) ∧ ∀ c, inBlk x c → M.next ≤ c) ∨
    (state l ≠ 1 ∧ y = .tup [.val (.slice none 0 0), tagA 0 0 0 0, i64 (state l)]))

theorem res3 {N : Mem} {b : Nat} {k p s e : Int} {x y : AV} (hg : N.get b = some (.cells [i64 k, i64 p, i64 s, i64 e] true)) : eRes tb [.v x, .c 64 (.ptr b 0), .v y] N = some (.tup [x, tagA k p s e, y]) := by
  obtain ⟨_, _, _, _, la⟩ := tag_ld hg
  unfold eRes resC resC resC resC
  simp only [la, Option.map_some]

theorem st_tag {N : Mem} {b : Nat} {cs : List AV} (k p s e : Int) (hg : N.get b = some (.cells cs true)) (hl : cs.length = 4) :
    evStore tb 64 (.ptr b 0) (tagA k p s e) N = some (N.put b (.cells [i64 k, i64 p, i64 s, i64 e] true)) :=
  st_all ty64 rfl hg hl (by intro v hv; simp only [List.mem_cons, List.not_mem_nil, or_false] at hv; rcases hv with rfl | rfl | rfl | rfl <;> rfl)

/-- A page that is none: what is answered. -/
theorem read_none {M N : Mem} {l : List (BitVec 8)} {k p s e : Int} (st : Nat) (hs : state l = st) (h1 : st ≠ 1) (hg : N.get M.next = some (.cells [i64 k, i64 p, i64 s, i64 e] true)) (hw : N.WF) (hk : Keep M N []) :
    bindO (eSt tb 64 (.ptr M.next 0) (.agg [(.val (.int .i64 0)), (.val (.int .i64 0)), (.val (.int .i64 0)), (.val (.int .i64 0))]) N) fun y7 => bindO (eRes tb [.v (.val (.slice none 0 0)), .c 64 (.ptr M.next 0), .v (.val (.int .i64 (st : Int)))] y7.2) fun x8 => ReadPost M l x8 y7.2 := by
  refine bindO_i (eSt_some (st_tag 0 0 0 0 hg rfl)) ?_
  refine bindO_i (res3 (k := 0) (p := 0) (s := 0) (e := 0) (by rw [Mem.get_put, if_pos rfl])) ?_
  refine ⟨⟨hw.put (hw _ _ hg) _, hk.nxt, fun c hc _ => ?_⟩, .inr ⟨by rw [hs]; exact h1, by rw [hs]; rfl⟩⟩
  rw [Mem.get_put, if_neg (by omega)]
  exact hk.old c hc (by simp)

theorem drop_take {α : Type} (l : List α) (i : Nat) : (l.take l.length).drop i = l.drop i := by rw [List.take_length]

theorem t_read (M : Mem) (hw : M.WF) (x : AV) (l : List (BitVec 8)) (hx : BytesAt M x l) (hl : l.length ≤ 1000000) : CallA tb.P 78 [x] M (ReadPost M l) := by
  refine F78_ok ?_
  unfold F78
  refine letP_i fun M1 hM1 => ?_
  have hM1' : M1 = M.new (.cells [i64 0, i64 0, i64 0, i64 0] true) := hM1
  clear hM1
  have hw1 : M1.WF := by rw [hM1']; exact hw.new _
  have hk1 : Keep M M1 [] := by rw [hM1']; exact Keep.new hw _
  have hg1 : M1.get M.next = some (.cells [i64 0, i64 0, i64 0, i64 0] true) := by rw [hM1', Mem.get_new, if_pos rfl]
  have hn1 : M.next < M1.next := hw1 _ _ hg1
  clear hM1'
  have hx1 : BytesAt M1 x l := SlAt.keep0 hx hw hk1
  refine bindO_i (eLen_some hx1.len) ?_
  have e16 : iSub .i64 (l.length : Int) 16 = (l.length : Int) - 16 := by rw [iSub, wrap_i64' (by omega) (by omega)]
  simp only [zI_int, e16]
  refine (t_in M1 ((l.length : Int) - 16) 24 64).mono ?_
  rintro y N ⟨rfl, rfl⟩
  simp only [zB_bool]
  refine condB_i (fun h => ?_) (fun h => ?_)
  · have hno : lenOk l = false := by
      unfold lenOk
      simp only [Bool.not_eq_true', Bool.and_eq_false_iff, decide_eq_false_iff_not] at h ⊢
      omega
    exact read_none 2 (by unfold state; rw [hno]; simp) (by omega) hg1 hw1 hk1
  have hlen : 40 ≤ l.length ∧ l.length ≤ 80 := by
    simp only [Bool.not_eq_false', Bool.and_eq_true, decide_eq_true_eq] at h
    omega
  have hlok : lenOk l = true := by unfold lenOk; simpa using hlen
  obtain ⟨n, hn⟩ : ∃ n, l.length = n + 16 := ⟨l.length - 16, by omega⟩
  have en : (l.length : Int) - 16 = (n : Int) := by omega
  have hn16 : l.length - 16 = n := by omega
  rw [en]
  refine (t_contains N x l hx1 hl).mono ?_
  rintro y N2 ⟨rfl, rfl⟩
  simp only [zB_bool, Bool.not_not]
  refine condB_i (fun h => read_none 0 (by unfold state; rw [hlok, h]; simp) (by omega) hg1 hw1 hk1) (fun hff => ?_)
  obtain ⟨y14, s14, b14⟩ := hx1.slice (lo := some (.val (.int .i64 (n : Int)))) (hi := none) (a := n) (r := l.length) (.inr rfl) (.inl ⟨rfl, rfl⟩) (by omega) (Nat.le_refl _)
  rw [drop_take] at b14
  refine bindO_i (eSl_some s14) ?_
  -- the last sixteen bytes
  generalize hr : l.drop n = r at b14
  have hrl : r.length = 16 := by rw [← hr]; simp; omega
  refine letP_i fun M3 hM3 => ?_
  have hget3 : ∀ c, M3.get c = N2.get c := fun c => by rw [hM3]; rfl
  have hw3 : M3.WF := by rw [hM3]; intro b q hb; have := hw1 b q hb; show b < N2.next + 1; omega
  have hn3 : M3.next = N2.next + 1 := by rw [hM3]
  have b3 : BytesAt M3 y14 r := SlAt.rows b14 (by rw [hM3])
  have hx3 : BytesAt M3 x l := SlAt.rows hx1 (by rw [hM3])
  have hg3 : M3.get M.next = some (.cells [i64 0, i64 0, i64 0, i64 0] true) := by rw [hget3]; exact hg1
  have hk13 : ∀ c, c < M.next → M3.get c = M.get c := fun c hc => by rw [hget3]; exact hk1.old c hc (by simp)
  clear hM3
  obtain ⟨p1, o1, ia1, in1, ld1, ld1'⟩ := b3.ld 1 (by omega)
  refine bindO_i (eIA_some ia1) ?_
  simp only [zP_ptr]
  obtain ⟨y2, s2, r2⟩ := b3.slice (lo := some (.val (.int .i64 ((2 : Nat) : Int)))) (hi := some (.val (.int .i64 ((4 : Nat) : Int)))) (a := 2) (r := 4) (.inr rfl) (.inr rfl) (by omega) (by omega)
  obtain ⟨y4, s4, r4⟩ := b3.slice (lo := some (.val (.int .i64 ((4 : Nat) : Int)))) (hi := some (.val (.int .i64 ((8 : Nat) : Int)))) (a := 4) (r := 8) (.inr rfl) (.inr rfl) (by omega) (by omega)
  obtain ⟨y8, s8, r8⟩ := b3.slice (lo := some (.val (.int .i64 ((8 : Nat) : Int)))) (hi := some (.val (.int .i64 ((11 : Nat) : Int)))) (a := 8) (r := 11) (.inr rfl) (.inr rfl) (by omega) (by omega)
  refine bindO_i (eSl_some s2) ?_
  refine bindO_i (eSl_some s4) ?_
  refine bindO_i (eSl_some s8) ?_
  refine bindO_i (eLd_some ld1) ?_
  simp only [zI_int]
  refine (t_number M3 y2 _ r2 (by simp; omega)).mono ?_
  rintro y N4 ⟨rfl, rfl⟩
  simp only [i64, zI_int]
  refine ⟨bindO_i (eLd_some ld1) rfl, ?_⟩
  refine (t_number N4 y4 _ r4 (by simp; omega)).mono ?_
  rintro y N5 ⟨rfl, rfl⟩
  simp only [i64, zI_int]
  refine ⟨bindO_i (eLd_some ld1) rfl, ?_⟩
  refine (t_number N5 y8 _ r8 (by simp; omega)).mono ?_
  rintro y N6 ⟨rfl, rfl⟩
  simp only [i64, zI_int, wrap_i64_u8]
  refine ⟨bindO_i (eLd_some ld1) rfl, ?_⟩
  have ek : (r[1].toNat : Int) = fK r := by unfold fK; rw [getD_get (by omega)]
  rw [ek]
  -- the tag's own box
  refine letP_i fun M7 hM7 => ?_
  have hM7' : M7 = N6.put N2.next (.cells [i64 0, i64 0, i64 0, i64 0] true) := hM7
  clear hM7
  have hg7 : M7.get N2.next = some (.cells [i64 0, i64 0, i64 0, i64 0] true) := by rw [hM7', Mem.get_put, if_pos rfl]
  refine bindO_i (eSt_some (st_tag (fK r) (fP r) (fS r) (fE r) hg7 rfl)) ?_
  rw [hM7', Mem.put_put]
  clear hg7 hM7'
  generalize hM8 : N6.put N2.next (.cells [i64 (fK r), i64 (fP r), i64 (fS r), i64 (fE r)] true) = M8
  have hw8 : M8.WF := by rw [← hM8]; exact hw3.put (by omega) _
  have hg8 : M8.get N2.next = some (.cells [i64 (fK r), i64 (fP r), i64 (fS r), i64 (fE r)] true) := by rw [← hM8, Mem.get_put, if_pos rfl]
  have hg8' : M8.get M.next = some (.cells [i64 0, i64 0, i64 0, i64 0] true) := by rw [← hM8, Mem.get_put, if_neg (by omega)]; exact hg3
  have hk8 : Keep M M8 [] := ⟨hw8, by rw [← hM8]; show M.next ≤ N6.next; omega, fun c hc _ => by rw [← hM8, Mem.get_put, if_neg (by omega)]; exact hk13 c hc⟩
  have hold8 : ∀ c, c < N2.next → M8.get c = N6.get c := fun c hc => by rw [← hM8, Mem.get_put, if_neg (by omega)]
  have b8 : BytesAt M8 y14 r := SlAt.mono b3 fun c q hc hq => by
    rw [hold8 c (by have := SlAt.blk_lt b14 hw1 hc; omega)]; exact hq
  have hx8 : BytesAt M8 x l := SlAt.mono hx3 fun c q hc hq => by
    rw [hold8 c (by have := SlAt.blk_lt hx1 hw1 hc; omega)]; exact hq
  clear hM8
  refine letP_i fun K hK => ?_
  have bad : ∀ M' : Mem, M'.WF → Keep M8 M' [] → valid l = false → K true M' := by
    intro M' hw' hk' hv
    rw [hK]
    simp only [condB_true]
    exact read_none 2 (by unfold state; rw [hlok, hff, hv]; simp) (by omega) (hk'.get hw8 hg8' (by simp)) hw' (hk8.trans0 hk')
  have hv : valid l = (decide (r.getD 0 0#8 = 74#8 ∧ r.getD 15 0#8 = 0#8 ∧ val ((r.take 15).drop 11) = (more 0#32 (l.take (n + 11))).toNat) && mayT (fK r) (fP r) (fS r) (fE r)) := by
    unfold valid
    rw [hn16, hr]
  obtain ⟨p0, o0, ia0, in0, ld0, _⟩ := b8.ld 0 (by omega)
  refine bindO_i (eIA_some ia0) ?_
  simp only [zP_ptr]
  refine bindO_i (eLd_some ld0) ?_
  simp only [zI_int]
  rw [show ((r[0].toNat : Int) != 74) = decide (r[0] ≠ BitVec.ofNat 8 74) from ne_u8 r[0] 74 (by omega)]
  have g0 : r.getD 0 0#8 = r[0] := getD_get (by omega)
  have g15 : r.getD 15 0#8 = r[15] := getD_get (by omega)
  refine condB_i (fun h => bad M8 hw8 (Keep.refl hw8) ?_) (fun h0 => ?_)
  · rw [hv, g0]
    have : r[0] ≠ 74#8 := by simpa using h
    simp [this]
  have h0 : r[0] = 74#8 := by simpa using h0
  obtain ⟨p15, o15, ia15, in15, ld15, _⟩ := b8.ld 15 (by omega)
  refine bindO_i (eIA_some ia15) ?_
  simp only [zP_ptr]
  refine bindO_i (eLd_some ld15) ?_
  simp only [zI_int]
  rw [show ((r[15].toNat : Int) != 0) = decide (r[15] ≠ BitVec.ofNat 8 0) from ne_u8 r[15] 0 (by omega)]
  refine condB_i (fun h => bad M8 hw8 (Keep.refl hw8) ?_) (fun h15 => ?_)
  · rw [hv, g15]
    have : r[15] ≠ 0#8 := by simpa using h
    simp [this]
  have h15 : r[15] = 0#8 := by simpa using h15
  obtain ⟨y11, s11, r11⟩ := b8.slice (lo := some (.val (.int .i64 ((11 : Nat) : Int)))) (hi := some (.val (.int .i64 ((15 : Nat) : Int)))) (a := 11) (r := 15) (.inr rfl) (.inr rfl) (by omega) (by omega)
  refine bindO_i (eSl_some s11) ?_
  have e11 : iAdd .i64 (n : Int) 11 = ((n + 11 : Nat) : Int) := by rw [iAdd, wrap_i64' (by omega) (by omega)]; rfl
  rw [e11]
  obtain ⟨yb, sb, rb⟩ := hx8.slice (lo := none) (hi := some (.val (.int .i64 ((n + 11 : Nat) : Int)))) (a := 0) (r := n + 11) (.inl ⟨rfl, rfl⟩) (.inr rfl) (by omega) (by omega)
  rw [List.drop_zero] at rb
  refine bindO_i (eSl_some sb) ?_
  refine (t_number M8 y11 _ r11 (by simp; omega)).mono ?_
  rintro y N9 ⟨rfl, rfl⟩
  simp only [i64, zI_int]
  refine (crc_of N9 yb _ rb (by simp; omega)).mono ?_
  rintro y N10 ⟨rfl, rfl⟩
  simp only [zI_int, wrap_i64_u32]
  refine condB_i (fun h => bad N10 hw8 (Keep.refl hw8) ?_) (fun hc => ?_)
  · rw [hv]
    have : ¬ val ((r.take 15).drop 11) = (more 0#32 (l.take (n + 11))).toNat := fun he => by rw [he] at h; simp at h
    simp [this]
  have hc : val ((r.take 15).drop 11) = (more 0#32 (l.take (n + 11))).toNat := by
    have : ((val ((r.take 15).drop 11) : Nat) : Int) = ((more 0#32 (l.take (n + 11))).toNat : Int) := by simpa using hc
    omega
  obtain ⟨_, _, _, _, la⟩ := tag_ld hg8
  refine bindO_i (eLd_some la) ?_
  refine ⟨fK r, fP r, fS r, fE r, rfl, ?_⟩
  refine (t_may N10 hw8 (fK r) (fP r) (fS r) (fE r)).mono ?_
  rintro y N11 ⟨rfl, hk11⟩
  simp only [zB_bool]
  have hvm : valid l = mayT (fK r) (fP r) (fS r) (fE r) := by
    rw [hv, g0, g15]
    simp [h0, h15, hc]
  cases hm : mayT (fK r) (fP r) (fS r) (fE r) with
  | false => exact bad N11 hk11.wf hk11 (by rw [hvm, hm])
  | true =>
    rw [hK]
    simp only [Bool.not_true, condB_false]
    clear bad hK
    have hx11 : BytesAt N11 x l := SlAt.keep0 hx8 hw8 hk11
    obtain ⟨yd, sd, rd⟩ := hx11.slice (lo := none) (hi := some (.val (.int .i64 (n : Int)))) (a := 0) (r := n) (.inl ⟨rfl, rfl⟩) (.inr rfl) (by omega) (by omega)
    rw [List.drop_zero] at rd
    refine bindO_i (eSl_some sd) ?_
    have hg11 := hk11.get hw8 hg8 (by simp)
    have hg11' := hk11.get hw8 hg8' (by simp)
    obtain ⟨_, _, _, _, la11⟩ := tag_ld hg11
    refine bindO_i (eLd_some la11) ?_
    refine ⟨fK r, fP r, fS r, fE r, rfl, ?_⟩
    refine (t_clone N11 hk11.wf yd (l.take n) rd (by simp; omega) (by simp; omega)).mono ?_
    rintro u N12 ⟨hu, hk12, hf12⟩
    have hg12 := hk12.get hk11.wf hg11 (by simp)
    have hg12' := hk12.get hk11.wf hg11' (by simp)
    obtain ⟨_, _, _, _, la12⟩ := tag_ld hg12
    refine ⟨bindO_i (eLd_some la12) rfl, ?_⟩
    refine bindO_i (eSt_some (st_tag (fK r) (fP r) (fS r) (fE r) hg12' rfl)) ?_
    refine bindO_i (res3 (by rw [Mem.get_put, if_pos rfl])) ?_
    have hkM : Keep M N12 [] := (hk8.trans0 hk11).trans0 hk12
    refine ⟨⟨hk12.wf.put (hk12.wf _ _ hg12') _, hkM.nxt, fun c hc' _ => by
      show (N12.put M.next _).get c = _
      rw [Mem.get_put, if_neg (by omega)]; exact hkM.old c hc' (by simp)⟩, .inl ⟨?_, u, ?_, ?_, fun c hc' => ?_⟩⟩
    · unfold state; rw [hlok, hff, hvm, hm]; simp
    · rw [hn16, hr]; rfl
    · rw [hn16]
      refine hu.mono fun c q hc' hq => ?_
      have h1 := hf12 c hc'
      have h2 := hk11.nxt
      have h3 := hk8.nxt
      show (N12.put M.next _).get c = _
      rw [Mem.get_put, if_neg (by
        have := hw8 _ _ hg8'
        omega)]; exact hq
    · have h1 := hf12 c hc'
      have h2 := hk11.nxt
      have h3 := hk8.nxt
      omega

end Go.Proofs.YtfkkmhadipfobaaGreat

/- What was laid is read; the document's Read (turned from the first seat by ren.py). -/
set_option maxRecDepth 100000
namespace Go.Proofs.YtfkkmhadipfobaaGreat
open Go.AM
def tail16 (k p s e : Int) (c : BitVec 32) : List (BitVec 8) := [74#8, BitVec.ofInt 8 k] ++ be p 2 ++ be s 4 ++ be e 3 ++ be (c.toNat : Int) 4 ++ [0#8]

@[simp] theorem tail16_length (k p s e : Int) (c : BitVec 32) : (tail16 k p s e c).length = 16 := by simp [tail16]

section
variable (k p s e : Int) (c : BitVec 32)
end
end Go.Proofs.YtfkkmhadipfobaaGreat

/- Geometries. -/
set_option maxRecDepth 100000
namespace Go.Proofs.YtfkkmhadipfobaaGreat
open Go.AM

structure Geo where
  bl : Int
  pg : Int
  by' : Int
  sp : Int
  tr : Int
def geoC (g : Geo) : List AV := [i64 g.bl, i64 g.pg, i64 g.by', i64 g.sp, i64 g.tr]
def geoA (g : Geo) : AV := .agg (geoC g)
def placeA (b p : Int) : AV := .agg [i64 b, i64 p]
def inB (a lo hi : Int) : Bool := decide (lo ≤ a) && decide (a ≤ hi)
def mayG (g : Geo) : Bool := inB g.bl 8 20 && (inB g.pg 4 8 && (inB g.by' 24 64 && (inB g.sp 0 4 && (inB g.tr 2 20 && decide (12 ≤ (g.bl - g.sp - 3) * g.pg)))))

theorem ty40 : tb.ty.get 40 = some ⟨.st [(0, 1, false), (1, 1, false), (2, 1, false), (3, 1, false), (4, 1, false)], 5, 40, [.int .i64 0, .int .i64 0, .int .i64 0, .int .i64 0, .int .i64 0], some [3, 3, 3, 3, 3]⟩ := by kernel_rfl
theorem ty50 : tb.ty.get 50 = some ⟨.st [(0, 1, false), (1, 1, false)], 2, 16, [.int .i64 0, .int .i64 0], some [3, 3]⟩ := by kernel_rfl
theorem ty4 : tb.ty.get 4 = some ⟨.bool, 1, 1, [.bool false], none⟩ := by kernel_rfl

theorem mayG_iff {g : Geo} : mayG g = true ↔ (8 ≤ g.bl ∧ g.bl ≤ 20) ∧ (4 ≤ g.pg ∧ g.pg ≤ 8) ∧ (24 ≤ g.by' ∧ g.by' ≤ 64) ∧ (0 ≤ g.sp ∧ g.sp ≤ 4) ∧ (2 ≤ g.tr ∧ g.tr ≤ 20) ∧ 12 ≤ (g.bl - g.sp - 3) * g.pg := by
  unfold mayG inB
  simp only [Bool.and_eq_true, decide_eq_true_eq]

theorem geo_ld {M : Mem} {b : Nat} {g : Geo} {rw' : Bool} (hg : M.get b = some (.cells (geoC g) rw')) :
    evLoad tb 3 (.ptr b 0) M = some (i64 g.bl) ∧ evLoad tb 3 (.ptr b 1) M = some (i64 g.pg) ∧ evLoad tb 3 (.ptr b 2) M = some (i64 g.by') ∧ evLoad tb 3 (.ptr b 3) M = some (i64 g.sp) ∧ evLoad tb 3 (.ptr b 4) M = some (i64 g.tr) ∧ evLoad tb 40 (.ptr b 0) M = some (geoA g) :=
  ⟨ld_cell ty3 rfl hg rfl, ld_cell ty3 rfl hg rfl, ld_cell ty3 rfl hg rfl, ld_cell ty3 rfl hg rfl, ld_cell ty3 rfl hg rfl, ld_agg (n := 5) ty40 rfl rfl hg (by simp [geoC])⟩

theorem place_ld {M : Mem} {b : Nat} {k p : Int} {rw' : Bool} (hg : M.get b = some (.cells [i64 k, i64 p] rw')) :
    evLoad tb 3 (.ptr b 0) M = some (i64 k) ∧ evLoad tb 3 (.ptr b 1) M = some (i64 p) ∧ evLoad tb 50 (.ptr b 0) M = some (placeA k p) :=
  ⟨ld_cell ty3 rfl hg rfl, ld_cell ty3 rfl hg rfl, ld_agg (n := 2) ty50 rfl rfl hg (by simp)⟩

theorem get_new (M : Mem) (r : Row) : (M.new r).get M.next = some r := by rw [Mem.get_new, if_pos rfl]

theorem mul_bnd {a b : Int} (ha : -1000 ≤ a) (ha2 : a ≤ 1000) (hb : 0 ≤ b) (hb2 : b ≤ 1000) : -1000000 ≤ a * b ∧ a * b ≤ 1000000 := by
  constructor
  · have h1 : (-1000) * b ≤ a * b := Int.mul_le_mul_of_nonneg_right ha hb
    omega
  · have h1 : a * b ≤ 1000 * b := Int.mul_le_mul_of_nonneg_right ha2 hb
    omega

theorem half_eq {bl sp pg : Int} (h1 : 8 ≤ bl ∧ bl ≤ 20) (h2 : 4 ≤ pg ∧ pg ≤ 8) (h3 : 0 ≤ sp ∧ sp ≤ 4) : iSub .i64 (iMul .i64 (iSub .i64 (iSub .i64 bl sp) 3) pg) 4 = (bl - sp - 3) * pg - 4 ∧ -1000000 ≤ (bl - sp - 3) * pg ∧ (bl - sp - 3) * pg ≤ 1000000 := by
  have hm := mul_bnd (a := bl - sp - 3) (b := pg) (by omega) (by omega) (by omega) (by omega)
  refine ⟨?_, hm⟩
  have e1 : iSub .i64 bl sp = bl - sp := by rw [iSub, wrap_i64' (by omega) (by omega)]
  have e2 : iSub .i64 (bl - sp) 3 = bl - sp - 3 := by rw [iSub, wrap_i64' (by omega) (by omega)]
  have e3 : iMul .i64 (bl - sp - 3) pg = (bl - sp - 3) * pg := by rw [iMul, wrap_i64' (by omega) (by omega)]
  rw [e1, e2, e3, iSub, wrap_i64' (by omega) (by omega)]

theorem c_in120 (M : Mem) (a b c : Int) : CallA tb.P 77 [i64 a, i64 b, i64 c] M fun y N => y = .val (.bool (inB a b c)) ∧ N = M := by
  refine F77_ok ?_
  unfold F77 inB
  simp only [i64, zI_int, letP_eq]
  refine condB_i (fun h => ?_) (fun h => ?_)
  · have h : b ≤ a := by simpa using h
    simp [h]
  · have h : ¬ b ≤ a := by simpa using h
    simp [h]

theorem c_half121 (M : Mem) (hw : M.WF) (g : Geo) (h1 : 8 ≤ g.bl ∧ g.bl ≤ 20) (h2 : 4 ≤ g.pg ∧ g.pg ≤ 8) (h3 : 0 ≤ g.sp ∧ g.sp ≤ 4) : CallA tb.P 72 [geoA g] M fun y N => (∃ z, y = i64 z ∧ decide (z ≥ 4) = decide (12 ≤ (g.bl - g.sp - 3) * g.pg)) ∧ Keep M N [] := by
  refine F72_ok ?_
  unfold F72
  refine ⟨_, _, _, _, _, rfl, ?_⟩
  simp only [letP_eq]
  have hg := get_new M (.cells (geoC g) true)
  obtain ⟨l0, l1, l2, l3, l4, _⟩ := geo_ld hg
  have hK := Keep.new hw (.cells (geoC g) true)
  refine bindO_i (eLd_some l0) ?_
  simp only [i64, zI_int]
  refine bindO_i (eLd_some l3) ?_
  simp only [i64, zI_int]
  refine bindO_i (eLd_some l1) ?_
  simp only [i64, zI_int]
  obtain ⟨e, hb1, hb2⟩ := half_eq h1 h2 h3
  rw [e]
  generalize (g.bl - g.sp - 3) * g.pg = m at hb1 hb2 ⊢
  refine ⟨⟨_, rfl, ?_⟩, hK⟩
  by_cases hp : 0 ≤ m - 4
  · rw [iQuo, Int.tdiv_eq_ediv_of_nonneg hp, wrap_i64' (by omega) (by omega), decide_eq_decide]
    omega
  · have e5 : (m - 4).tdiv 2 = - ((4 - m) / 2) := by
      rw [show m - 4 = -(4 - m) by omega, Int.neg_tdiv, Int.tdiv_eq_ediv_of_nonneg (by omega)]
    rw [iQuo, e5, wrap_i64' (by omega) (by omega), decide_eq_decide]
    omega

theorem c_may102 (M : Mem) (hw : M.WF) (g : Geo) : CallA tb.P 49 [geoA g] M fun y N => y = .val (.bool (mayG g)) ∧ Keep M N [] := by
  refine F49_ok ?_
  unfold F49
  refine ⟨_, _, _, _, _, rfl, ?_⟩
  simp only [letP_eq]
  have hg := get_new M (.cells (geoC g) true)
  obtain ⟨l0, l1, l2, l3, l4, l5⟩ := geo_ld hg
  have hK := Keep.new hw (.cells (geoC g) true)
  unfold mayG
  refine bindO_i (eLd_some l0) ?_
  simp only [i64, zI_int]
  refine (c_in120 _ g.bl 8 20).mono ?_
  rintro y N ⟨rfl, rfl⟩
  simp only [zB_bool]
  generalize hh0 : inB g.bl 8 20 = q0
  refine condB_i (fun h => ?_) (fun h => ⟨by rw [h]; rfl, hK⟩)
  subst h
  rw [Bool.true_and]
  refine bindO_i (eLd_some l1) ?_
  simp only [i64, zI_int]
  refine (c_in120 _ g.pg 4 8).mono ?_
  rintro y N ⟨rfl, rfl⟩
  simp only [zB_bool]
  generalize hh1 : inB g.pg 4 8 = q1
  refine condB_i (fun h => ?_) (fun h => ⟨by rw [h]; rfl, hK⟩)
  subst h
  rw [Bool.true_and]
  refine bindO_i (eLd_some l2) ?_
  simp only [i64, zI_int]
  refine (c_in120 _ g.by' 24 64).mono ?_
  rintro y N ⟨rfl, rfl⟩
  simp only [zB_bool]
  generalize hh2 : inB g.by' 24 64 = q2
  refine condB_i (fun h => ?_) (fun h => ⟨by rw [h]; rfl, hK⟩)
  subst h
  rw [Bool.true_and]
  refine bindO_i (eLd_some l3) ?_
  simp only [i64, zI_int]
  refine (c_in120 _ g.sp 0 4).mono ?_
  rintro y N ⟨rfl, rfl⟩
  simp only [zB_bool]
  generalize hh3 : inB g.sp 0 4 = q3
  refine condB_i (fun h => ?_) (fun h => ⟨by rw [h]; rfl, hK⟩)
  subst h
  rw [Bool.true_and]
  refine bindO_i (eLd_some l4) ?_
  simp only [i64, zI_int]
  refine (c_in120 _ g.tr 2 20).mono ?_
  rintro y N ⟨rfl, rfl⟩
  simp only [zB_bool]
  generalize hh4 : inB g.tr 2 20 = q4
  refine condB_i (fun h => ?_) (fun h => ⟨by rw [h]; rfl, hK⟩)
  subst h
  rw [Bool.true_and]
  refine bindO_i (eLd_some l5) ?_
  refine ⟨_, _, _, _, _, rfl, ?_⟩
  unfold inB at hh0 hh1 hh3
  simp only [Bool.and_eq_true, decide_eq_true_eq] at hh0 hh1 hh3
  refine (c_half121 _ hK.wf g hh0 hh1 hh3).mono ?_
  rintro y N ⟨⟨z, rfl, hz⟩, hk2⟩
  simp only [i64, zI_int]
  exact ⟨by rw [hz], hK.trans0 hk2⟩

/-! ## Of a geometry that may be -/

def rawN (g : Geo) : Nat := (g.by' + 16).toNat
def isG (g : Geo) (b p : Int) : Bool := inB b 0 (g.bl - 1) && inB p 0 (g.pg - 1)

theorem c_when (M : Mem) (hw : M.WF) (g : Geo) (h : mayG g = true) (n : Int) : CallA tb.P 75 [geoA g, i64 n] M fun y N => y = i64 n ∧ Keep M N [] := by
  refine F75_ok ?_
  unfold F75
  refine ⟨_, _, _, _, _, rfl, ?_⟩
  simp only [letP_eq, i64, zI_int]
  have hg := get_new M (.cells (geoC g) true)
  obtain ⟨l0, l1, l2, l3, l4, l5⟩ := geo_ld hg
  have hK := Keep.new hw (.cells (geoC g) true)
  refine bindO_i (eLd_some l5) ?_
  refine ⟨_, _, _, _, _, rfl, ?_⟩
  refine (c_may102 _ hK.wf g).mono ?_
  rintro y N ⟨rfl, hk⟩
  simp only [zB_bool, h]
  exact condB_i (fun h => by simp at h) (fun _ => ⟨by trivial, hK.trans0 hk⟩)

theorem c_raw (M : Mem) (hw : M.WF) (g : Geo) (h : mayG g = true) : CallA tb.P 44 [geoA g] M fun y N => y = i64 (rawN g) ∧ Keep M N [] := by
  refine F44_ok ?_
  unfold F44
  refine ⟨_, _, _, _, _, rfl, ?_⟩
  simp only [letP_eq]
  have hg := get_new M (.cells (geoC g) true)
  obtain ⟨l0, l1, l2, l3, l4, l5⟩ := geo_ld hg
  have hK := Keep.new hw (.cells (geoC g) true)
  refine bindO_i (eLd_some l5) ?_
  refine ⟨_, _, _, _, _, rfl, ?_⟩
  refine bindO_i (eLd_some l2) ?_
  simp only [i64, zI_int]
  refine bindO_i (eLd_some l5) ?_
  refine ⟨_, _, _, _, _, rfl, ?_⟩
  refine (c_when _ hK.wf g h _).mono ?_
  rintro y N ⟨rfl, hk⟩
  simp only [i64, zI_int]
  have hg2 := hk.get hK.wf hg (by simp)
  obtain ⟨_, _, _, _, _, m5⟩ := geo_ld hg2
  refine ⟨bindO_i (eLd_some m5) rfl, ?_⟩
  refine (c_when _ hk.wf g h _).mono ?_
  rintro y N' ⟨rfl, hk'⟩
  simp only [i64, zI_int]
  refine ⟨?_, hK.trans0 (hk.trans0 hk')⟩
  have hm := mayG_iff.1 h
  rw [iAdd, wrap_i64' (by omega) (by omega)]
  unfold rawN
  congr 3
  omega

theorem c_is (M : Mem) (hw : M.WF) (g : Geo) (h : mayG g = true) (b p : Int) : CallA tb.P 76 [geoA g, placeA b p] M fun y N => y = .val (.bool (isG g b p)) ∧ Keep M N [] := by
  refine F76_ok ?_
  unfold F76
  refine ⟨_, _, _, _, _, rfl, _, _, rfl, ?_⟩
  simp only [letP_eq]
  have hg := get_new M (.cells (geoC g) true)
  have hK := Keep.new hw (.cells (geoC g) true)
  have hK2 := Keep.new hK.wf (.cells [i64 b, i64 p] true)
  have hg2 := hK2.get hK.wf hg (by simp)
  have hp2 := get_new (M.new (.cells (geoC g) true)) (.cells [i64 b, i64 p] true)
  obtain ⟨l0, l1, l2, l3, l4, l5⟩ := geo_ld hg2
  refine bindO_i (eLd_some l5) ?_
  refine ⟨_, _, _, _, _, rfl, ?_⟩
  refine (c_may102 _ hK2.wf g).mono ?_
  rintro y N ⟨rfl, hk⟩
  simp only [zB_bool, h]
  refine condB_i (fun _ => ?_) (fun h => by simp at h)
  have hgN := hk.get hK2.wf hg2 (by simp)
  have hpN := hk.get hK2.wf hp2 (by simp)
  obtain ⟨k0, k1, _⟩ := geo_ld hgN
  obtain ⟨p0, p1, _⟩ := place_ld hpN
  have hm := mayG_iff.1 h
  have hall := hK.trans0 (hK2.trans0 hk)
  unfold isG
  refine bindO_i (eLd_some p0) ?_
  simp only [i64, zI_int]
  refine bindO_i (eLd_some k0) ?_
  simp only [i64, zI_int]
  rw [show iSub .i64 g.bl 1 = g.bl - 1 by rw [iSub, wrap_i64' (by omega) (by omega)]]
  refine (c_in120 _ _ _ _).mono ?_
  rintro y N' ⟨rfl, rfl⟩
  simp only [zB_bool]
  refine condB_i (fun hb => ?_) (fun hb => ⟨by rw [hb]; rfl, hall⟩)
  rw [hb, Bool.true_and]
  refine bindO_i (eLd_some p1) ?_
  simp only [i64, zI_int]
  refine bindO_i (eLd_some k1) ?_
  simp only [i64, zI_int]
  rw [show iSub .i64 g.pg 1 = g.pg - 1 by rw [iSub, wrap_i64' (by omega) (by omega)]]
  refine (c_in120 _ _ _ _).mono ?_
  rintro y N' ⟨rfl, rfl⟩
  simp only [zB_bool]
  exact ⟨by trivial, hall⟩

/-- Is the place's number below 0? -/
theorem c_number (M : Mem) (hw : M.WF) (g : Geo) (h : mayG g = true) (b p : Int) : CallA tb.P 48 [geoA g, placeA b p] M fun y N => (∃ z, y = i64 z ∧ decide (z < 0) = !isG g b p) ∧ Keep M N [] := by
  refine F48_ok ?_
  unfold F48
  refine ⟨_, _, _, _, _, rfl, _, _, rfl, ?_⟩
  simp only [letP_eq]
  have hg := get_new M (.cells (geoC g) true)
  have hK := Keep.new hw (.cells (geoC g) true)
  have hK2 := Keep.new hK.wf (.cells [i64 b, i64 p] true)
  have hg2 := hK2.get hK.wf hg (by simp)
  have hp2 := get_new (M.new (.cells (geoC g) true)) (.cells [i64 b, i64 p] true)
  obtain ⟨l0, l1, l2, l3, l4, l5⟩ := geo_ld hg2
  refine bindO_i (eLd_some l5) ?_
  refine ⟨_, _, _, _, _, rfl, ?_⟩
  refine (c_may102 _ hK2.wf g).mono ?_
  rintro y N ⟨rfl, hk⟩
  simp only [zB_bool, h]
  refine condB_i (fun h => by simp at h) (fun _ => ?_)
  have hgN := hk.get hK2.wf hg2 (by simp)
  have hpN := hk.get hK2.wf hp2 (by simp)
  obtain ⟨_, _, _, _, _, k5⟩ := geo_ld hgN
  obtain ⟨_, _, p2⟩ := place_ld hpN
  refine bindO_i (eLd_some k5) ?_
  refine ⟨_, _, _, _, _, rfl, ?_⟩
  refine bindO_i (eLd_some p2) ?_
  refine ⟨_, _, rfl, ?_⟩
  refine (c_is _ hk.wf g h b p).mono ?_
  rintro y N' ⟨rfl, hk'⟩
  simp only [zB_bool]
  have hall := hK.trans0 (hK2.trans0 (hk.trans0 hk'))
  refine condB_i (fun hi => ?_) (fun hi => ?_)
  · refine ⟨⟨-1, rfl, ?_⟩, hall⟩
    rw [hi]; rfl
  have hi : isG g b p = true := by simpa using hi
  obtain ⟨_, k1, _⟩ := geo_ld (hk'.get hk.wf hgN (by simp))
  obtain ⟨p0, p1, _⟩ := place_ld (hk'.get hk.wf hpN (by simp))
  refine bindO_i (eLd_some p0) ?_
  simp only [i64, zI_int]
  refine bindO_i (eLd_some k1) ?_
  simp only [i64, zI_int]
  refine bindO_i (eLd_some p1) ?_
  simp only [i64, zI_int]
  refine ⟨⟨_, rfl, ?_⟩, hall⟩
  rw [hi]
  unfold isG inB at hi
  simp only [Bool.and_eq_true, decide_eq_true_eq] at hi
  have hm := mayG_iff.1 h
  have hb := mul_bnd (a := b) (b := g.pg) (by omega) (by omega) (by omega) (by omega)
  have hn : 0 ≤ b * g.pg := Int.mul_nonneg (by omega) (by omega)
  rw [iMul, wrap_i64' (n := b * g.pg) (by omega) (by omega), iAdd, wrap_i64' (by omega) (by omega)]
  simp only [Bool.not_true, decide_eq_false_iff_not]
  omega

end Go.Proofs.YtfkkmhadipfobaaGreat

/- Faults. -/
set_option maxRecDepth 100000
namespace Go.Proofs.YtfkkmhadipfobaaGreat
open Go.AM

structure Flt where
  blk : Int
  fac : Bool
  aft : Int
def fltC (f : Flt) : List AV := [i64 f.blk, .val (.bool f.fac), i64 f.aft]
def fltA (f : Flt) : AV := .agg (fltC f)
theorem fltC_len (f : Flt) : (fltC f).length = 3 := rfl
def FltsAt (M : Mem) (x : AV) (fs : List Flt) : Prop := SlAt 3 M x fs.length (fs.flatMap fltC)

theorem ty80 : tb.ty.get 80 = some ⟨.st [(0, 1, false), (1, 1, false), (2, 1, false)], 3, 24, [.int .i64 0, .bool false, .int .i64 0], some [3, 4, 3]⟩ := by kernel_rfl
theorem ty76 : tb.ty.get 76 = some ⟨.sli 80, 1, 24, [.slice none 0 0], none⟩ := by kernel_rfl

theorem FltsAt.len {M M' : Mem} {x : AV} {fs : List Flt} (h : FltsAt M x fs) : evLenCap tb false 76 x M' = some fs.length := SlAt.len h ty76 rfl
theorem FltsAt.at {M : Mem} {x : AV} {fs : List Flt} (h : FltsAt M x fs) {i : Nat} (hi : i < fs.length) :
    ∃ b o, evIndexAddr tb 76 x (.val (.int .i64 (i : Int))) = some (.ptr b o) ∧ evLoad tb 80 (.ptr b o) M = some (fltA fs[i]) := by
  obtain ⟨b, o, h1, h2⟩ := SlAt.ldAgg h ty76 rfl ty80 rfl rfl hi (k' := .i64)
  rw [flat_at fltC_len hi] at h2
  exact ⟨b, o, h1, h2⟩

theorem flt_ld {M : Mem} {b : Nat} {f : Flt} {rw' : Bool} (hg : M.get b = some (.cells (fltC f) rw')) :
    evLoad tb 3 (.ptr b 0) M = some (i64 f.blk) ∧ evLoad tb 4 (.ptr b 1) M = some (.val (.bool f.fac)) ∧ evLoad tb 3 (.ptr b 2) M = some (i64 f.aft) ∧ evLoad tb 80 (.ptr b 0) M = some (fltA f) :=
  ⟨ld_cell ty3 rfl hg rfl, ld_cell ty4 rfl hg rfl, ld_cell ty3 rfl hg rfl, ld_agg (n := 3) ty80 rfl rfl hg (by simp [fltC])⟩

theorem flt_st {M : Mem} {b : Nat} {cs : List AV} (f : Flt) (hg : M.get b = some (.cells cs true)) (hl : cs.length = 3) : evStore tb 80 (.ptr b 0) (fltA f) M = some (M.put b (.cells (fltC f) true)) :=
  st_all ty80 rfl hg hl (by intro v hv; simp only [fltC, List.mem_cons, List.not_mem_nil, or_false] at hv; rcases hv with rfl | rfl | rfl <;> rfl)

theorem c_find1 (M : Mem) (hw : M.WF) (f : Flt) (q : Nat) (b : Int) {rw' : Bool} (hq : M.get q = some (.cells [i64 b] rw')) : CallA tb.P 103 [fltA f, .ptr q 0] M fun y N => y = .val (.bool (f.blk == b)) ∧ Keep M N [] := by
  refine F103_ok ?_
  unfold F103
  refine ⟨_, _, _, rfl, ?_⟩
  simp only [letP_eq]
  have hg := get_new M (.cells (fltC f) true)
  obtain ⟨l0, _⟩ := flt_ld hg
  have hK := Keep.new hw (.cells (fltC f) true)
  refine bindO_i (eLd_some l0) ?_
  simp only [i64, zI_int]
  have l1 : evLoad tb 3 (.ptr q 0) (M.new (.cells (fltC f) true)) = some (i64 b) := ld_cell ty3 rfl (hK.get hw hq (by simp)) rfl
  refine bindO_i (eLd_some l1) ?_
  simp only [i64, zI_int]
  exact ⟨by trivial, hK⟩

theorem fn103' : tb.fn.get 103 = some Tryz.f103 := fn103

theorem c_index (M : Mem) (hw : M.WF) (x : AV) (fs : List Flt) (hx : FltsAt M x fs) (hl : fs.length ≤ 1000) (q : Nat) (b : Int) {rw' : Bool} (hq : M.get q = some (.cells [i64 b] rw')) :
    CallA tb.P 102 [x, .fn 103 [] [.ptr q 0]] M fun y N => Keep M N [] ∧ ((∃ (i : Nat) (h : i < fs.length), y = i64 i ∧ fs[i].blk = b ∧ ∀ (j : Nat) (hj : j < i), fs[j].blk ≠ b) ∨ (y = i64 (-1) ∧ ∀ f ∈ fs, f.blk ≠ b)) := by
  refine F102_ok ?_
  unfold F102
  refine bindO_i (eLen_some hx.len) ?_
  simp only [zI_int]
  refine ⟨fun z n N => ∃ i : Nat, z = i ∧ n = fs.length - i ∧ i ≤ fs.length ∧ Keep M N [] ∧ ∀ (j : Nat) (hj : j < fs.length), j < i → fs[j].blk ≠ b, ⟨fs.length, 0, rfl, rfl, Nat.zero_le _, Keep.refl hw, fun j _ h => by omega⟩, ?_⟩
  rintro _ z n N ⟨i, rfl, rfl, hi, hk, hne⟩
  have hxN : FltsAt N x fs := SlAt.keep0 hx hw hk
  have hqN := hk.get hw hq (by simp)
  refine condB_i (fun hlt => ?_) (fun hge => ?_)
  · have hlt : i < fs.length := by simpa using hlt
    obtain ⟨p, o, h1, h2⟩ := hxN.at hlt
    refine bindO_i (eIA_some h1) ?_
    simp only [zP_ptr]
    refine bindO_i (eLd_some h2) ?_
    refine ⟨_, _, _, rfl, ?_⟩
    refine eCall_i fn103' ?_
    refine (c_find1 N hk.wf fs[i] q b hqN).mono ?_
    rintro y N1 ⟨rfl, hk1⟩
    simp only [zB_bool]
    refine condB_i (fun h => ?_) (fun h => ?_)
    · exact ⟨hk.trans0 hk1, .inl ⟨i, hlt, rfl, by simpa using h, fun j hj => hne j (by omega) hj⟩⟩
    · refine ⟨fs.length - (i + 1), by omega, i + 1, iInc (by omega), rfl, hlt, hk.trans0 hk1, fun j hj hji => ?_⟩
      by_cases hji' : j = i
      · subst hji'; simpa using h
      · exact hne j hj (by omega)
  · have hge : i = fs.length := by have : ¬ (i : Int) < fs.length := by simpa using hge
                                   omega
    subst hge
    refine ⟨hk, .inr ⟨rfl, fun f hf => ?_⟩⟩
    obtain ⟨j, hj, rfl⟩ := List.getElem_of_mem hf
    exact hne j hj hj

def findF (fs : List Flt) (b : Int) : Option Flt := fs.find? fun f => f.blk == b
def flt0 : Flt := ⟨0, false, 0⟩

theorem c_find (M : Mem) (hw : M.WF) (x : AV) (fs : List Flt) (hx : FltsAt M x fs) (hl : fs.length ≤ 1000) (b : Int) :
    CallA tb.P 73 [x, i64 b] M fun y N => y = .tup [fltA ((findF fs b).getD flt0), .val (.bool (findF fs b).isSome)] ∧ Keep M N [] := by
  refine F73_ok ?_
  unfold F73
  simp only [letP_eq, i64, zI_int]
  have hK := Keep.new hw (.cells [i64 b] true)
  have hK2 := Keep.new hK.wf (.cells (fltC flt0) true)
  have hq := hK2.get hK.wf (get_new M (.cells [i64 b] true)) (by simp)
  have hf2 := get_new (M.new (.cells [i64 b] true)) (.cells (fltC flt0) true)
  have hk2 := hK.trans0 hK2
  refine (c_index _ hK2.wf x fs (SlAt.keep0 hx hw hk2) hl M.next b hq).mono ?_
  rintro y N ⟨hk, h⟩
  have hfN := hk.get hK2.wf hf2 (by simp)
  have hall := hk2.trans0 hk
  have hxN : FltsAt N x fs := SlAt.keep0 hx hw hall
  have fin : ∀ f : Flt, Keep M (N.put (M.new (.cells [i64 b] true)).next (.cells (fltC f) true)) [] := fun f => by
    refine hall.trans (Keep.put hk.wf (hk.wf _ _ hfN) _) (by simp) (fun c hc hlt => ?_)
    simp only [List.mem_singleton] at hc
    subst hc
    exact absurd hlt (by simp)
  have res : ∀ (f : Flt) (o : Bool), eRes tb [.c 80 (.ptr (M.new (.cells [i64 b] true)).next 0), .v (.val (.bool o))] (N.put (M.new (.cells [i64 b] true)).next (.cells (fltC f) true)) = some (.tup [fltA f, .val (.bool o)]) := fun f o => by
    obtain ⟨_, _, _, la⟩ := flt_ld (f := f) (b := (M.new (.cells [i64 b] true)).next) (M := N.put (M.new (.cells [i64 b] true)).next (.cells (fltC f) true)) (rw' := true) (by rw [Mem.get_put, if_pos rfl])
    unfold eRes resC resC resC
    simp only [la, Option.map_some]
  rcases h with ⟨i, hi, rfl, hb, hne⟩ | ⟨rfl, hne⟩
  · have hfind : findF fs b = some fs[i] := by
      unfold findF
      rw [List.find?_eq_some_iff_getElem]
      exact ⟨by simpa using hb, i, hi, rfl, fun j hj => by simpa using hne j hj⟩
    rw [hfind]
    simp only [i64, zI_int]
    refine condB_i (fun h => by exfalso; simp at h; omega) (fun _ => ?_)
    obtain ⟨p, o, h1, h2⟩ := hxN.at hi
    refine bindO_i (eIA_some h1) ?_
    simp only [zP_ptr]
    refine bindO_i (eLd_some h2) ?_
    refine ⟨_, _, _, rfl, ?_⟩
    refine bindO_i (eSt_some (flt_st fs[i] hfN rfl)) ?_
    refine bindO_i (res fs[i] true) ?_
    exact ⟨rfl, fin _⟩
  · have hfind : findF fs b = none := by
      unfold findF
      rw [List.find?_eq_none]
      exact fun f hf => by simpa using hne f hf
    rw [hfind]
    simp only [i64, zI_int]
    refine condB_i (fun _ => ?_) (fun h => by simp at h)
    refine bindO_i (eSt_some (flt_st flt0 hfN rfl)) ?_
    refine bindO_i (res flt0 false) ?_
    exact ⟨rfl, fin _⟩

def failsF (fs : List Flt) (b d : Int) : Bool := match findF fs b with
  | some f => decide (f.aft ≤ d)
  | none => false
def badF (fs : List Flt) (b : Int) : Bool := match findF fs b with
  | some f => f.fac
  | none => false

theorem c_fails (M : Mem) (hw : M.WF) (x : AV) (fs : List Flt) (hx : FltsAt M x fs) (hl : fs.length ≤ 1000) (b d : Int) : CallA tb.P 150 [x, i64 b, i64 d] M fun y N => y = .val (.bool (failsF fs b d)) ∧ Keep M N [] := by
  refine F150_ok ?_
  unfold F150
  simp only [i64, zI_int]
  refine (c_find M hw x fs hx hl b).mono ?_
  rintro y N ⟨rfl, hk⟩
  refine ⟨_, _, _, _, rfl, ?_⟩
  simp only [letP_eq]
  have hK := Keep.new hk.wf (.cells (fltC flt0) true)
  refine bindO_i (eSt_some (flt_st _ (get_new N (.cells (fltC flt0) true)) rfl)) ?_
  rw [Mem.new_put]
  have hK2 := hk.trans0 (Keep.new hk.wf (.cells (fltC ((findF fs b).getD flt0)) true))
  obtain ⟨_, _, l2, _⟩ := flt_ld (get_new N (.cells (fltC ((findF fs b).getD flt0)) true))
  unfold failsF
  cases hfd : findF fs b with
  | none => exact ⟨rfl, by rw [hfd] at hK2; exact hK2⟩
  | some f =>
    rw [hfd] at l2 hK2
    simp only [Option.isSome_some, condB_true]
    refine bindO_i (eLd_some l2) ?_
    simp only [i64, zI_int]
    exact ⟨rfl, hK2⟩

theorem c_bad (M : Mem) (hw : M.WF) (x : AV) (fs : List Flt) (hx : FltsAt M x fs) (hl : fs.length ≤ 1000) (b : Int) : CallA tb.P 50 [x, i64 b] M fun y N => y = .val (.bool (badF fs b)) ∧ Keep M N [] := by
  refine F50_ok ?_
  unfold F50
  simp only [i64, zI_int]
  refine (c_find M hw x fs hx hl b).mono ?_
  rintro y N ⟨rfl, hk⟩
  refine ⟨_, _, _, _, rfl, ?_⟩
  simp only [letP_eq]
  refine bindO_i (eSt_some (flt_st _ (get_new N (.cells (fltC flt0) true)) rfl)) ?_
  rw [Mem.new_put]
  have hK2 := hk.trans0 (Keep.new hk.wf (.cells (fltC ((findF fs b).getD flt0)) true))
  obtain ⟨_, l1, _⟩ := flt_ld (get_new N (.cells (fltC ((findF fs b).getD flt0)) true))
  unfold badF
  cases hfd : findF fs b with
  | none => exact ⟨rfl, by rw [hfd] at hK2; exact hK2⟩
  | some f =>
    rw [hfd] at l1 hK2
    simp only [Option.isSome_some, condB_true]
    refine bindO_i (eLd_some l1) ?_
    simp only [zB_bool]
    exact ⟨rfl, hK2⟩

end Go.Proofs.YtfkkmhadipfobaaGreat

/- Which faults may be. -/
set_option maxRecDepth 100000
namespace Go.Proofs.YtfkkmhadipfobaaGreat
open Go.AM

def bump (M : Mem) : Mem := ⟨M.next + 1, M.rows⟩
theorem bump_wf {M : Mem} (h : M.WF) : (bump M).WF := fun b r hb => by have := h b r hb; show b < M.next + 1; omega
theorem bump_keep {M : Mem} (h : M.WF) : Keep M (bump M) [] := ⟨bump_wf h, Nat.le_succ _, fun _ _ _ => rfl⟩
/-- What was put aside is used. -/
theorem bump_put {M N : Mem} (hw : M.WF) (hk : Keep (bump M) N []) (r : Row) : Keep M (N.put M.next r) [] :=
  ⟨hk.wf.put (Nat.lt_of_lt_of_le (Nat.lt_succ_self _) hk.nxt) r, Nat.le_trans (Nat.le_succ _) hk.nxt, fun b hb _ => by
    rw [Mem.get_put, if_neg (by omega)]
    exact hk.old b (by show b < M.next + 1; omega) (by simp)⟩

def okF (g : Geo) (pre : List Flt) (f : Flt) : Bool :=
  !((findF pre f.blk).isSome || (decide (f.blk < 0) || (decide (f.blk ≥ g.bl) || (decide (f.aft < 0) || (decide (f.aft > 1073741824) || (f.fac && (f.aft != 0)))))))
def mayP (g : Geo) (fs : List Flt) : Bool := mayG g && decide (fs.length ≤ 8) && (List.range fs.length).all fun i => okF g (fs.take i) (fs.getD i flt0)

theorem FltsAt.take {M : Mem} {x : AV} {fs : List Flt} (h : FltsAt M x fs) {i : Nat} (hi : i ≤ fs.length) : ∃ y, evSliceAt tb 76 x none (some (.val (.int .i64 (i : Int)))) none = some y ∧ FltsAt M y (fs.take i) := by
  obtain ⟨y, h1, h2, _⟩ := SlAt.slice h ty76 rfl ty80 rfl (lo := none) (hi := some (.val (.int .i64 (i : Int)))) (l := 0) (r := i) (k1 := .i64) (k2 := .i64) (.inl ⟨rfl, rfl⟩) (.inr rfl) (Nat.zero_le _) hi
  refine ⟨y, h1, ?_⟩
  unfold FltsAt
  have e1 : (fs.take i).length = i - 0 := by rw [List.length_take]; omega
  have e2 : (fs.take i).flatMap fltC = ((fs.flatMap fltC).drop (0 * 3)).take ((i - 0) * 3) := by
    rw [Nat.zero_mul, List.drop_zero, Nat.sub_zero]
    conv => rhs; rw [← List.take_append_drop i fs, List.flatMap_append]
    rw [List.take_left' (by rw [flat_length fltC_len, List.length_take, Nat.min_eq_left hi])]
  rw [e1, e2]
  exact h2

theorem c_mayP (M : Mem) (hw : M.WF) (g : Geo) (x : AV) (fs : List Flt) (hx : FltsAt M x fs) (hfl : fs.length ≤ 9223372036854775807) : CallA tb.P 41 [geoA g, x] M fun y N => y = .val (.bool (mayP g fs)) ∧ Keep M N [] := by
  refine F41_ok ?_
  unfold F41
  refine ⟨_, _, _, _, _, rfl, ?_⟩
  refine letP_i fun M6 hM6 => ?_
  have hM6' : M6 = M.new (.cells (geoC g) true) := hM6
  have hK : Keep M M6 [] := by rw [hM6']; exact Keep.new hw _
  have hg : M6.get M.next = some (.cells (geoC g) true) := by rw [hM6']; exact get_new _ _
  clear hM6 hM6'
  refine letP_i fun K20 hK20 => ?_
  obtain ⟨_, _, _, _, _, l5⟩ := geo_ld hg
  refine bindO_i (eLd_some l5) ?_
  refine ⟨_, _, _, _, _, rfl, ?_⟩
  refine (c_may102 M6 hK.wf g).mono ?_
  rintro y N ⟨rfl, hk⟩
  simp only [zB_bool]
  have hk1 := hK.trans0 hk
  have hgN := hk.get hK.wf hg (by simp)
  have hxN : FltsAt N x fs := SlAt.keep0 hx hw hk1
  refine condB_i (fun h => ?_) (fun hm => ?_)
  · have h : mayG g = false := by simpa using h
    rw [hK20]
    refine condB_i (fun _ => ⟨?_, hk1⟩) (fun h => by cases h)
    unfold mayP
    rw [h]; rfl
  have hm : mayG g = true := by simpa using hm
  refine bindO_i (eLen_some hxN.len) ?_
  simp only [zI_int]
  rw [hK20]
  clear hK20 K20
  refine condB_i (fun h => ⟨?_, hk1⟩) (fun h => ?_)
  · have h : ¬ fs.length ≤ 8 := by have : (8 : Int) < fs.length := by simpa using h
                                   omega
    unfold mayP
    rw [decide_eq_false h, Bool.and_false, Bool.false_and]
  have h8 : fs.length ≤ 8 := by have : ¬ ((fs.length : Int) > 8) := by simpa using h
                                omega
  clear h
  refine bindO_i (eLen_some hxN.len) ?_
  simp only [zI_int]
  refine ⟨fun z n P => ∃ i : Nat, z = i ∧ n = fs.length - i ∧ i ≤ fs.length ∧ Keep N P [] ∧ ∀ j, j < i → okF g (fs.take j) (fs.getD j flt0) = true, ⟨fs.length, 0, rfl, rfl, Nat.zero_le _, Keep.refl hk.wf, fun j h => by omega⟩, ?_⟩
  rintro _ z n P ⟨i, rfl, rfl, hi, hkP, hok⟩
  have hxP : FltsAt P x fs := SlAt.keep0 hxN hk.wf hkP
  have hall := hk1.trans0 hkP
  refine condB_i (fun hlt => ?_) (fun hge => ?_)
  rotate_left
  · have hge : i = fs.length := by have : ¬ (i : Int) < fs.length := by simpa using hge
                                   omega
    subst hge
    refine ⟨?_, hall⟩
    unfold mayP
    rw [hm, decide_eq_true h8, List.all_eq_true.2 (fun j hj => hok j (List.mem_range.1 hj))]
    rfl
  have hlt : i < fs.length := by simpa using hlt
  obtain ⟨p, o, h1, h2⟩ := hxP.at hlt
  have hgd : fs.getD i flt0 = fs[i] := by rw [List.getD_eq_getElem?_getD, List.getElem?_eq_getElem hlt]; rfl
  generalize hf : fs[i] = f at *
  refine bindO_i (eIA_some h1) ?_
  simp only [zP_ptr]
  refine bindO_i (eLd_some h2) ?_
  refine ⟨_, _, _, rfl, ?_⟩
  refine letP_i fun M35 hM35 => ?_
  subst hM35
  refine bindO_i (eSt_some (flt_st f (get_new P (.cells (fltC flt0) true)) rfl)) ?_
  rw [Mem.new_put]
  have hP1 := Keep.new hkP.wf (.cells (fltC f) true)
  have hf1 := get_new P (.cells (fltC f) true)
  generalize hPn : P.new (.cells (fltC f) true) = P1 at hP1 hf1
  have hb := bump_keep hP1.wf
  refine letP_i fun M37 hM37 => ?_
  have hM37' : M37 = bump P1 := hM37
  subst hM37'
  show bindO (eSl tb 76 x none (some (.val (.int .i64 (i : Int)))) none (bump P1)) _
  have hf2 := hb.get hP1.wf hf1 (by simp)
  have hx2 : FltsAt (bump P1) x fs := SlAt.keep0 hxP hkP.wf (hP1.trans0 hb)
  obtain ⟨y, h3, h4⟩ := hx2.take (i := i) (by omega)
  refine bindO_i (eSl_some h3) ?_
  obtain ⟨l0, _⟩ := flt_ld hf2
  refine bindO_i (eLd_some l0) ?_
  simp only [i64, zI_int]
  refine (c_find _ hb.wf y _ h4 (by rw [List.length_take]; omega) f.blk).mono ?_
  rintro y N2 ⟨rfl, hk2⟩
  refine ⟨_, _, _, _, rfl, ?_⟩
  refine letP_i fun M47 hM47 => ?_
  subst hM47
  have hp := bump_put hP1.wf hk2 (.cells (fltC ((findF (fs.take i) f.blk).getD flt0)) true)
  have hst := flt_st ((findF (fs.take i) f.blk).getD flt0) (M := N2.put P1.next (.cells (fltC flt0) true)) (b := P1.next) (by rw [Mem.get_put, if_pos rfl]) rfl
  rw [Mem.put_put] at hst
  refine bindO_i (eSt_some hst) ?_
  have hf3 := hp.get hP1.wf hf1 (by simp)
  have hkk := hkP.trans0 (hP1.trans0 hp)
  have hg3 := hkk.get hk.wf hgN (by simp)
  have hall3 := hk1.trans0 hkk
  obtain ⟨m0, m1, m2, _⟩ := flt_ld hf3
  obtain ⟨g0, _⟩ := geo_ld hg3
  generalize N2.put P1.next (.cells (fltC ((findF (fs.take i) f.blk).getD flt0)) true) = N3 at *
  refine letP_i fun K hKK => ?_
  have bad : okF g (fs.take i) f = false → K true := fun h => by
    rw [hKK]
    refine ⟨?_, hall3⟩
    unfold mayP
    rw [List.all_eq_false.2 ⟨i, List.mem_range.2 hlt, by rw [hgd, h]; simp⟩, Bool.and_false]
  have good : okF g (fs.take i) f = true → K false := fun h => by
    rw [hKK]
    refine ⟨fs.length - (i + 1), by omega, i + 1, iInc (by omega), rfl, hlt, hkk, fun j hj => ?_⟩
    by_cases hji : j = i
    · subst hji; rw [hgd]; exact h
    · exact hok j (by omega)
  have step : ∀ b : Bool, b = !okF g (fs.take i) f → K b := fun b hb => by
    cases b with
    | true => exact bad (by simpa using hb)
    | false => exact good (by simpa using hb)
  unfold okF at step
  simp only [Bool.not_not] at step
  refine condB_i (fun q => step true (by rw [q]; rfl)) (fun q => ?_)
  rw [q, Bool.false_or] at step
  refine bindO_i (eLd_some m0) ?_
  simp only [i64, zI_int]
  refine condB_i (fun q => step true (by rw [q]; rfl)) (fun q => ?_)
  rw [q, Bool.false_or] at step
  refine bindO_i (eLd_some m0) ?_
  simp only [i64, zI_int]
  refine bindO_i (eLd_some g0) ?_
  simp only [i64, zI_int]
  refine condB_i (fun q => step true (by rw [q]; rfl)) (fun q => ?_)
  rw [q, Bool.false_or] at step
  refine bindO_i (eLd_some m2) ?_
  simp only [i64, zI_int]
  refine condB_i (fun q => step true (by rw [q]; rfl)) (fun q => ?_)
  rw [q, Bool.false_or] at step
  refine bindO_i (eLd_some m2) ?_
  simp only [i64, zI_int]
  refine condB_i (fun q => step true (by rw [q]; rfl)) (fun q => ?_)
  rw [q, Bool.false_or] at step
  refine bindO_i (eLd_some m1) ?_
  simp only [zB_bool]
  refine condB_i (fun q => ?_) (fun q => step false (by rw [q]; rfl))
  rw [q, Bool.true_and] at step
  refine bindO_i (eLd_some m2) ?_
  simp only [i64, zI_int]
  exact step _ rfl

end Go.Proofs.YtfkkmhadipfobaaGreat

/- The document's faults and the program's: alike. -/
set_option maxRecDepth 100000
namespace Go.Proofs.YtfkkmhadipfobaaGreat
open Go.AM

/-- No two faults of one block. -/
def Apart (fs : List Flt) : Prop := ∀ f ∈ fs, ∀ h ∈ fs, f.blk = h.blk → f = h

end Go.Proofs.YtfkkmhadipfobaaGreat

/- What a chip is in memory; power, operations. -/
set_option maxRecDepth 100000
namespace Go.Proofs.YtfkkmhadipfobaaGreat
open Go.AM

structure Blk where
  b : Nat
  by' : List (BitVec 8)
  next : Int
  wear : Int
  done : Int
def blkC (B : Blk) : List AV := [.sl B.b 0 B.by'.length B.by'.length none, i64 B.next, i64 B.wear, i64 B.done]
theorem blkC_len (B : Blk) : (blkC B).length = 4 := rfl

structure Chip where
  g : Geo
  fsA : AV
  fs : List Flt
  bb : Nat
  bs : List Blk
  off : Bool
  ops : Int
  cuts : Int
  cop : Int
  cby : Int
  cf : BitVec 8
  turn : Int
def blksA (C : Chip) : AV := .sl C.bb 0 C.bs.length C.bs.length (some 4)
def chipC (C : Chip) : List AV := [i64 C.g.bl, i64 C.g.pg, i64 C.g.by', i64 C.g.sp, i64 C.g.tr, C.fsA, blksA C, .val (.bool C.off), i64 C.ops, i64 C.cuts, i64 C.cop, i64 C.cby, bv8 C.cf, i64 C.turn]
def foot (p : Nat) (C : Chip) : List Nat := p :: C.bb :: C.bs.map (·.b)

structure ChipAt (M : Mem) (p : Nat) (C : Chip) : Prop where
  main : M.get p = some (.cells (chipC C) true)
  tab : M.get C.bb = some (.cells (C.bs.flatMap blkC) true)
  dat : ∀ B ∈ C.bs, M.get B.b = some (.cells (bvs B.by') true)
  flt : FltsAt M C.fsA C.fs
  nd : (foot p C).Nodup
  fsx : ∀ c, inBlk C.fsA c → c ∉ foot p C
  one : C.fsA.one = true
  fsl : C.fs.length ≤ 8
  may : mayG C.g = true
  len : C.bs.length = C.g.bl.toNat
  ful : ∀ B ∈ C.bs, B.by'.length = C.g.pg.toNat * rawN C.g
  cby0 : 0 ≤ C.cby

theorem ChipAt.keep {M N : Mem} {p : Nat} {C : Chip} (h : ChipAt M p C) (hw : M.WF) (hk : Keep M N []) : ChipAt N p C :=
  ⟨hk.get hw h.main (by simp), hk.get hw h.tab (by simp), fun B hB => hk.get hw (h.dat B hB) (by simp), SlAt.keep0 h.flt hw hk, h.nd, h.fsx, h.one, h.fsl, h.may, h.len, h.ful, h.cby0⟩

/-- Whatever is done elsewhere. -/
theorem ChipAt.keepS {M N : Mem} {p : Nat} {C : Chip} {S : List Nat} (h : ChipAt M p C) (hw : M.WF) (hk : Keep M N S) (hs : ∀ b ∈ S, b ∉ foot p C ∧ ¬ inBlk C.fsA b) : ChipAt N p C := by
  have hn : ∀ b ∈ foot p C, b ∉ S := fun b hb hS => (hs b hS).1 hb
  refine ⟨hk.get hw h.main (hn _ (by simp [foot])), hk.get hw h.tab (hn _ (by simp [foot])), fun B hB => hk.get hw (h.dat B hB) (hn _ ?_), SlAt.keep h.flt hw hk (fun b hb hS => (hs b hS).2 hb), h.nd, h.fsx, h.one, h.fsl, h.may, h.len, h.ful, h.cby0⟩
  simp only [foot, List.mem_cons, List.mem_map]
  exact .inr (.inr ⟨B, hB, rfl⟩)

structure Step (M N : Mem) (p : Nat) (C C' : Chip) : Prop where
  at' : ChipAt N p C'
  keep : Keep M N (foot p C)
  foot : foot p C' = foot p C
  fsA : C'.fsA = C.fsA
  fs : C'.fs = C.fs
  g : C'.g = C.g

theorem Step.refl {M : Mem} {p : Nat} {C : Chip} (hw : M.WF) (h : ChipAt M p C) : Step M M p C C := ⟨h, Keep.refl hw, rfl, rfl, rfl, rfl⟩
theorem Step.of0 {M N : Mem} {p : Nat} {C : Chip} (hw : M.WF) (h : ChipAt M p C) (hk : Keep M N []) : Step M N p C C := ⟨h.keep hw hk, hk.mono (by simp), rfl, rfl, rfl, rfl⟩
theorem Step.trans {M N P : Mem} {p : Nat} {C C' C'' : Chip} (h : Step M N p C C') (k : Step N P p C' C'') : Step M P p C C'' :=
  ⟨k.at', h.keep.trans k.keep (fun _ h _ => h) (fun _ hb _ => h.foot ▸ hb), k.foot.trans h.foot, k.fsA.trans h.fsA, k.fs.trans h.fs, k.g.trans h.g⟩
theorem Step.pre {M N P : Mem} {p : Nat} {C C' : Chip} (h : Keep M N []) (k : Step N P p C C') : Step M P p C C' :=
  ⟨k.at', h.trans k.keep (by simp) (fun _ hb _ => hb), k.foot, k.fsA, k.fs, k.g⟩
theorem Step.wf {M N : Mem} {p : Nat} {C C' : Chip} (h : Step M N p C C') : N.WF := h.keep.wf
theorem Step.post {M N P : Mem} {p : Nat} {C C' : Chip} (h : Step M N p C C') (k : Keep N P []) : Step M P p C C' :=
  ⟨h.at'.keep h.wf k, h.keep.trans k (fun _ h _ => h) (by simp), h.foot, h.fsA, h.fs, h.g⟩

/-! ## What is written -/

theorem nd_p {p : Nat} {C : Chip} (h : (foot p C).Nodup) : p ≠ C.bb ∧ ∀ B ∈ C.bs, p ≠ B.b ∧ C.bb ≠ B.b := by
  unfold foot at h
  rw [List.nodup_cons, List.nodup_cons] at h
  simp only [List.mem_cons, List.mem_map, not_or, not_exists, not_and] at h
  exact ⟨h.1.1, fun B hB => ⟨fun e => h.1.2 B hB e.symm, fun e => h.2.1 B hB e.symm⟩⟩

/-- The chip's own cells. -/
theorem ChipAt.set {M : Mem} {p : Nat} {C : Chip} (h : ChipAt M p C) (hw : M.WF) (C' : Chip) (h1 : C'.g = C.g) (h2 : C'.fsA = C.fsA) (h3 : C'.fs = C.fs) (h4 : C'.bb = C.bb) (h5 : C'.bs = C.bs) (h6 : 0 ≤ C'.cby) :
    Step M (M.put p (.cells (chipC C') true)) p C C' := by
  have hp := nd_p h.nd
  have hf : _root_.Go.Proofs.YtfkkmhadipfobaaGreat.foot p C' = _root_.Go.Proofs.YtfkkmhadipfobaaGreat.foot p C := by unfold foot; rw [h4, h5]
  refine ⟨⟨by rw [Mem.get_put, if_pos rfl], ?_, ?_, ?_, by rw [hf]; exact h.nd, by rw [hf, h2]; exact h.fsx, by rw [h2]; exact h.one, by rw [h3]; exact h.fsl, by rw [h1]; exact h.may, by rw [h1, h5]; exact h.len, by rw [h1, h5]; exact h.ful, h6⟩,
    (Keep.put hw (hw _ _ h.main) _).mono (fun b hb _ => by simp only [List.mem_singleton] at hb; subst hb; simp [foot]), hf, h2, h3, h1⟩
  · rw [h4, h5, Mem.get_put, if_neg (fun e => hp.1 e.symm)]; exact h.tab
  · rw [h5]
    intro B hB
    rw [Mem.get_put, if_neg (fun e => (hp.2 B hB).1 e.symm)]; exact h.dat B hB
  · rw [h2, h3]
    refine SlAt.mono h.flt fun b r hb hr => ?_
    rw [Mem.get_put, if_neg (fun e => h.fsx b hb (by rw [e]; simp [foot]))]; exact hr

/-! ## What is read -/

theorem ty83 : tb.ty.get 83 = some ⟨.st [(0, 5, true), (5, 1, false), (6, 1, false), (7, 1, false), (8, 1, false), (9, 1, false), (10, 3, true), (13, 1, false)], 14, 144, [.int .i64 0, .int .i64 0, .int .i64 0, .int .i64 0, .int .i64 0, .slice none 0 0, .slice none 0 0, .bool false, .int .i64 0, .int .i64 0, .int .i64 0, .int .i64 0, .int .u8 0, .int .i64 0], some [40, 76, 81, 4, 3, 3, 47, 3]⟩ := by kernel_rfl
theorem ty81 : tb.ty.get 81 = some ⟨.sli 86, 1, 24, [.slice none 0 0], none⟩ := by kernel_rfl
theorem ty86 : tb.ty.get 86 = some ⟨.st [(0, 1, false), (1, 1, false), (2, 1, false), (3, 1, false)], 4, 48, [.slice none 0 0, .int .i64 0, .int .i64 0, .int .i64 0], some [23, 3, 3, 3]⟩ := by kernel_rfl
theorem ty47 : tb.ty.get 47 = some ⟨.st [(0, 1, false), (1, 1, false), (2, 1, false)], 3, 24, [.int .i64 0, .int .i64 0, .int .u8 0], some [3, 3, 5]⟩ := by kernel_rfl

section
variable {p : Nat} {M : Mem}
theorem fa0 : eFA tb 83 (.ptr p 0) 0 M = some (.ptr p 0, M) := eFA_some (by unfold evFieldAddr; rw [ty83]; rfl)
theorem fa1 : eFA tb 83 (.ptr p 0) 1 M = some (.ptr p 5, M) := eFA_some (by unfold evFieldAddr; rw [ty83]; rfl)
theorem fa2 : eFA tb 83 (.ptr p 0) 2 M = some (.ptr p 6, M) := eFA_some (by unfold evFieldAddr; rw [ty83]; rfl)
theorem fa3 : eFA tb 83 (.ptr p 0) 3 M = some (.ptr p 7, M) := eFA_some (by unfold evFieldAddr; rw [ty83]; rfl)
theorem fa4 : eFA tb 83 (.ptr p 0) 4 M = some (.ptr p 8, M) := eFA_some (by unfold evFieldAddr; rw [ty83]; rfl)
theorem fa5 : eFA tb 83 (.ptr p 0) 5 M = some (.ptr p 9, M) := eFA_some (by unfold evFieldAddr; rw [ty83]; rfl)
theorem fa6 : eFA tb 83 (.ptr p 0) 6 M = some (.ptr p 10, M) := eFA_some (by unfold evFieldAddr; rw [ty83]; rfl)
theorem fa7 : eFA tb 83 (.ptr p 0) 7 M = some (.ptr p 13, M) := eFA_some (by unfold evFieldAddr; rw [ty83]; rfl)

variable {C : Chip} (h : ChipAt M p C)
include h
theorem ld_g : eLd tb 40 (.ptr p 0) M = some (geoA C.g, M) := eLd_some (ld_agg (n := 5) ty40 rfl rfl h.main (by simp [chipC]))
theorem ld_fs : eLd tb 76 (.ptr p 5) M = some (C.fsA, M) := eLd_some (ld_cell ty76 rfl h.main rfl)
theorem ld_bs : eLd tb 81 (.ptr p 6) M = some (blksA C, M) := eLd_some (ld_cell ty81 rfl h.main rfl)
theorem ld_off : eLd tb 4 (.ptr p 7) M = some (.val (.bool C.off), M) := eLd_some (ld_cell ty4 rfl h.main rfl)
theorem ld_ops : eLd tb 3 (.ptr p 8) M = some (i64 C.ops, M) := eLd_some (ld_cell ty3 rfl h.main rfl)
theorem ld_cuts : eLd tb 3 (.ptr p 9) M = some (i64 C.cuts, M) := eLd_some (ld_cell ty3 rfl h.main rfl)
theorem ld_turn : eLd tb 3 (.ptr p 13) M = some (i64 C.turn, M) := eLd_some (ld_cell ty3 rfl h.main rfl)
theorem len_bs : eLen tb false 81 (blksA C) M = some (i64 (C.bs.length : Int), M) := eLen_some (by unfold evLenCap blksA; rw [ty81]; rfl)

theorem ia_bs {i : Nat} (hi : i < C.bs.length) : eIA tb 81 (blksA C) (.val (.int .i64 (i : Int))) M = some (.ptr C.bb (i * 4), M) := eIA_some (by
  unfold evIndexAddr blksA
  rw [ty81]
  have h0 : decide (0 ≤ (i : Int)) = true := by simp
  simp only [ty86, Int.toNat_natCast, blt_of hi, cond_true, h0, Nat.zero_add])
theorem ld_by {i : Nat} (hi : i < C.bs.length) : eLd tb 23 (.ptr C.bb (i * 4)) M = some (.sl C.bs[i].b 0 C.bs[i].by'.length C.bs[i].by'.length none, M) := eLd_some (ld_cell ty23 rfl h.tab (by
  have := flat_get blkC_len hi (j := 0) (by omega)
  rw [Nat.add_zero] at this; rw [this]; rfl))
theorem ld_done {i : Nat} (hi : i < C.bs.length) : eLd tb 3 (.ptr C.bb (i * 4 + 3)) M = some (i64 C.bs[i].done, M) := eLd_some (ld_cell ty3 rfl h.tab (by rw [flat_get blkC_len hi (by omega)]; rfl))
/-- A cell of the chip is written. -/
theorem st_chip {t : TypeId} {ti : TI} {o : Nat} {v : AV} (C' : Chip) (ht : tb.ty.get t = some ti) (hs : ti.size = 1) (hv : v.one = true) (ho : o < 14) (hc : chipC C' = (chipC C).set o v) :
    eSt tb t (.ptr p o) v M = some (undefA, M.put p (.cells (chipC C') true)) := by
  rw [hc]
  exact eSt_some (st_cell ht hs hv h.main (by simpa [chipC] using ho))
end

end Go.Proofs.YtfkkmhadipfobaaGreat

/- Power, operations, what is asked. -/
set_option maxRecDepth 100000
namespace Go.Proofs.YtfkkmhadipfobaaGreat
open Go.AM

theorem nil_eq {p : Nat} {M : Mem} {xo yo : Operand} : eBin tb .eql 33 xo yo (.ptr p 0) (.val (.pointer none)) M = some (.val (.bool false), M) := eBin_some (by kernel_rfl)
theorem nil_ne {p : Nat} {M : Mem} {xo yo : Operand} : eBin tb .neq 33 xo yo (.ptr p 0) (.val (.pointer none)) M = some (.val (.bool true), M) := eBin_some (by kernel_rfl)

/-! ## One operation more -/

def bgn (C : Chip) : Bool := !(C.turn == 0) && !(iAdd .i64 C.ops 1 != C.turn)
def bgC (C : Chip) : Chip := if bgn C = true then { C with ops := iAdd .i64 C.ops 1, turn := 0, off := true, cuts := iAdd .i64 C.cuts 1 } else { C with ops := iAdd .i64 C.ops 1 }

theorem c_begin (M : Mem) (hw : M.WF) (p : Nat) (C : Chip) (h : ChipAt M p C) : CallA tb.P 46 [.ptr p 0] M fun y N => y = .val (.bool (bgn C)) ∧ Step M N p C (bgC C) := by
  refine F46_ok ?_
  unfold F46
  have s1 := h.set hw { C with ops := iAdd .i64 C.ops 1 } rfl rfl rfl rfl rfl h.cby0
  have t1 := st_chip h { C with ops := iAdd .i64 C.ops 1 } (o := 8) (v := i64 (iAdd .i64 C.ops 1)) ty3 rfl rfl (by omega) rfl
  simp only [i64] at t1
  simp only [eNil_ptr, bindO_some, fa4, zP_ptr, ld_ops h, i64, zI_int, t1]
  generalize hN1 : M.put p (.cells (chipC { C with ops := iAdd .i64 C.ops 1 }) true) = N1 at s1
  have h1 := s1.at'
  have hw1 := s1.wf
  refine letP_i fun K hK => ?_
  have no : bgn C = false → K true := fun hb => by
    rw [hK]
    refine ⟨by rw [hb], ?_⟩
    unfold bgC
    rw [hb]
    exact s1
  have yes : bgn C = true → K false := fun hb => by
    rw [hK]
    have s2 := h1.set hw1 { C with ops := iAdd .i64 C.ops 1, turn := 0 } rfl rfl rfl rfl rfl h.cby0
    have t2 := st_chip h1 { C with ops := iAdd .i64 C.ops 1, turn := 0 } (o := 13) (v := i64 0) ty3 rfl rfl (by omega) rfl
    simp only [i64] at t2
    simp only [condB_false, eNil_ptr, bindO_some, fa7, zP_ptr, t2]
    generalize N1.put p (.cells (chipC { C with ops := iAdd .i64 C.ops 1, turn := 0 }) true) = N2 at s2
    have h2 := s2.at'
    have s3 := h2.set s2.wf { C with ops := iAdd .i64 C.ops 1, turn := 0, off := true } rfl rfl rfl rfl rfl h.cby0
    have t3 := st_chip h2 { C with ops := iAdd .i64 C.ops 1, turn := 0, off := true } (o := 7) (v := .val (.bool true)) ty4 rfl rfl (by omega) rfl
    simp only [eNil_ptr, bindO_some, fa3, zP_ptr, t3]
    generalize N2.put p (.cells (chipC { C with ops := iAdd .i64 C.ops 1, turn := 0, off := true }) true) = N3 at s3
    have h3 := s3.at'
    have s4 := h3.set s3.wf { C with ops := iAdd .i64 C.ops 1, turn := 0, off := true, cuts := iAdd .i64 C.cuts 1 } rfl rfl rfl rfl rfl h.cby0
    have t4 := st_chip h3 { C with ops := iAdd .i64 C.ops 1, turn := 0, off := true, cuts := iAdd .i64 C.cuts 1 } (o := 9) (v := i64 (iAdd .i64 C.cuts 1)) ty3 rfl rfl (by omega) rfl
    simp only [i64] at t4
    simp only [eNil_ptr, bindO_some, fa5, zP_ptr, ld_cuts h3, i64, zI_int, t4]
    refine ⟨by rw [hb], ?_⟩
    unfold bgC
    rw [if_pos hb]
    exact s1.trans (s2.trans (s3.trans s4))
  simp only [eNil_ptr, bindO_some, fa7, fa4, zP_ptr, ld_turn h1, ld_ops h1, i64, zI_int]
  refine condB_i (fun q => no (by unfold bgn; rw [q]; rfl)) (fun q => ?_)
  have hb : bgn C = !(iAdd .i64 C.ops 1 != C.turn) := by unfold bgn; rw [q]; rfl
  cases hq : (iAdd .i64 C.ops 1 != C.turn) with
  | true => exact no (by rw [hb, hq]; rfl)
  | false => exact yes (by rw [hb, hq]; rfl)

/-- What is answered ahead of an operation. -/
def askd (C : Chip) (b p : Int) : Int := if C.off = true then 9 else if isG C.g b p = true then 0 else 2

theorem c_asked (M : Mem) (hw : M.WF) (p : Nat) (C : Chip) (h : ChipAt M p C) (b k : Int) : CallA tb.P 45 [.ptr p 0, placeA b k] M fun y N => y = i64 (askd C b k) ∧ Keep M N [] := by
  refine F45_ok ?_
  unfold F45
  refine ⟨_, _, rfl, ?_⟩
  simp only [letP_eq]
  have hK := Keep.new hw (.cells [i64 b, i64 k] true)
  have hp := get_new M (.cells [i64 b, i64 k] true)
  have h1 := h.keep hw hK
  simp only [nil_eq, bindO_some, zB_bool, condB_false, eNil_ptr, fa3, zP_ptr, i64] at *
  simp only [ld_off h1, bindO_some, zB_bool]
  unfold askd
  refine condB_i (fun q => ⟨by rw [if_pos q], hK⟩) (fun q => ?_)
  rw [if_neg (by rw [q]; simp)]
  simp only [fa0, bindO_some, zP_ptr, ld_g h1]
  refine ⟨_, _, _, _, _, rfl, ?_⟩
  obtain ⟨_, _, l2⟩ := place_ld hp
  refine bindO_i (eLd_some l2) ?_
  refine ⟨_, _, rfl, ?_⟩
  refine (c_number _ hK.wf C.g h.may b k).mono ?_
  rintro y N ⟨⟨z, rfl, hz⟩, hk⟩
  simp only [i64, zI_int]
  rw [hz]
  refine condB_i (fun q => ⟨?_, hK.trans0 hk⟩) (fun q => ⟨?_, hK.trans0 hk⟩)
  · have q : isG C.g b k = false := by simpa using q
    rw [q]; rfl
  · have q : isG C.g b k = true := by simpa using q
    rw [q]; rfl

end Go.Proofs.YtfkkmhadipfobaaGreat

/- What is told of a chip; a page; Read. -/
set_option maxRecDepth 100000
namespace Go.Proofs.YtfkkmhadipfobaaGreat
open Go.AM

/-! ## What is told -/

theorem c_on (M : Mem) (hw : M.WF) (p : Nat) (C : Chip) (h : ChipAt M p C) : CallA tb.P 26 [.ptr p 0] M fun y N => y = .val (.bool (!C.off)) ∧ N = M := by
  refine F26_ok ?_
  unfold F26
  simp only [letP_eq, nil_ne, bindO_some, zB_bool, condB_true, eNil_ptr, fa3, zP_ptr, ld_off h, and_self]

theorem c_badOf (M : Mem) (hw : M.WF) (p : Nat) (C : Chip) (h : ChipAt M p C) (b : Int) : CallA tb.P 29 [.ptr p 0, i64 b] M fun y N => y = .val (.bool (badF C.fs b)) ∧ Keep M N [] := by
  refine F29_ok ?_
  unfold F29
  simp only [letP_eq, nil_ne, bindO_some, zB_bool, condB_true, eNil_ptr, fa1, zP_ptr, ld_fs h, i64, zI_int]
  refine (c_bad M hw _ _ h.flt (by have := h.fsl; omega) b).mono ?_
  rintro y N ⟨rfl, hk⟩
  simp only [zB_bool]
  exact ⟨by trivial, hk⟩

def failed (C : Chip) (b : Int) : Bool := decide (0 ≤ b) && match C.bs[b.toNat]? with
  | some B => failsF C.fs b B.done
  | none => false

theorem c_failed (M : Mem) (hw : M.WF) (p : Nat) (C : Chip) (h : ChipAt M p C) (b : Int) : CallA tb.P 124 [.ptr p 0, i64 b] M fun y N => y = .val (.bool (failed C b)) ∧ Keep M N [] := by
  refine F124_ok ?_
  unfold F124
  simp only [letP_eq, nil_ne, bindO_some, zB_bool, condB_true, eNil_ptr, fa1, fa2, zP_ptr, ld_fs h, ld_bs h, len_bs h, i64, zI_int]
  unfold failed
  refine condB_i (fun q => ?_) (fun q => ?_)
  rotate_left
  · have q : ¬ 0 ≤ b := by simpa using q
    exact ⟨by rw [decide_eq_false q]; rfl, Keep.refl hw⟩
  have q : 0 ≤ b := by simpa using q
  obtain ⟨i, rfl⟩ : ∃ i : Nat, b = (i : Int) := ⟨b.toNat, by omega⟩
  rw [decide_eq_true q, Bool.true_and, Int.toNat_natCast]
  refine condB_i (fun q => ?_) (fun q => ?_)
  rotate_left
  · have q : ¬ i < C.bs.length := by simpa using q
    exact ⟨by rw [List.getElem?_eq_none (by omega)], Keep.refl hw⟩
  have hi : i < C.bs.length := by simpa using q
  rw [List.getElem?_eq_getElem hi]
  simp only [ia_bs h hi, bindO_some, zP_ptr, ld_done h hi, i64, zI_int]
  refine (c_fails M hw _ _ h.flt (by have := h.fsl; omega) _ _).mono ?_
  rintro y N ⟨rfl, hk⟩
  simp only [zB_bool]
  exact ⟨by trivial, hk⟩

def wearOf (C : Chip) (b : Int) : Int := if 0 ≤ b then (match C.bs[b.toNat]? with | some B => B.wear | none => 0) else 0
/-! ## A page -/

theorem isG_iff {g : Geo} {b k : Int} : isG g b k = true ↔ (0 ≤ b ∧ b ≤ g.bl - 1) ∧ 0 ≤ k ∧ k ≤ g.pg - 1 := by
  unfold isG inB
  simp only [Bool.and_eq_true, decide_eq_true_eq]

/-- A place that is there, in numbers. -/
theorem ChipAt.place {M : Mem} {p : Nat} {C : Chip} (h : ChipAt M p C) {b k : Int} (hp : isG C.g b k = true) :
    ∃ (i j : Nat) (hi : i < C.bs.length), b = (i : Int) ∧ k = (j : Int) ∧ j < C.g.pg.toNat ∧ C.g.pg.toNat ≤ 8 ∧ 40 ≤ rawN C.g ∧ rawN C.g ≤ 80 ∧ C.bs[i].by'.length = C.g.pg.toNat * rawN C.g ∧ (j + 1) * rawN C.g ≤ C.bs[i].by'.length ∧ C.bs[i].by'.length ≤ 640 := by
  obtain ⟨⟨h1, h2⟩, h3, h4⟩ := isG_iff.1 hp
  have hm := mayG_iff.1 h.may
  have hi : b.toNat < C.bs.length := by rw [h.len]; omega
  have hf := h.ful _ (List.getElem_mem hi)
  have hr : 40 ≤ rawN C.g ∧ rawN C.g ≤ 80 := by unfold rawN; omega
  have hpg : C.g.pg.toNat ≤ 8 := by omega
  have hj : k.toNat + 1 ≤ C.g.pg.toNat := by omega
  refine ⟨b.toNat, k.toNat, hi, by omega, by omega, by omega, hpg, hr.1, hr.2, hf, ?_, ?_⟩
  · rw [hf]; exact Nat.mul_le_mul_right _ hj
  · rw [hf]
    have : C.g.pg.toNat * rawN C.g ≤ 8 * 80 := Nat.mul_le_mul hpg hr.2
    omega

def pageB (B : Blk) (raw j : Nat) : List (BitVec 8) := (B.by'.drop (j * raw)).take raw

theorem c_page (M : Mem) (hw : M.WF) (p : Nat) (C : Chip) (h : ChipAt M p C) {i j : Nat} (hi : i < C.bs.length) (hp : isG C.g i j = true) :
    CallA tb.P 47 [.ptr p 0, placeA i j] M fun y N => y = .sl C.bs[i].b (j * rawN C.g) (rawN C.g) (C.bs[i].by'.length - j * rawN C.g) none ∧ Keep M N [] := by
  obtain ⟨i', j', hi', e1, e2, hj, hpg, hr1, hr2, hf, hle, hmax⟩ := h.place hp
  have e1 : i' = i := by omega
  have e2 : j' = j := by omega
  subst e1 e2
  refine F47_ok ?_
  unfold F47
  refine ⟨_, _, rfl, ?_⟩
  refine letP_i fun M3 hM3 => ?_
  have hM3' : M3 = M.new (.cells [i64 (i' : Int), i64 (j' : Int)] true) := hM3
  have hK : Keep M M3 [] := by rw [hM3']; exact Keep.new hw _
  have hpl : M3.get M.next = some (.cells [i64 (i' : Int), i64 (j' : Int)] true) := by rw [hM3']; exact get_new _ _
  clear hM3 hM3'
  have h1 := h.keep hw hK
  simp only [eNil_ptr, bindO_some, fa0, zP_ptr, ld_g h1]
  refine ⟨_, _, _, _, _, rfl, ?_⟩
  refine (c_raw _ hK.wf C.g h.may).mono ?_
  rintro y N ⟨rfl, hk⟩
  have h2 := h1.keep hK.wf hk
  obtain ⟨p0, p1, _⟩ := place_ld (hk.get hK.wf hpl (by simp))
  have hb1 : j' * rawN C.g ≤ 640 := by
    have : (j' + 1) * rawN C.g = j' * rawN C.g + rawN C.g := by rw [Nat.add_mul, Nat.one_mul]
    omega
  have m1 : iMul .i64 (j' : Int) (rawN C.g : Int) = ((j' * rawN C.g : Nat) : Int) := by
    rw [iMul, ← Int.natCast_mul, wrap_i64' (by omega) (by omega)]
  have m2 : iMul .i64 (iAdd .i64 (j' : Int) 1) (rawN C.g : Int) = (((j' + 1) * rawN C.g : Nat) : Int) := by
    rw [iInc (by omega), iMul, ← Int.natCast_mul, wrap_i64' (by omega) (by omega)]
  simp only [i64, zI_int, eNil_ptr, bindO_some, fa2, zP_ptr, ld_bs h2, eLd_some p0, eLd_some p1, ia_bs h2 hi, ld_by h2 hi, m1, m2]
  have hsl := slice_both (T := tb) ty23 ty5 (b := C.bs[i'].b) (o := 0) (n := C.bs[i'].by'.length) (c := C.bs[i'].by'.length) (l := j' * rawN C.g) (h := (j' + 1) * rawN C.g) (Nat.mul_le_mul_right _ (by omega)) hle (k1 := .i64) (k2 := .i64)
  have hd : (j' + 1) * rawN C.g - j' * rawN C.g = rawN C.g := by rw [Nat.add_mul, Nat.one_mul]; omega
  rw [AM.beq_false (show C.bs[i'].by'.length ≠ j' * rawN C.g by
    have : (j' + 1) * rawN C.g = j' * rawN C.g + rawN C.g := by rw [Nat.add_mul, Nat.one_mul]
    omega), cond_false, Nat.zero_add, hd] at hsl
  refine bindO_i (eSl_some hsl) ?_
  exact ⟨rfl, hK.trans0 hk⟩

/-- A page reads as its bytes. -/
theorem page_at {M : Mem} {p : Nat} {C : Chip} (h : ChipAt M p C) {i j : Nat} (hi : i < C.bs.length) (hp : isG C.g i j = true) :
    BytesAt M (.sl C.bs[i].b (j * rawN C.g) (rawN C.g) (C.bs[i].by'.length - j * rawN C.g) none) (pageB C.bs[i] (rawN C.g) j) ∧ (pageB C.bs[i] (rawN C.g) j).length = rawN C.g := by
  obtain ⟨i', j', hi', e1, e2, hj, hpg, hr1, hr2, hf, hle, hmax⟩ := h.place hp
  have e1 : i' = i := by omega
  have e2 : j' = j := by omega
  subst e1 e2
  have hs : (j' + 1) * rawN C.g = j' * rawN C.g + rawN C.g := by rw [Nat.add_mul, Nat.one_mul]
  have hl : (pageB C.bs[i'] (rawN C.g) j').length = rawN C.g := by
    unfold pageB
    rw [List.length_take, List.length_drop]; omega
  refine ⟨⟨by simp, .inr ⟨_, _, _, none, by rw [hl], ⟨by rw [hl]; omega, .inl rfl⟩, .inr ⟨_, _, h.dat _ (List.getElem_mem hi), by rw [hl, bvs_length]; omega, ?_⟩⟩⟩, hl⟩
  rw [hl, Nat.mul_one]
  unfold pageB bvs
  rw [List.map_take, List.map_drop]

/-! ## Read -/

def rdE (C : Chip) (b k : Int) : Int := if askd C b k = 0 then (if bgn C = true then 9 else 0) else askd C b k
def rdC (C : Chip) (b k : Int) : Chip := if askd C b k = 0 then bgC C else C
def rdB (C : Chip) (b k : Int) : List (BitVec 8) := if rdE C b k = 0 then (match C.bs[b.toNat]? with | some B => pageB B (rawN C.g) k.toNat | none => []) else []

theorem askd_zero {C : Chip} {b k : Int} (h : askd C b k = 0) : C.off = false ∧ isG C.g b k = true := by
  unfold askd at h
  split at h
  · omega
  · rename_i h1
    split at h
    · rename_i h2; exact ⟨by simpa using h1, h2⟩
    · omega

theorem bgC_bs (C : Chip) : (bgC C).bs = C.bs ∧ (bgC C).g = C.g ∧ (bgC C).fs = C.fs ∧ (bgC C).cby = C.cby ∧ (bgC C).cf = C.cf := by
  unfold bgC
  split <;> exact ⟨rfl, rfl, rfl, rfl, rfl⟩

theorem c_read (M : Mem) (hw : M.WF) (p : Nat) (C : Chip) (h : ChipAt M p C) (b k : Int) :
    CallA tb.P 21 [.ptr p 0, placeA b k] M fun y N => ∃ u, y = .tup [u, i64 (rdE C b k)] ∧ Gr N u (rdB C b k) ∧ (∀ c, inBlk u c → M.next ≤ c) ∧ Step M N p C (rdC C b k) := by
  refine F21_ok ?_
  unfold F21
  refine ⟨_, _, rfl, ?_⟩
  refine letP_i fun M3 hM3 => ?_
  have hM3' : M3 = M.new (.cells [i64 b, i64 k] true) := hM3
  have hK : Keep M M3 [] := by rw [hM3']; exact Keep.new hw _
  have hpl : M3.get M.next = some (.cells [i64 b, i64 k] true) := by rw [hM3']; exact get_new _ _
  clear hM3 hM3'
  have h1 := h.keep hw hK
  have hpn : M.next < M3.next := hK.wf _ _ hpl
  obtain ⟨_, _, l2⟩ := place_ld hpl
  refine bindO_i (eLd_some l2) ?_
  refine ⟨_, _, rfl, ?_⟩
  refine (c_asked _ hK.wf p C h1 b k).mono ?_
  rintro y N ⟨rfl, hk⟩
  have h2 := h1.keep hK.wf hk
  have hKN := hK.trans0 hk
  simp only [i64, zI_int]
  refine condB_i (fun q => ?_) (fun q => ?_)
  · have q : ¬ askd C b k = 0 := by simpa using q
    have e1 : rdE C b k = askd C b k := by unfold rdE; rw [if_neg q]
    refine ⟨.val (.slice none 0 0), by rw [e1], ?_, fun c hc => hc.elim, ?_⟩
    · unfold rdB
      rw [if_neg (by rw [e1]; exact q)]
      exact .inl ⟨rfl, rfl⟩
    · unfold rdC
      rw [if_neg q]
      exact Step.of0 hw h hKN
  have q : askd C b k = 0 := by simpa using q
  obtain ⟨hoff, hp⟩ := askd_zero q
  refine (c_begin N hk.wf p C h2).mono ?_
  rintro y N2 ⟨rfl, hs⟩
  simp only [zB_bool]
  refine condB_i (fun q2 => ?_) (fun q2 => ?_)
  · have e1 : rdE C b k = 9 := by unfold rdE; rw [if_pos q, if_pos q2]
    refine ⟨.val (.slice none 0 0), by rw [e1], ?_, fun c hc => hc.elim, ?_⟩
    · unfold rdB
      rw [if_neg (by rw [e1]; decide)]
      exact .inl ⟨rfl, rfl⟩
    · unfold rdC
      rw [if_pos q]
      exact hs.pre hKN
  have e1 : rdE C b k = 0 := by unfold rdE; rw [if_pos q, q2]; rfl
  have hplN : N2.get M.next = some (.cells [i64 b, i64 k] true) := hs.keep.get hk.wf (hk.get hK.wf hpl (by simp)) (fun hm => by
    -- the place lies apart
    have hlt : ∀ c ∈ foot p C, c < M.next := by
      intro c hc
      simp only [foot, List.mem_cons, List.mem_map] at hc
      rcases hc with rfl | rfl | ⟨B, hB, rfl⟩
      · exact hw _ _ h.main
      · exact hw _ _ h.tab
      · exact hw _ _ (h.dat B hB)
    have := hlt _ hm
    omega)
  obtain ⟨_, _, l3⟩ := place_ld hplN
  refine bindO_i (eLd_some l3) ?_
  refine ⟨_, _, rfl, ?_⟩
  have h3 := hs.at'
  obtain ⟨i, j, hi, rfl, rfl, _⟩ := h.place hp
  have hbb := bgC_bs C
  have hi3 : i < (bgC C).bs.length := by rw [hbb.1]; exact hi
  have hp3 : isG (bgC C).g i j = true := by rw [hbb.2.1]; exact hp
  refine (c_page N2 hs.wf p (bgC C) h3 hi3 hp3).mono ?_
  rintro y N3 ⟨rfl, hk3⟩
  have h4 := h3.keep hs.wf hk3
  obtain ⟨hpa, hpl⟩ := page_at h4 hi3 hp3
  have hm := mayG_iff.1 h4.may
  have hr : 40 ≤ rawN (bgC C).g ∧ rawN (bgC C).g ≤ 80 := by unfold rawN; omega
  refine (t_clone N3 hk3.wf _ _ hpa (by rw [hpl]; omega) (by rw [hpl]; omega)).mono ?_
  rintro y N4 ⟨hg, hk4, hfr⟩
  refine ⟨y, by rw [e1], ?_, fun c hc => Nat.le_trans hKN.nxt (Nat.le_trans hs.keep.nxt (Nat.le_trans hk3.nxt (hfr c hc))), ?_⟩
  · unfold rdB
    rw [if_pos e1, Int.toNat_natCast, Int.toNat_natCast, List.getElem?_eq_getElem hi]
    have : pageB (bgC C).bs[i] (rawN (bgC C).g) j = pageB C.bs[i] (rawN C.g) j := by simp only [hbb.1, hbb.2.1]
    rw [this] at hg
    exact hg
  · unfold rdC
    rw [if_pos q]
    exact (hs.pre hKN).post (hk3.trans0 hk4)

end Go.Proofs.YtfkkmhadipfobaaGreat

/- Program, Erase, Arm, Boot. -/
set_option maxRecDepth 100000
namespace Go.Proofs.YtfkkmhadipfobaaGreat
open Go.AM

theorem ChipAt.lt {M : Mem} {p : Nat} {C : Chip} (h : ChipAt M p C) (hw : M.WF) : ∀ c ∈ foot p C, c < M.next := by
  intro c hc
  simp only [foot, List.mem_cons, List.mem_map] at hc
  rcases hc with rfl | rfl | ⟨B, hB, rfl⟩
  · exact hw _ _ h.main
  · exact hw _ _ h.tab
  · exact hw _ _ (h.dat B hB)
theorem step_get {M N : Mem} {p : Nat} {C C' : Chip} (s : Step M N p C C') (hw : M.WF) {c : Nat} {r : Row} (hg : M.get c = some r) (hc : c ∉ foot p C) : N.get c = some r := s.keep.get hw hg hc

def Chip.upB (C : Chip) (i : Nat) (B : Blk) : Chip := { C with bs := C.bs.set i B }
section
variable {M : Mem} {p : Nat} {C : Chip} (h : ChipAt M p C) (hw : M.WF) {i : Nat} (hi : i < C.bs.length)
include h hw
end

/-! ## Bytes written over -/

def over (l : List (BitVec 8)) (o : Nat) (m : List (BitVec 8)) : List (BitVec 8) := l.take o ++ m ++ l.drop (o + m.length)
theorem setAt_bvs {l : List (BitVec 8)} {o : Nat} {m : List (BitVec 8)} (h : o + m.length ≤ l.length) : setAt (bvs l) o (bvs m) = bvs (over l o m) := by
  have h1 : bvs l = bvs (l.take o) ++ bvs ((l.drop o).take m.length) ++ bvs (l.drop (o + m.length)) := by
    rw [← bvs_append, ← bvs_append]
    congr 1
    conv => lhs; rw [← List.take_append_drop o l, ← List.take_append_drop m.length (l.drop o)]
    rw [List.drop_drop, List.append_assoc]
  have h2 := setAt_mid (bvs m) (bvs (l.take o)) (bvs (l.drop (o + m.length))) (bvs ((l.drop o).take m.length)) (by simp; omega)
  rw [bvs_length, List.length_take, Nat.min_eq_left (by omega)] at h2
  rw [h1, h2]
  unfold over
  rw [bvs_append, bvs_append]

/-! ## Program -/

def pgS (C : Chip) (cut : Bool) (i j : Nat) (d : List (BitVec 8)) : Chip × Int :=
  match C.bs[i]? with
  | none => (C, 0)
  | some B =>
    if failsF C.fs i B.done = true then (C, 10)
    else if (j : Int) ≠ B.next then (C, 11)
    else if cut = true then (C.upB i { B with by' := over B.by' (j * rawN C.g) (d.take (min C.cby.toNat d.length)), next := iAdd .i64 B.next 1 }, 0)
    else (C.upB i { B with by' := over B.by' (j * rawN C.g) d, next := iAdd .i64 B.next 1, done := iAdd .i64 B.done 1 }, 0)
def pgR (C : Chip) (b k : Int) (d : List (BitVec 8)) : Chip × Int :=
  if askd C b k = 0 then
    (if d.length = rawN C.g then ((pgS (bgC C) (bgn C) b.toNat k.toNat d).1, if bgn C = true then 9 else (pgS (bgC C) (bgn C) b.toNat k.toNat d).2) else (C, 2))
  else (C, askd C b k)

end Go.Proofs.YtfkkmhadipfobaaGreat

/- Erase, Arm, Boot. -/
set_option maxRecDepth 100000
namespace Go.Proofs.YtfkkmhadipfobaaGreat
open Go.AM
/-! ## Arm, Boot -/

def cutA (op by' : Int) (f : BitVec 8) : AV := .agg [i64 op, i64 by', bv8 f]
def armR (C : Chip) (op by' : Int) (f : BitVec 8) : Chip × Int :=
  if C.off = true then (C, 9)
  else if op < 1 ∨ op > 1073741824 ∨ by' < 0 ∨ by' > 1073741824 then (C, 2)
  else ({ C with cop := op, cby := by', cf := f, turn := iAdd .i64 C.ops op }, 0)

theorem c_arm (M : Mem) (hw : M.WF) (p : Nat) (C : Chip) (h : ChipAt M p C) (op by' : Int) (f : BitVec 8) :
    CallA tb.P 20 [.ptr p 0, cutA op by' f] M fun y N => y = i64 (armR C op by' f).2 ∧ Step M N p C (armR C op by' f).1 := by
  refine F20_ok ?_
  unfold F20
  refine ⟨_, _, _, rfl, ?_⟩
  refine letP_i fun M4 hM4 => ?_
  have hM4' : M4 = M.new (.cells [i64 op, i64 by', bv8 f] true) := hM4
  have hK : Keep M M4 [] := by rw [hM4']; exact Keep.new hw _
  have hbx : M4.get M.next = some (.cells [i64 op, i64 by', bv8 f] true) := by rw [hM4']; exact get_new _ _
  clear hM4 hM4'
  have h1 := h.keep hw hK
  have s0 := Step.of0 hw h hK
  have hpn : M.next ∉ foot p C := fun hm => by have := h.lt hw _ hm; omega
  have k0 : eLd tb 3 (.ptr M.next 0) M4 = some (i64 op, M4) := eLd_some (ld_cell ty3 rfl hbx rfl)
  have k1 : eLd tb 3 (.ptr M.next 1) M4 = some (i64 by', M4) := eLd_some (ld_cell ty3 rfl hbx rfl)
  have kA : eLd tb 47 (.ptr M.next 0) M4 = some (cutA op by' f, M4) := eLd_some (ld_agg (n := 3) ty47 rfl rfl hbx (by simp))
  simp only [nil_eq, bindO_some, zB_bool, condB_false, eNil_ptr, fa3, zP_ptr, ld_off h1]
  unfold armR
  refine condB_i (fun q => ⟨by rw [if_pos q]; rfl, by rw [if_pos q]; exact s0⟩) (fun q => ?_)
  rw [if_neg (by rw [q]; simp)]
  refine letP_i fun K hKK => ?_
  have bad : (op < 1 ∨ op > 1073741824 ∨ by' < 0 ∨ by' > 1073741824) → K true := fun hb => by
    rw [hKK]
    simp only [condB_true]
    rw [if_pos hb]
    exact ⟨rfl, s0⟩
  have good : ¬ (op < 1 ∨ op > 1073741824 ∨ by' < 0 ∨ by' > 1073741824) → K false := fun hb => by
    rw [hKK]
    simp only [condB_false]
    rw [if_neg hb]
    simp only [eNil_ptr, bindO_some, fa4, zP_ptr, kA]
    refine ⟨_, _, _, rfl, ?_⟩
    simp only [ld_ops h1, bindO_some, i64, zI_int, eNil_ptr, fa6, zP_ptr]
    simp only [i64] at k0
    simp only [k0, bindO_some, zI_int]
    have hset : setAt (chipC C) 10 [i64 op, i64 by', bv8 f] = chipC { C with cop := op, cby := by', cf := f } := rfl
    have hst : evStore tb 47 (.ptr p 10) (cutA op by' f) M4 = some (M4.put p (.cells (chipC { C with cop := op, cby := by', cf := f }) true)) := by
      have := st_any (T := tb) (x := cutA op by' f) (n := 3) (o := 10) ty47 rfl rfl h1.main (by simp [chipC]) (by intro v hv; simp only [cutA, AV.cells, List.mem_cons, List.not_mem_nil, or_false] at hv; rcases hv with rfl | rfl | rfl <;> rfl)
      rw [this]; rfl
    have s1 := h1.set hK.wf { C with cop := op, cby := by', cf := f } rfl rfl rfl rfl rfl (by show 0 ≤ by'; omega)
    refine bindO_i (eSt_some hst) ?_
    have hbx2 := step_get s1 hK.wf hbx hpn
    generalize M4.put p (.cells (chipC { C with cop := op, cby := by', cf := f }) true) = N1 at *
    refine ⟨bindO_i (eLd_some (ld_cell ty3 rfl hbx2 rfl)) rfl, ?_⟩
    simp only [eNil_ptr, bindO_some, fa7, zP_ptr]
    have h2 := s1.at'
    have s2 := h2.set s1.wf { C with cop := op, cby := by', cf := f, turn := iAdd .i64 C.ops op } rfl rfl rfl rfl rfl h2.cby0
    have t2 := st_chip h2 { C with cop := op, cby := by', cf := f, turn := iAdd .i64 C.ops op } (o := 13) (v := i64 (iAdd .i64 C.ops op)) ty3 rfl rfl (by omega) rfl
    refine bindO_i t2 ?_
    exact ⟨by trivial, s0.trans (s1.trans s2)⟩
  simp only [i64] at k0 k1
  simp only [k0, k1, bindO_some, zI_int]
  refine condB_i (fun q => bad (.inl (by simpa using q))) (fun q1 => ?_)
  refine condB_i (fun q => bad (.inr (.inl (by simpa using q)))) (fun q2 => ?_)
  refine condB_i (fun q => bad (.inr (.inr (.inl (by simpa using q))))) (fun q3 => ?_)
  have q1 : ¬ op < 1 := by simpa using q1
  have q2 : ¬ op > 1073741824 := by simpa using q2
  have q3 : ¬ by' < 0 := by simpa using q3
  by_cases q4 : by' > 1073741824
  · rw [decide_eq_true q4]; exact bad (.inr (.inr (.inr q4)))
  · rw [decide_eq_false q4]; exact good (by omega)

end Go.Proofs.YtfkkmhadipfobaaGreat

/- What New calls: Clone, Mul, Repeat; bytes. -/
set_option maxRecDepth 100000
namespace Go.Proofs.YtfkkmhadipfobaaGreat
open Go.AM

/-! ## Clone -/

theorem nil_nil54 (M : Mem) : eBin tb .eql 76 (.tmp 3) (.const (.slice none 0 0)) (.val (.slice none 0 0)) (.val (.slice none 0 0)) M = some (.val (.bool true), M) := eBin_some (by kernel_rfl)
theorem nil_sl54 (M : Mem) (b o n c : Nat) (ex : Option Nat) : eBin tb .eql 76 (.tmp 3) (.const (.slice none 0 0)) (.sl b o n c ex) (.val (.slice none 0 0)) M = some (.val (.bool false), M) := by
  refine eBin_some ?_
  show (eqRes .eql (addrEq tb 76 (.sl b o n c ex) (.val (.slice none 0 0)))) = _
  unfold addrEq
  rw [ty76]
  rfl

theorem c_cloneF (M : Mem) (hw : M.WF) (x : AV) (fs : List Flt) (hx : FltsAt M x fs) (hl : fs.length ≤ 1000) :
    CallA tb.P 42 [x] M fun y N => FltsAt N y fs ∧ Keep M N [] ∧ (∀ c, inBlk y c → M.next ≤ c) ∧ (y = .val (.slice none 0 0) ∨ ∃ b o n c ex, y = .sl b o n c ex) := by
  refine F42_ok ?_
  unfold F42
  rcases hx.2 with ⟨rfl, h0⟩ | ⟨b, o, cp, ex, rfl, _⟩
  · rw [nil_nil54, bindO_some]
    simp only [zB_bool, condB_true]
    exact ⟨hx, Keep.refl hw, fun c h => h.elim, .inl (by trivial)⟩
  refine bindO_i (nil_sl54 _ _ _ _ _ _) ?_
  simp only [zB_bool, condB_false]
  refine letP_i fun M3 hM3 => ?_
  subst hM3
  have hw3 := hw.new (.cells [] true)
  have hx3 : FltsAt (M.new (.cells [] true)) (.sl b o fs.length cp ex) fs := SlAt.keep0 hx hw (Keep.new hw _)
  by_cases h0 : fs.length = 0
  · have hnil : fs = [] := List.eq_nil_of_length_eq_zero h0
    subst hnil
    have hs : SlAt 3 (M.new (.cells [] true)) (.sl M.next 0 0 0 none) 0 [] := ⟨rfl, .inr ⟨_, _, _, _, rfl, ⟨by omega, .inl rfl⟩, .inl rfl⟩⟩
    refine bindO_i (append_zero (T := tb) (k := 3) ty76 rfl ty80 rfl hs hx3) ?_
    exact ⟨hs, Keep.new hw _, fun c hc => by exact absurd rfl hc.1, .inr ⟨_, _, _, _, _, rfl⟩⟩
  · have hfl : (fs.flatMap fltC).length = fs.length * 3 := flat_length fltC_len fs
    have hap : evAppend tb 76 76 (.sl M.next 0 0 0 none) (.sl b o fs.length cp ex) (M.new (.cells [] true)) = some (.sl (M.next + 1) 0 fs.length fs.length (some 3), (M.new (.cells [] true)).new (.cells (fs.flatMap fltC) true)) := by
      unfold evAppend isInt
      rw [ty76]
      simp only [ty80, SlAt.evLen hx3, SlAt.evFirst hx3, hfl, AM.beq_self, cond_true, Nat.zero_add, ble_not (show ¬ fs.length ≤ 0 by omega), cond_false]
      unfold evGrow roomy
      simp only [Nat.zero_add, ble_of (show (3 * fs.length + 4096) * 24 ≤ 281474976710656 by omega), ble_of (show fs.length ≤ 1152921504606846976 by omega), cond_true]
      rfl
    refine bindO_i hap ?_
    refine ⟨⟨hfl, .inr ⟨_, _, _, _, rfl, ⟨Nat.le_refl _, .inr rfl⟩, .inr ⟨fs.flatMap fltC, true, get_new (M.new (.cells [] true)) _, by omega, by rw [List.drop_zero, List.take_of_length_le (by omega)]⟩⟩⟩, (Keep.new hw _).trans0 (Keep.new hw3 _), fun c hc => by have := hc.2; omega, .inr ⟨_, _, _, _, _, rfl⟩⟩

/-! ## Mul, Repeat -/

theorem mul_fin : ∀ n : Fin 1000, (iAdd .u64 (iAdd .u64 (iMul .u64 (iShr .u64 1 32) (iShr .u64 (n.val : Int) 32)) (iShr .u64 (iAdd .u64 (iMul .u64 (iShr .u64 1 32) (iAnd .u64 (n.val : Int) 4294967295)) (iShr .u64 (iMul .u64 (iAnd .u64 1 4294967295) (iAnd .u64 (n.val : Int) 4294967295)) 32)) 32)) (iShr .u64 (iAdd .u64 (iAnd .u64 (iAdd .u64 (iMul .u64 (iShr .u64 1 32) (iAnd .u64 (n.val : Int) 4294967295)) (iShr .u64 (iMul .u64 (iAnd .u64 1 4294967295) (iAnd .u64 (n.val : Int) 4294967295)) 32)) 4294967295) (iMul .u64 (iAnd .u64 1 4294967295) (iShr .u64 (n.val : Int) 32))) 32)) = 0 ∧ iMul .u64 1 (n.val : Int) = n.val := by decide +kernel

theorem c_mul (M : Mem) (n : Nat) (hn : n < 1000) : CallA tb.P 74 [.val (.int .u64 1), .val (.int .u64 (n : Int))] M fun y N => y = .tup [.val (.int .u64 0), .val (.int .u64 (n : Int))] ∧ N = M := by
  refine F74_ok ?_
  unfold F74
  simp only [zI_int]
  have h126 : CallA tb.P 105 [.val (.int .u64 1), .val (.int .u64 (n : Int))] M fun y N => y = .tup [.val (.int .u64 0), .val (.int .u64 (n : Int))] ∧ N = M := by
    refine F105_ok ?_
    unfold F105
    simp only [zI_int]
    obtain ⟨h1, h2⟩ := mul_fin ⟨n, hn⟩
    simp only at h1 h2
    exact ⟨by rw [h1, h2], by trivial⟩
  refine h126.mono ?_
  rintro y N ⟨rfl, rfl⟩
  exact ⟨_, _, rfl, rfl, rfl⟩

/-- The beginning of a slice. -/
theorem first_some {M : Mem} {b o n c m : Nat} {ex : Option Nat} {cs : List AV} {rw' : Bool} (hg : M.get b = some (.cells cs rw')) (hm : m ≤ n) (h0 : m ≠ 0) (hle : o + m ≤ cs.length) : evFirst 1 m (.sl b o n c ex) M = some ((cs.drop o).take m) := by
  unfold evFirst
  simp only [ble_of hm, cond_true, AM.beq_ne h0, cond_false]
  unfold Mem.cellsAt
  rw [hg]
  simp only [Nat.mul_one, ble_of hle, cond_true]

theorem c_repeat (M : Mem) (hw : M.WF) (x : AV) (v : BitVec 8) (hx : BytesAt M x [v]) (n : Nat) (h1 : 1 ≤ n) (hn : n < 1000) :
    CallA tb.P 43 [x, i64 (n : Int)] M fun y N => y = .sl M.next 0 n n none ∧ N = M.new (.cells (bvs (List.replicate n v)) true) := by
  refine F43_ok ?_
  unfold F43
  simp only [i64, zI_int]
  refine condB_i (fun h => by exfalso; simp at h; omega) (fun _ => ?_)
  refine bindO_i (eLen_some hx.len) ?_
  simp only [zI_int]
  have w1 : IntKind.wrap .u64 (([v].length : Nat) : Int) = 1 := rfl
  have w2 : IntKind.wrap .u64 (n : Int) = (n : Int) := by rw [wrap_u64]; omega
  rw [w1, w2]
  refine (c_mul M n hn).mono ?_
  rintro y N ⟨rfl, rfl⟩
  refine ⟨_, _, rfl, ?_⟩
  refine letP_i fun K hK => ?_
  refine condB_i (fun h => by simp at h) (fun _ => ?_)
  rw [show decide ((n : Int) > 9223372036854775807) = false by rw [decide_eq_false_iff_not]; omega, hK]
  simp only [condB_false]
  have w3 : IntKind.wrap .i64 (n : Int) = (n : Int) := wrap_i64' (by omega) (by omega)
  rw [w3]
  have hmk := make_sl (T := tb) (M := N) ty23 rfl ty5 (l := n) (c := n) (by omega) (by simp only; omega) (by omega) (k1 := .i64) (k2 := .i64)
  simp only [ofVs, ofV, repA_one'] at hmk
  have hz : List.replicate n (AV.val (.int .u8 0)) = bvs (List.replicate n 0#8) := by simp [bvs, bv8]
  rw [hz] at hmk
  refine bindO_i hmk ?_
  have hx1 : BytesAt (N.new (.cells (bvs (List.replicate n 0#8)) true)) x [v] := SlAt.keep0 hx hw (Keep.new hw _)
  have hcp : evCopy tb 23 (.sl N.next 0 n n none) x (N.new (.cells (bvs (List.replicate n 0#8)) true)) = some (.val (.int .i64 1), N.new (.cells (bvs (List.replicate 1 v ++ List.replicate (n - 1) 0#8)) true)) := by
    unfold evCopy
    rw [ty23]
    simp only [ty5]
    have he1 : evLen (.sl N.next 0 n n none) = some n := rfl
    have hm : Nat.min [v].length n = [v].length := Nat.min_eq_left h1
    rw [he1, SlAt.evLen hx1]
    simp only [hm, SlAt.evFirst hx1]
    have hst : (N.new (.cells (bvs (List.replicate n 0#8)) true)).storeAt N.next 0 (bvs [v]) = some (N.new (.cells (bvs (List.replicate 1 v ++ List.replicate (n - 1) 0#8)) true)) := by
      unfold Mem.storeAt
      rw [Mem.get_new, if_pos rfl]
      simp only [bvs_length, List.length_replicate, List.length_cons, List.length_nil, ble_of (show 0 + (0 + 1) ≤ n by omega), cond_true, ones_of (bvs_one [v]), setAt_bvs (show 0 + [v].length ≤ (List.replicate n 0#8).length by simp; omega), Mem.new_put]
      unfold over
      simp
    rw [hst]
    rfl
  refine bindO_i hcp ?_
  simp only [zI_int]
  refine ⟨fun z q P => ∃ k : Nat, z = k ∧ q = n - k ∧ 1 ≤ k ∧ k ≤ n ∧ P = N.new (.cells (bvs (List.replicate k v ++ List.replicate (n - k) 0#8)) true), ⟨n - 1, 1, rfl, rfl, Nat.le_refl _, h1, rfl⟩, ?_⟩
  rintro _ z q P ⟨k, rfl, rfl, hk1, hk, rfl⟩
  have hlen : ∀ P : Mem, evLenCap tb false 23 (.sl N.next 0 n n none) P = some n := fun P => by unfold evLenCap; rw [ty23]; rfl
  refine bindO_i (eLen_some (hlen _)) ?_
  simp only [zI_int]
  refine condB_i (fun hlt => ?_) (fun hge => ?_)
  rotate_left
  · have hge : k = n := by have : ¬ (k : Int) < n := by simpa using hge
                           omega
    subst hge
    refine ⟨by trivial, ?_⟩
    rw [Nat.sub_self, List.replicate_zero, List.append_nil]
  have hlt : k < n := by simpa using hlt
  have hs1 : evSliceAt tb 23 (.sl N.next 0 n n none) (some (.val (.int .i64 (k : Int)))) none none = some (.sl N.next k (n - k) (n - k) none) := by
    unfold evSliceAt evSlice
    rw [ty23]
    simp only [ty5, sliceB, bndV_nat hk, Nat.mul_one, AM.beq_ne (show n ≠ k by omega), cond_false, Nat.zero_add]
  have hs2 : evSliceAt tb 23 (.sl N.next 0 n n none) none (some (.val (.int .i64 (k : Int)))) none = some (.sl N.next 0 k n none) := by
    unfold evSliceAt evSlice
    rw [ty23]
    simp only [ty5, sliceB, bndV_nat hk, Nat.mul_one, AM.beq_ne (show n ≠ 0 by omega), cond_false, Nat.zero_add, Nat.sub_zero, Nat.zero_mul]
  refine bindO_i (eSl_some hs1) ?_
  refine bindO_i (eSl_some hs2) ?_
  have hg : (N.new (.cells (bvs (List.replicate k v ++ List.replicate (n - k) 0#8)) true)).get N.next = some (.cells (bvs (List.replicate k v ++ List.replicate (n - k) 0#8)) true) := get_new _ _
  have hcl : (bvs (List.replicate k v ++ List.replicate (n - k) 0#8)).length = n := by simp; omega
  obtain ⟨m, hm⟩ : ∃ m, m = Nat.min k (n - k) := ⟨_, rfl⟩
  have hmk' : m ≤ k := by rw [hm]; exact Nat.min_le_left _ _
  have hmn : m ≤ n - k := by rw [hm]; exact Nat.min_le_right _ _
  have hm0 : m ≠ 0 := by rw [hm]; have : Nat.min k (n - k) = min k (n - k) := rfl; omega
  have hcp2 : evCopy tb 23 (.sl N.next k (n - k) (n - k) none) (.sl N.next 0 k n none) (N.new (.cells (bvs (List.replicate k v ++ List.replicate (n - k) 0#8)) true)) = some (.val (.int .i64 (m : Int)), N.new (.cells (bvs (List.replicate (k + m) v ++ List.replicate (n - (k + m)) 0#8)) true)) := by
    unfold evCopy
    rw [ty23]
    simp only [ty5]
    have he1 : evLen (.sl N.next k (n - k) (n - k) none) = some (n - k) := rfl
    have he2 : evLen (.sl N.next 0 k n none) = some k := rfl
    rw [he1, he2]
    simp only [← hm]
    rw [first_some hg hmk' hm0 (by rw [hcl]; omega)]
    simp only [AM.beq_ne hm0, cond_false]
    have hfirst : ((bvs (List.replicate k v ++ List.replicate (n - k) 0#8)).drop 0).take m = bvs (List.replicate m v) := by
      rw [List.drop_zero, bvs_append, List.take_append_of_le_length (by simp; omega)]
      unfold bvs
      rw [← List.map_take, List.take_replicate, Nat.min_eq_left hmk']
    rw [hfirst]
    have hst : (N.new (.cells (bvs (List.replicate k v ++ List.replicate (n - k) 0#8)) true)).storeAt N.next k (bvs (List.replicate m v)) = some (N.new (.cells (bvs (List.replicate (k + m) v ++ List.replicate (n - (k + m)) 0#8)) true)) := by
      unfold Mem.storeAt
      rw [hg]
      have hov : over (List.replicate k v ++ List.replicate (n - k) 0#8) k (List.replicate m v) = List.replicate (k + m) v ++ List.replicate (n - (k + m)) 0#8 := by
        unfold over
        rw [List.take_left' (by simp), List.length_replicate, ← List.drop_drop, List.drop_left' (by simp), List.drop_replicate, List.replicate_append_replicate]
        congr 2; omega
      simp only [hcl, bvs_length, List.length_replicate, ble_of (show k + m ≤ n by omega), cond_true, ones_of (bvs_one _), setAt_bvs (show k + (List.replicate m v).length ≤ (List.replicate k v ++ List.replicate (n - k) 0#8).length by simp; omega), Mem.new_put, hov]
    rw [hst]
    rfl
  refine bindO_i hcp2 ?_
  simp only [zI_int]
  refine ⟨n - (k + m), by omega, k + m, ?_, rfl, by omega, by omega, rfl⟩
  rw [iAdd, wrap_i64' (by omega) (by omega)]
  omega

/-! ## bytes -/

def pat (v : BitVec 8) (n : Nat) : List (BitVec 8) := (List.range n).map fun i => v + BitVec.ofNat 8 (i * 7)
@[simp] theorem pat_length (v : BitVec 8) (n : Nat) : (pat v n).length = n := by simp [pat]

end Go.Proofs.YtfkkmhadipfobaaGreat

/- The document's chip: fill, turn, Arm, Boot. -/
set_option maxRecDepth 100000
namespace Go.Proofs.YtfkkmhadipfobaaGreat
open Go.AM

theorem ty36 : tb.ty.get 36 = some ⟨.sli 3, 1, 24, [.slice none 0 0], none⟩ := by kernel_rfl

/-- The document's chip: its own cells. -/
structure Doc where
  g : Geo
  fsA : AV
  pgA : AV
  nxA : AV
  wrA : AV
  dnA : AV
  ops : Int
  cuts : Int
  off : Bool
  wait : Int
  cop : Int
  cby : Int
  cf : BitVec 8
def docC (D : Doc) : List AV := [i64 D.g.bl, i64 D.g.pg, i64 D.g.by', i64 D.g.sp, i64 D.g.tr, D.fsA, D.pgA, D.nxA, D.wrA, D.dnA, i64 D.ops, i64 D.cuts, .val (.bool D.off), i64 D.wait, i64 D.cop, i64 D.cby, bv8 D.cf]

section
variable {p : Nat} {M : Mem}
variable {D : Doc} (h : M.get p = some (.cells (docC D) true))
include h
end

end Go.Proofs.YtfkkmhadipfobaaGreat

/- The document's chip in memory: pages, numbers of blocks. -/
set_option maxRecDepth 100000
namespace Go.Proofs.YtfkkmhadipfobaaGreat
open Go.AM

/-- The document's chip: its own cells, its faults, its pages (each a slice, and what it reads as), its numbers; the blocks that they lie in. -/
structure DocS where
  d : Doc
  fs : List Flt
  pg : List (AV × List (BitVec 8))
  nx : List Int
  wr : List Int
  dn : List Int
  pb : Nat
  nb : Nat
  wb : Nat
  db : Nat
def intsI (l : List Int) : List AV := l.map i64
@[simp] theorem intsI_length (l : List Int) : (intsI l).length = l.length := by simp [intsI]
def own (p : Nat) (S : DocS) : List Nat := [p, S.pb, S.nb, S.wb, S.db]

structure DocAt (M : Mem) (p : Nat) (S : DocS) : Prop where
  main : M.get p = some (.cells (docC S.d) true)
  flt : FltsAt M S.d.fsA S.fs
  pgA : S.d.pgA = .sl S.pb 0 S.pg.length S.pg.length (some 1)
  nxA : S.d.nxA = .sl S.nb 0 S.nx.length S.nx.length none
  wrA : S.d.wrA = .sl S.wb 0 S.wr.length S.wr.length none
  dnA : S.d.dnA = .sl S.db 0 S.dn.length S.dn.length none
  pgs : M.get S.pb = some (.cells (S.pg.map (·.1)) true)
  nxs : M.get S.nb = some (.cells (intsI S.nx) true)
  wrs : M.get S.wb = some (.cells (intsI S.wr) true)
  dns : M.get S.db = some (.cells (intsI S.dn) true)
  byt : ∀ q ∈ S.pg, BytesAt M q.1 q.2 ∧ q.1.one = true ∧ ∀ c, inBlk q.1 c → c ∉ own p S
  nd : (own p S).Nodup
  fsx : ∀ c, inBlk S.d.fsA c → c ∉ own p S
  fsl : S.fs.length ≤ 8
  may : mayG S.d.g = true
  pgl : S.pg.length = S.d.g.bl.toNat * S.d.g.pg.toNat
  nxl : S.nx.length = S.d.g.bl.toNat
  wrl : S.wr.length = S.d.g.bl.toNat
  dnl : S.dn.length = S.d.g.bl.toNat
  raw : ∀ q ∈ S.pg, q.2.length = rawN S.d.g
  cby0 : 0 ≤ S.d.cby

theorem DocAt.keep {M N : Mem} {p : Nat} {S : DocS} (h : DocAt M p S) (hw : M.WF) (hk : Keep M N []) : DocAt N p S :=
  ⟨hk.get hw h.main (by simp), SlAt.keep0 h.flt hw hk, h.pgA, h.nxA, h.wrA, h.dnA, hk.get hw h.pgs (by simp), hk.get hw h.nxs (by simp), hk.get hw h.wrs (by simp), hk.get hw h.dns (by simp),
    fun q hq => ⟨SlAt.keep0 (h.byt q hq).1 hw hk, (h.byt q hq).2⟩, h.nd, h.fsx, h.fsl, h.may, h.pgl, h.nxl, h.wrl, h.dnl, h.raw, h.cby0⟩

section
variable {M : Mem} {p : Nat} {S : DocS} (h : DocAt M p S)
include h
end

end Go.Proofs.YtfkkmhadipfobaaGreat

/- The document's chip: Read. -/
set_option maxRecDepth 100000
namespace Go.Proofs.YtfkkmhadipfobaaGreat
open Go.AM
end Go.Proofs.YtfkkmhadipfobaaGreat

/- New. -/
set_option maxRecDepth 100000
namespace Go.Proofs.YtfkkmhadipfobaaGreat
open Go.AM

def newC (g : Geo) (fsA x : AV) : List AV := [i64 g.bl, i64 g.pg, i64 g.by', i64 g.sp, i64 g.tr, fsA, x, .val (.bool false), i64 0, i64 0, i64 0, i64 0, bv8 0#8, i64 0]

/-- A chip on the way: so many blocks. 'M1': the memory when the first was begun. -/
structure Bld (M1 M : Mem) (p : Nat) (g : Geo) (fsA : AV) (bs : List Blk) (x : AV) : Prop where
  wf : M.WF
  nxt : M1.next ≤ M.next
  old : ∀ c, c < M1.next → c ≠ p → M.get c = M1.get c
  main : M.get p = some (.cells (newC g fsA x) true)
  sl : (bs = [] ∧ x = .val (.slice none 0 0)) ∨ ∃ bb, Grown 4 M x bs.length (bs.flatMap blkC) bb ∧ M1.next ≤ bb ∧ ∀ B ∈ bs, B.b ≠ bb
  dat : ∀ B ∈ bs, M.get B.b = some (.cells (bvs B.by') true) ∧ M1.next ≤ B.b
  nd : (bs.map (·.b)).Nodup

theorem ld_x {M1 M : Mem} {p : Nat} {g : Geo} {fsA x : AV} {bs : List Blk} (h : Bld M1 M p g fsA bs x) : evLoad tb 81 (.ptr p 6) M = some x := ld_cell ty81 rfl h.main rfl

theorem Bld.keep {M1 M N : Mem} {p : Nat} {g : Geo} {fsA x : AV} {bs : List Blk} (h : Bld M1 M p g fsA bs x) (hk : Keep M N []) : Bld M1 N p g fsA bs x :=
  ⟨hk.wf, Nat.le_trans h.nxt hk.nxt, fun c hc hp => by rw [hk.old c (Nat.lt_of_lt_of_le hc h.nxt) (by simp)]; exact h.old c hc hp, hk.get h.wf h.main (by simp),
    h.sl.imp id fun ⟨bb, ⟨g1, g2, g3, g4⟩, h2⟩ => ⟨bb, ⟨g1, g2, g3, hk.get h.wf g4 (by simp)⟩, h2⟩, fun B hB => ⟨hk.get h.wf (h.dat B hB).1 (by simp), (h.dat B hB).2⟩, h.nd⟩

theorem blkC_one (B : Blk) : ∀ v ∈ blkC B, v.one = true := by
  intro v hv
  simp only [blkC, List.mem_cons, List.not_mem_nil, or_false] at hv
  rcases hv with rfl | rfl | rfl | rfl <;> rfl

theorem bump_keep2 {M : Mem} (h : M.WF) : Keep M ⟨M.next + 2, M.rows⟩ [] := ⟨fun b r hb => by have := h b r hb; show b < M.next + 2; omega, by show M.next ≤ M.next + 2; omega, fun _ _ _ => rfl⟩
/-- What was put aside is used (one of two). -/
theorem bump_put2 {M N : Mem} (hw : M.WF) (hk : Keep ⟨M.next + 2, M.rows⟩ N []) {b : Nat} (hb : M.next ≤ b) (hb2 : b < M.next + 2) (r : Row) : Keep M (N.put b r) [] :=
  ⟨hk.wf.put (Nat.lt_of_lt_of_le hb2 hk.nxt) r, Nat.le_trans (Nat.le_add_right _ _) hk.nxt, fun c hc _ => by
    rw [Mem.get_put, if_neg (by omega)]
    exact hk.old c (by show c < M.next + 2; omega) (by simp)⟩

def newB (g : Geo) (b : Nat) : Blk := ⟨b, List.replicate (g.pg.toNat * rawN g) 255#8, 0, 0, 0⟩
def blank (g : Geo) (bs : List Blk) : Prop := ∀ B ∈ bs, B = newB g B.b

/-- What New makes. -/
def newChip (g : Geo) (fsA : AV) (fs : List Flt) (bb : Nat) (bs : List Blk) : Chip := ⟨g, fsA, fs, bb, bs, false, 0, 0, 0, 0, 0#8, 0⟩

theorem c_new (M : Mem) (hw : M.WF) (g : Geo) (x : AV) (fs : List Flt) (hx : FltsAt M x fs) (hfl : fs.length ≤ 9223372036854775807) :
    CallA tb.P 15 [geoA g, x] M fun y N => Keep M N [] ∧ ((mayP g fs = false ∧ y = .val (.pointer none)) ∨
      (mayP g fs = true ∧ ∃ (p : Nat) (fsA : AV) (bb : Nat) (bs : List Blk), y = .ptr p 0 ∧ ChipAt N p (newChip g fsA fs bb bs) ∧ blank g bs ∧ (∀ c ∈ foot p (newChip g fsA fs bb bs), M.next ≤ c) ∧ ∀ c, inBlk fsA c → M.next ≤ c)) := by
  refine F15_ok ?_
  unfold F15
  refine ⟨_, _, _, _, _, rfl, ?_⟩
  refine letP_i fun M6 hM6 => ?_
  have hM6' : M6 = M.new (.cells (geoC g) true) := hM6
  have hK6 : Keep M M6 [] := by rw [hM6']; exact Keep.new hw _
  have hg6 : M6.get M.next = some (.cells (geoC g) true) := by rw [hM6']; exact get_new _ _
  clear hM6 hM6'
  obtain ⟨_, _, _, _, _, l5⟩ := geo_ld hg6
  refine bindO_i (eLd_some l5) ?_
  refine ⟨_, _, _, _, _, rfl, ?_⟩
  refine (c_mayP M6 hK6.wf g x fs (SlAt.keep0 hx hw hK6) hfl).mono ?_
  rintro y M14 ⟨rfl, hk14⟩
  have hK14 := hK6.trans0 hk14
  simp only [zB_bool]
  refine condB_i (fun q => ?_) (fun q => ?_)
  · exact ⟨hK14, .inl ⟨by simpa using q, by trivial⟩⟩
  have q : mayP g fs = true := by simpa using q
  have hmg : mayG g = true := by unfold mayP at q; rw [Bool.and_eq_true, Bool.and_eq_true] at q; exact q.1.1
  have hfs8 : fs.length ≤ 8 := by unfold mayP at q; rw [Bool.and_eq_true, Bool.and_eq_true, decide_eq_true_eq] at q; exact q.1.2
  have hm := mayG_iff.1 hmg
  have hg14 := hk14.get hK6.wf hg6 (by simp)
  have hgn : M.next < M14.next := hk14.wf _ _ hg14
  refine letP_i fun M16 hM16 => ?_
  have hM16' : M16 = bump M14 := hM16
  subst hM16'
  have hb := bump_keep hk14.wf
  have hg16 := hb.get hk14.wf hg14 (by simp)
  obtain ⟨_, _, _, _, _, l5⟩ := geo_ld hg16
  refine bindO_i (eLd_some l5) ?_
  refine ⟨_, _, _, _, _, rfl, ?_⟩
  refine (c_cloneF (bump M14) hb.wf x fs (SlAt.keep0 hx hw (hK14.trans0 hb)) (by omega)).mono ?_
  rintro fsA M24 ⟨hfA, hk24, hff, hshape⟩
  have hg24 := hk24.get hb.wf hg16 (by simp)
  obtain ⟨_, _, _, _, _, m5⟩ := geo_ld hg24
  refine ⟨bindO_i (eLd_some m5) rfl, ?_⟩
  have hfone : fsA.one = true := by
    rcases hshape with rfl | ⟨_, _, _, _, _, rfl⟩ <;> rfl
  have hbd : evBuild tb 83 [(0, geoA g), (1, fsA)] = some (.agg (newC g fsA (.val (.slice none 0 0)))) := by
    unfold evBuild
    rw [ty83]
    rcases hshape with rfl | ⟨_, _, _, _, _, rfl⟩ <;> rfl
  refine bindO_i (eBd_some hbd) ?_
  refine ⟨_, _, _, _, _, _, _, _, _, _, _, _, _, _, rfl, ?_⟩
  refine letP_i fun M41 hM41 => ?_
  have hM41' : M41 = M24.put M14.next (.cells (newC g fsA (.val (.slice none 0 0))) true) := hM41
  have hpk : Keep M14 M41 [] := by rw [hM41']; exact bump_put hk14.wf hk24 _
  have hp41 : M41.get M14.next = some (.cells (newC g fsA (.val (.slice none 0 0))) true) := by rw [hM41', Mem.get_put, if_pos rfl]
  have hK41 := hK14.trans0 hpk
  have hfA41 : FltsAt M41 fsA fs := SlAt.mono hfA fun c r hc hr => by
    rw [hM41', Mem.get_put, if_neg (by have := hff c hc; have : M14.next + 1 ≤ c := this; omega)]; exact hr
  have hflt41 : ∀ c, inBlk fsA c → M14.next < c ∧ c < M41.next := fun c hc => ⟨hff c hc, SlAt.blk_lt hfA41 hpk.wf hc⟩
  clear hM41 hM41'
  have hpn : M14.next < M41.next := hpk.wf _ _ hp41
  have hg41 := hpk.get hk14.wf hg14 (by simp)
  obtain ⟨a0, _⟩ := geo_ld hg41
  refine bindO_i (eLd_some a0) ?_
  simp only [i64, zI_int]
  generalize hp : M14.next = p at *
  have hbl : g.bl = ((g.bl.toNat : Nat) : Int) := by omega
  refine ⟨fun z n P => ∃ (i : Nat) (bs : List Blk) (x : AV), z = i ∧ n = g.bl.toNat - i ∧ i ≤ g.bl.toNat ∧ bs.length = i ∧ blank g bs ∧ Bld M41 P p g fsA bs x,
    ⟨g.bl.toNat, 0, [], _, rfl, rfl, Nat.zero_le _, rfl, fun B hB => by simp at hB, ⟨hpk.wf, Nat.le_refl _, fun _ _ _ => rfl, hp41, .inl ⟨rfl, rfl⟩, fun B hB => by simp at hB, by simp⟩⟩, ?_⟩
  rintro _ z n P ⟨i, bs, xs, rfl, rfl, hi, hbsl, hbk, hB⟩
  have hgP : P.get M.next = some (.cells (geoC g) true) := by rw [hB.old _ (by omega) (by omega)]; exact hg41
  refine condB_i (fun hlt => ?_) (fun hge => ?_)
  rotate_left
  · -- all blocks stand
    have hge : i = g.bl.toNat := by
      have h1 : ¬ (i : Int) < g.bl := by simpa using hge
      omega
    rcases hB.sl with ⟨h1, _⟩ | ⟨bb, hgr, hbb, hne⟩
    · subst h1; simp at hbsl; omega
    have hKP : Keep M P [] := ⟨hB.wf, Nat.le_trans hK41.nxt hB.nxt, fun c hc _ => by
      rw [hB.old c (by have := hK41.nxt; omega) (by omega)]
      exact hK41.old c hc (by simp)⟩
    refine ⟨hKP, .inr ⟨q, p, fsA, bb, bs, rfl, ⟨?_, hgr.2.2.2, fun B h => (hB.dat B h).1, ?_, ?_, ?_, hfone, hfs8, hmg, by simp only [newChip]; omega, ?_, Int.le_refl 0⟩, hbk, ?_, fun c hc => by have := hflt41 c hc; omega⟩⟩
    · rw [hB.main]
      have : xs = blksA (newChip g fsA fs bb bs) := hgr.1
      rw [this]; rfl
    · exact SlAt.mono hfA41 fun c r hc hr => by
        have := hflt41 c hc
        rw [hB.old c this.2 (by omega)]; exact hr
    · unfold foot
      simp only [newChip, List.nodup_cons, List.mem_cons, List.mem_map, not_or, not_exists, not_and]
      refine ⟨⟨by omega, fun B h => by have := (hB.dat B h).2; omega⟩, fun B h => hne B h, hB.nd⟩
    · intro c hc hm
      have := hflt41 c hc
      simp only [foot, newChip, List.mem_cons, List.mem_map] at hm
      rcases hm with rfl | rfl | ⟨B, h, rfl⟩
      · omega
      · omega
      · have := (hB.dat B h).2; omega
    · intro B h
      rw [hbk B h]
      simp [newB, newChip]
    · intro c hc
      simp only [foot, newChip, List.mem_cons, List.mem_map] at hc
      rcases hc with rfl | rfl | ⟨B, h, rfl⟩
      · omega
      · omega
      · have := (hB.dat B h).2; omega
  have hlt : i < g.bl.toNat := by
    have h1 : (i : Int) < g.bl := by simpa using hlt
    omega
  refine letP_i fun M49 hM49 => ?_
  subst hM49
  have hk2 := bump_keep2 hB.wf
  have hB49 := hB.keep hk2
  have hg49 := hk2.get hB.wf hgP (by simp)
  refine bindO_i (eLd_some (ld_x hB49)) ?_
  obtain ⟨_, b1, _, _, _, b5⟩ := geo_ld hg49
  refine bindO_i (eLd_some b1) ?_
  simp only [i64, zI_int]
  refine bindO_i (eLd_some b5) ?_
  refine ⟨_, _, _, _, _, rfl, ?_⟩
  refine (c_raw _ hk2.wf g hmg).mono ?_
  rintro y M60 ⟨rfl, hk60⟩
  simp only [i64, zI_int]
  have hB60 := hB49.keep hk60
  have hg60 := hk60.get hk2.wf hg49 (by simp)
  obtain ⟨_, c1, _⟩ := geo_ld hg60
  refine ⟨bindO_i (eLd_some (ld_x hB60)) rfl, bindO_i (eLd_some c1) rfl, ?_⟩
  refine letP_i fun M64 hM64 => ?_
  have hM64' : M64 = M60.put P.next (.cells (bvs [255#8]) true) := hM64
  have hk64 : Keep P M64 [] := by rw [hM64']; exact bump_put2 hB.wf hk60 (Nat.le_refl _) (by omega) _
  have hlit : M64.get P.next = some (.cells (bvs [255#8]) true) := by rw [hM64', Mem.get_put, if_pos rfl]
  have hn64 : P.next + 2 ≤ M64.next := by rw [hM64']; exact hk60.nxt
  clear hM64 hM64'
  have hr : 40 ≤ rawN g ∧ rawN g ≤ 80 := by unfold rawN; omega
  have hprod : 1 ≤ g.pg.toNat * rawN g ∧ g.pg.toNat * rawN g ≤ 640 := by
    have h1 : g.pg.toNat * rawN g ≤ 8 * 80 := Nat.mul_le_mul (by omega) hr.2
    have h2 : 4 * 40 ≤ g.pg.toNat * rawN g := Nat.mul_le_mul (by omega) hr.1
    omega
  have hmul : iMul .i64 g.pg (rawN g : Int) = ((g.pg.toNat * rawN g : Nat) : Int) := by
    rw [Int.natCast_mul, show ((g.pg.toNat : Nat) : Int) = g.pg by omega]
    have h3 : ((g.pg.toNat * rawN g : Nat) : Int) = g.pg * (rawN g : Int) := by rw [Int.natCast_mul, show ((g.pg.toNat : Nat) : Int) = g.pg by omega]
    rw [iMul, wrap_i64' (by omega) (by omega)]
  rw [hmul]
  refine (c_repeat M64 hk64.wf _ 255#8 (bytes_one (v := 255#8) hlit) _ hprod.1 (by omega)).mono ?_
  rintro y M66 ⟨rfl, hM66⟩
  have hk66 : Keep M64 M66 [] := by rw [hM66]; exact Keep.new hk64.wf _
  have hd66 : M66.get M64.next = some (.cells (bvs (List.replicate (g.pg.toNat * rawN g) 255#8)) true) := by rw [hM66]; exact get_new _ _
  clear hM66
  have hkP66 := hk64.trans0 hk66
  have hB66 := hB.keep hkP66
  refine ⟨bindO_i (eLd_some (ld_x hB66)) rfl, ?_⟩
  have hbd2 : evBuild tb 86 [(0, .sl M64.next 0 (g.pg.toNat * rawN g) (g.pg.toNat * rawN g) none)] = some (.agg (blkC (newB g M64.next))) := by
    unfold evBuild
    rw [ty86]
    simp only [blkC, newB, List.length_replicate]
    rfl
  refine bindO_i (eBd_some hbd2) ?_
  refine ⟨_, _, _, _, rfl, ?_⟩
  refine letP_i fun M73 hM73 => ?_
  have hM73' : M73 = M66.put (P.next + 1) (.cells (blkC (newB g M64.next)) true) := hM73
  have hk73 : Keep P M73 [] := by
    rw [hM73']
    refine ⟨hk66.wf.put (by have := hk66.nxt; omega) _, hkP66.nxt, fun c hc _ => ?_⟩
    rw [Mem.get_put, if_neg (by omega)]
    exact hkP66.old c hc (by simp)
  have hd73 : M73.get M64.next = some (.cells (bvs (newB g M64.next).by') true) := by rw [hM73', Mem.get_put, if_neg (by omega)]; exact hd66
  have hl73 : M73.get (P.next + 1) = some (.cells (blkC (newB g M64.next)) true) := by rw [hM73', Mem.get_put, if_pos rfl]
  have hn73 : M64.next < M73.next := hk73.wf _ _ hd73
  clear hM73 hM73'
  have hB73 := hB.keep hk73
  have hs : SlAt 4 M73 (.sl (P.next + 1) 0 1 1 none) 1 (blkC (newB g M64.next)) := ⟨rfl, .inr ⟨_, _, _, _, rfl, ⟨Nat.le_refl _, .inl rfl⟩, .inr ⟨_, _, hl73, by rw [blkC_len]; exact Nat.le_refl _, by rw [List.drop_zero, List.take_of_length_le (by rw [blkC_len]; exact Nat.le_refl _)]⟩⟩⟩
  have hfreshB : ∀ B ∈ bs, B.b < P.next := fun B h => hB.wf _ _ (hB.dat B h).1
  have hpP : p < P.next := hB.wf _ _ hB.main
  -- the append, and what is stored
  obtain ⟨y74, M74, hap, hgr, hpk74⟩ : ∃ y74 M74, evAppend tb 81 81 xs (.sl (P.next + 1) 0 1 1 none) M73 = some (y74, M74) ∧ Grown 4 M74 y74 (bs.length + 1) ((bs ++ [newB g M64.next]).flatMap blkC) M73.next ∧ (M74.WF ∧ M73.next ≤ M74.next ∧ ∀ c r, M73.get c = some r → (∀ bb, Grown 4 M73 xs bs.length (bs.flatMap blkC) bb → c ≠ bb) → M74.get c = some r) ∧ ∀ c, c < M41.next → M74.get c = M73.get c := by
    rw [List.flatMap_append, show [newB g M64.next].flatMap blkC = blkC (newB g M64.next) by simp]
    rcases hB73.sl with ⟨h1, rfl⟩ | ⟨bb, hg, hb1, hb2⟩
    · subst h1
      obtain ⟨N, h1, rfl⟩ := append_nil (T := tb) (k := 4) ty81 rfl ty86 rfl hs (by omega) ⟨by simp only; omega, by omega⟩
      refine ⟨_, _, h1, ⟨rfl, by simp, by simp [blkC_len], by rw [get_new]; rfl⟩, ⟨hB73.wf.new _, Nat.le_succ _, fun c r hc _ => (Keep.new hB73.wf _).get hB73.wf hc (by simp)⟩, fun c hc => by rw [Mem.get_new, if_neg (by have := hB73.nxt; omega)]⟩
    · obtain ⟨N, h1, rfl⟩ := append_grown (T := tb) (k := 4) ty81 rfl ty86 rfl hg hs (by omega) (blkC_one _) ⟨by simp only; omega, by omega⟩
      refine ⟨_, _, h1, ⟨rfl, by omega, by rw [List.length_append, flat_length blkC_len, blkC_len]; omega, get_new (M73.kill bb) _⟩, ⟨(hB73.wf.kill _).new _, Nat.le_succ _, fun c r hc hne => ?_⟩, fun c hc => ?_⟩
      · have h2 := hB73.wf _ _ hc
        rw [Mem.get_new, if_neg (by show c ≠ M73.next; omega), Mem.get_kill, if_neg (hne bb hg)]; exact hc
      · rw [Mem.get_new, if_neg (by have := hB73.nxt; show c ≠ M73.next; omega), Mem.get_kill, if_neg (by omega)]
  refine bindO_i hap ?_
  have hnotbb : ∀ c r, M73.get c = some r → (c = p ∨ c = M64.next ∨ ∃ B ∈ bs, c = B.b) → M74.get c = some r := by
    intro c r hc hcase
    refine hpk74.1.2.2 c r hc fun bb hg => ?_
    rcases hB73.sl with ⟨h1, h2⟩ | ⟨bb', hg', hb1, hb2⟩
    · subst h1; have := hg.2.1; simp at this
    · have e : bb = bb' := by
        have h1 := hg.1
        rw [hg'.1] at h1
        injection h1 with h1
        exact h1.symm
      subst e
      have hbbP : bb < P.next := by
        rcases hB.sl with ⟨h1, _⟩ | ⟨b2, hg2, _, _⟩
        · subst h1; have := hg.2.1; simp at this
        · have e2 : bb = b2 := by
            have h1 := hg.1
            rw [hg2.1] at h1
            injection h1 with h1
            exact h1.symm
          rw [e2]; exact hB.wf _ _ hg2.2.2.2
      rcases hcase with rfl | rfl | ⟨B, h, rfl⟩
      · omega
      · omega
      · exact hb2 B h
  have hmain74 := hnotbb _ _ hB73.main (.inl rfl)
  have hstc : (newC g fsA xs).set 6 y74 = newC g fsA y74 := rfl
  have hyone : y74.one = true := by rw [hgr.1]; rfl
  have hst : eSt tb 81 (.ptr p 6) y74 M74 = some (undefA, M74.put p (.cells (newC g fsA y74) true)) := by
    rw [← hstc]
    exact eSt_some (st_cell ty81 rfl hyone hmain74 (by simp [newC]))
  refine bindO_i hst ?_
  refine ⟨g.bl.toNat - (i + 1), by omega, i + 1, bs ++ [newB g M64.next], y74, iInc (by omega), rfl, hlt, by rw [List.length_append, hbsl]; rfl, ?_, ?_⟩
  · intro B h
    rcases List.mem_append.1 h with h | h
    · exact hbk B h
    · simp only [List.mem_singleton] at h; subst h; rfl
  have hp73 : p < M73.next := hB73.wf _ _ hB73.main
  refine ⟨hpk74.1.1.put (by have := hpk74.1.2.1; omega) _, Nat.le_trans hB73.nxt hpk74.1.2.1, fun c hc hcp => ?_, by rw [Mem.get_put, if_pos rfl], .inr ⟨M73.next, ⟨?_, by simp, by rw [flat_length blkC_len], ?_⟩, hB73.nxt, ?_⟩, ?_, ?_⟩
  · rw [Mem.get_put, if_neg hcp, hpk74.2 c hc]
    exact hB73.old c hc hcp
  · rw [hgr.1]; simp
  · rw [Mem.get_put, if_neg (by omega)]; exact hgr.2.2.2
  · intro B h
    rcases List.mem_append.1 h with h | h
    · have := hfreshB B h; have := hk73.nxt; omega
    · simp only [List.mem_singleton] at h; subst h; show M64.next ≠ M73.next; omega
  · intro B h
    rcases List.mem_append.1 h with h | h
    · refine ⟨?_, (hB.dat B h).2⟩
      rw [Mem.get_put, if_neg (by have := (hB.dat B h).2; omega)]
      exact hnotbb _ _ (hB73.dat B h).1 (.inr (.inr ⟨B, h, rfl⟩))
    · simp only [List.mem_singleton] at h; subst h
      refine ⟨?_, by have := hB.nxt; show M41.next ≤ M64.next; omega⟩
      rw [Mem.get_put, if_neg (by show M64.next ≠ p; omega)]
      exact hnotbb _ _ hd73 (.inr (.inl rfl))
  · rw [List.map_append, List.nodup_append]
    refine ⟨hB.nd, by simp, fun a ha b hb => ?_⟩
    simp only [List.map_cons, List.map_nil, List.mem_singleton] at hb
    obtain ⟨B, h, rfl⟩ := List.mem_map.1 ha
    have := hfreshB B h
    rw [hb]
    show B.b ≠ M64.next
    omega

end Go.Proofs.YtfkkmhadipfobaaGreat

/- The document's chip: New. -/
set_option maxRecDepth 100000
namespace Go.Proofs.YtfkkmhadipfobaaGreat
open Go.AM
def pgsA (R : Nat) (bl : List Nat) : List AV := bl.map fun b => .sl b 0 R R none
/-- A document's chip on the way: so many pages. -/
structure BldD (M1 M : Mem) (p : Nat) (D : AV → Doc) (R : Nat) (bl : List Nat) (x : AV) : Prop where
  wf : M.WF
  nxt : M1.next ≤ M.next
  old : ∀ c, c < M1.next → c ≠ p → M.get c = M1.get c
  main : M.get p = some (.cells (docC (D x)) true)
  sl : (x = .val (.slice none 0 0) ∧ bl = []) ∨ ∃ bb, Grown 1 M x bl.length (pgsA R bl) bb ∧ M1.next ≤ bb ∧ ∀ b ∈ bl, b ≠ bb
  dat : ∀ b ∈ bl, M.get b = some (.cells (bvs (List.replicate R 255#8)) true) ∧ M1.next ≤ b

theorem BldD.keep {M1 M N : Mem} {p : Nat} {D : AV → Doc} {R : Nat} {x : AV} {bl : List Nat} (h : BldD M1 M p D R bl x) (hk : Keep M N []) : BldD M1 N p D R bl x :=
  ⟨hk.wf, Nat.le_trans h.nxt hk.nxt, fun c hc hp => by rw [hk.old c (Nat.lt_of_lt_of_le hc h.nxt) (by simp)]; exact h.old c hc hp, hk.get h.wf h.main (by simp),
    h.sl.imp id fun ⟨bb, ⟨g1, g2, g3, g4⟩, h2⟩ => ⟨bb, ⟨g1, g2, g3, hk.get h.wf g4 (by simp)⟩, h2⟩, fun B hB => ⟨hk.get h.wf (h.dat B hB).1 (by simp), (h.dat B hB).2⟩⟩

end Go.Proofs.YtfkkmhadipfobaaGreat

/- The document's chip: Program. -/
set_option maxRecDepth 100000
namespace Go.Proofs.YtfkkmhadipfobaaGreat
open Go.AM

theorem Gr.app {M : Mem} {x y : AV} {l m : List (BitVec 8)} (hw : M.WF) (h : Gr M x l) (hy : BytesAt M y m) (hb : l.length + m.length ≤ 1000000) :
    ∃ x' N, evAppend tb 23 23 x y M = some (x', N) ∧ Gr N x' (l ++ m) ∧ GrowTo M N x x' := by
  by_cases hm : 0 < m.length
  · obtain ⟨x', N, h1, h2, h3, _⟩ := Gr.grow hw h hy hm hb
    exact ⟨x', N, h1, h2, h3⟩
  · have hnil : m = [] := List.eq_nil_of_length_eq_zero (by omega)
    subst hnil
    refine ⟨x, M, append_zero (T := tb) (k := 1) ty23 rfl ty5 rfl h.at hy, by rw [List.append_nil]; exact h, GrowTo.refl hw x⟩

end Go.Proofs.YtfkkmhadipfobaaGreat

/- The document's chip, without addresses; Erase. -/
set_option maxRecDepth 100000
namespace Go.Proofs.YtfkkmhadipfobaaGreat
open Go.AM

/-- The document's chip, without addresses. -/
structure Vw where
  g : Geo
  fs : List Flt
  pg : List (List (BitVec 8))
  nx : List Int
  wr : List Int
  dn : List Int
  ops : Int
  cuts : Int
  off : Bool
  wait : Int
  cby : Int
  cf : BitVec 8
/-- What an operation of the document's chip leaves. -/
structure DStep (M N : Mem) (p : Nat) (S S' : DocS) : Prop where
  at' : DocAt N p S'
  keep : Keep M N (own p S)
  own : own p S' = own p S
  fsA : S'.d.fsA = S.d.fsA
  pgs : ∀ q ∈ S'.pg, q ∈ S.pg ∨ ∀ c, inBlk q.1 c → M.next ≤ c

/-! ## Erase -/

end Go.Proofs.YtfkkmhadipfobaaGreat

/- A chip without faults, powered: one block of it. -/
set_option maxRecDepth 100000
namespace Go.Proofs.YtfkkmhadipfobaaGreat
open Go.AM

theorem mayP_nil (g : Geo) : mayP g [] = mayG g := by unfold mayP; simp

/-- What is known of a block of a chip that has no faults. -/
structure Ok (C : Chip) (g : Geo) (i : Nat) (l : List (BitVec 8)) (nx wr : Int) : Prop where
  g : C.g = g
  fs : C.fs = []
  off : C.off = false
  turn : C.turn = 0
  blk : ∃ B, C.bs[i]? = some B ∧ B.by' = l ∧ B.next = nx ∧ B.wear = wr

section
variable {C : Chip} {g : Geo} {i : Nat} {l : List (BitVec 8)} {nx wr : Int}

theorem Ok.bg (h : Ok C g i l nx wr) : bgn C = false ∧ bgC C = { C with ops := iAdd .i64 C.ops 1 } ∧ Ok (bgC C) g i l nx wr := by
  have h1 : bgn C = false := by unfold bgn; rw [h.turn]; rfl
  have h2 : bgC C = { C with ops := iAdd .i64 C.ops 1 } := by unfold bgC; rw [h1]; rfl
  refine ⟨h1, h2, ?_⟩
  rw [h2]
  exact ⟨h.g, h.fs, h.off, h.turn, h.blk⟩

theorem Ok.askd (h : Ok C g i l nx wr) {k : Int} : askd C i k = if isG g i k = true then 0 else 2 := by
  unfold Go.Proofs.YtfkkmhadipfobaaGreat.askd
  rw [h.off, h.g]; rfl

theorem failsF_nil (b d : Int) : failsF [] b d = false := rfl

/-- A page is programmed. -/
theorem Ok.pg (h : Ok C g i l nx wr) {j : Nat} (hj : nx = (j : Int)) (hp : isG g i j = true) {d : List (BitVec 8)} (hd : d.length = rawN g) :
    (pgR C i j d).2 = 0 ∧ Ok (pgR C i j d).1 g i (over l (j * rawN g) d) (iAdd .i64 (j : Int) 1) wr := by
  obtain ⟨h1, h2, h3⟩ := h.bg
  obtain ⟨B, hB, hl, hn, hwr⟩ := h3.blk
  have hlt : i < (bgC C).bs.length := (List.getElem?_eq_some_iff.1 hB).1
  have e : pgR C i j d = ((bgC C).upB i { B with by' := over B.by' (j * rawN (bgC C).g) d, next := iAdd .i64 B.next 1, done := iAdd .i64 B.done 1 }, 0) := by
    unfold pgR
    rw [h.askd, if_pos hp, if_pos rfl, h.g, if_pos hd, h1]
    unfold pgS
    rw [Int.toNat_natCast, Int.toNat_natCast, hB]
    simp only [h3.fs, failsF_nil, hn, hj]
    simp
  rw [e]
  refine ⟨rfl, ⟨h3.g, h3.fs, h3.off, h3.turn, ⟨{ B with by' := over B.by' (j * rawN (bgC C).g) d, next := iAdd .i64 B.next 1, done := iAdd .i64 B.done 1 }, by
    show ((bgC C).bs.set i _)[i]? = _
    rw [List.getElem?_set_self hlt], ?_, ?_, hwr⟩⟩⟩
  · simp only [hl, h3.g]
  · simp only [hn, hj]

/-- A page is read. -/
theorem Ok.rd (h : Ok C g i l nx wr) {j : Nat} (hp : isG g i j = true) : rdE C i j = 0 ∧ rdB C i j = (l.drop (j * rawN g)).take (rawN g) ∧ Ok (rdC C i j) g i l nx wr := by
  obtain ⟨h1, h2, h3⟩ := h.bg
  obtain ⟨B, hB, hl, hn, hwr⟩ := h.blk
  have e : rdE C i j = 0 := by
    unfold rdE
    rw [h.askd, if_pos hp, if_pos rfl, h1]; rfl
  refine ⟨e, ?_, ?_⟩
  · unfold rdB pageB
    rw [if_pos e, Int.toNat_natCast, Int.toNat_natCast, hB]
    simp only [hl, h.g]
  · unfold rdC
    rw [h.askd, if_pos hp, if_pos rfl]
    exact h3

end

/-! ## Where a chip lies -/

structure Here (M : Mem) (p F G : Nat) (C : Chip) : Prop where
  at' : ChipAt M p C
  wf : M.WF
  rng : ∀ c ∈ foot p C, F ≤ c ∧ c < G
  nxt : G ≤ M.next

theorem Here.step {M N : Mem} {p F G : Nat} {C C' : Chip} (h : Here M p F G C) (s : Step M N p C C') : Here N p F G C' :=
  ⟨s.at', s.wf, by rw [s.foot]; exact h.rng, Nat.le_trans h.nxt s.keep.nxt⟩
theorem Here.keep {M N : Mem} {p F G : Nat} {C : Chip} (h : Here M p F G C) (k : Keep M N []) : Here N p F G C :=
  h.step (Step.of0 h.wf h.at' k)
theorem Here.notin {M : Mem} {p F G c : Nat} {C : Chip} (h : Here M p F G C) (hc : c < F ∨ G ≤ c) : c ∉ foot p C := fun hm => by
  have := h.rng c hm; omega
theorem Here.get {M N : Mem} {p F G c : Nat} {C C' : Chip} {r : Row} (h : Here M p F G C) (s : Step M N p C C') (hc : c < F ∨ G ≤ c) (hg : M.get c = some r) : N.get c = some r := step_get s h.wf hg (h.notin hc)
/-- Bytes that lie elsewhere stay. -/
theorem Here.bytes {M N : Mem} {p F G : Nat} {C C' : Chip} {x : AV} {l : List (BitVec 8)} (h : Here M p F G C) (s : Step M N p C C') (hx : BytesAt M x l) (hc : ∀ c, inBlk x c → c < F ∨ G ≤ c) : BytesAt N x l :=
  SlAt.mono hx fun c r hin hr => h.get s (hc c hin) hr

theorem rep_page {v : BitVec 8} {r k n : Nat} (hk : k < n) : ((List.replicate (n * r) v).drop (k * r)).take r = List.replicate r v := by
  have hkr : (k + 1) * r ≤ n * r := Nat.mul_le_mul_right _ hk
  rw [Nat.add_mul, Nat.one_mul] at hkr
  rw [List.drop_replicate, List.take_replicate, Nat.min_eq_left (by omega)]

end Go.Proofs.YtfkkmhadipfobaaGreat

/- What the laws do with a chip without faults. -/
set_option maxRecDepth 100000
namespace Go.Proofs.YtfkkmhadipfobaaGreat
open Go.AM

section
variable {M : Mem} {p F G : Nat} {C : Chip} {g : Geo} {i : Nat} {l : List (BitVec 8)} {nx wr : Int}

end

theorem nil_nil24 {M : Mem} {xo yo : Operand} : eBin tb .eql 33 xo yo (.val (.pointer none)) (.val (.pointer none)) M = some (.val (.bool true), M) := eBin_some (by kernel_rfl)

end Go.Proofs.YtfkkmhadipfobaaGreat

/- A chip without faults, with a cut that may wait. -/
set_option maxRecDepth 100000
namespace Go.Proofs.YtfkkmhadipfobaaGreat
open Go.AM

structure Sx (C : Chip) (g : Geo) (o t b : Nat) (f : BitVec 8) (c : Nat) : Prop where
  g : C.g = g
  fs : C.fs = []
  off : C.off = false
  turn : C.turn = (t : Int)
  ops : C.ops = (o : Int)
  by' : C.cby = (b : Int)
  cf : C.cf = f
  cuts : C.cuts = (c : Int)
structure Sf (C : Chip) (g : Geo) (o b : Nat) (f : BitVec 8) (c : Nat) : Prop where
  g : C.g = g
  fs : C.fs = []
  off : C.off = true
  ops : C.ops = (o : Int)
  by' : C.cby = (b : Int)
  cf : C.cf = f
  cuts : C.cuts = (c : Int)
def BlkIs (C : Chip) (i : Nat) (l : List (BitVec 8)) (nx wr : Int) : Prop := ∃ B, C.bs[i]? = some B ∧ B.by' = l ∧ B.next = nx ∧ B.wear = wr

section
variable {C : Chip} {g : Geo} {o t b c : Nat} {f : BitVec 8}

theorem inc1 {o : Nat} (h : o ≤ 1000000) : iAdd .i64 (o : Int) 1 = ((o + 1 : Nat) : Int) := iInc (by omega)

theorem Sx.bgn_eq (h : Sx C g o t b f c) (ho : o ≤ 1000000) : bgn C = (decide (t ≠ 0) && decide (o + 1 = t)) := by
  unfold bgn
  rw [h.turn, h.ops, inc1 ho]
  have h1 : (((t : Nat) : Int) == 0) = decide (t = 0) := by
    rw [Bool.eq_iff_iff, beq_iff_eq, decide_eq_true_eq]; omega
  have h2 : (((o + 1 : Nat) : Int) != (t : Int)) = decide (o + 1 ≠ t) := by
    rw [Bool.eq_iff_iff, bne_iff_ne, decide_eq_true_eq]; omega
  rw [h1, h2]
  simp

/-- An operation that is not the cut's. -/
theorem Sx.go (h : Sx C g o t b f c) (ho : o ≤ 1000000) (hn : t = 0 ∨ o + 1 ≠ t) : bgn C = false ∧ Sx (bgC C) g (o + 1) t b f c ∧ (bgC C).bs = C.bs := by
  have h1 : bgn C = false := by
    rw [h.bgn_eq ho]
    rcases hn with h | h
    · simp [h]
    · simp [h]
  have h2 : bgC C = { C with ops := ((o + 1 : Nat) : Int) } := by
    unfold bgC; rw [h1, h.ops, inc1 ho]; rfl
  rw [h2]
  exact ⟨h1, ⟨h.g, h.fs, h.off, h.turn, rfl, h.by', h.cf, h.cuts⟩, rfl⟩

/-- The cut's. -/
theorem Sx.cut (h : Sx C g o t b f c) (ho : o ≤ 1000000) (hc : c ≤ 1000000) (hn : t = o + 1) : bgn C = true ∧ Sf (bgC C) g (o + 1) b f (c + 1) ∧ (bgC C).bs = C.bs := by
  have h1 : bgn C = true := by
    rw [h.bgn_eq ho, hn]; simp
  have h2 : bgC C = { C with ops := ((o + 1 : Nat) : Int), turn := 0, off := true, cuts := ((c + 1 : Nat) : Int) } := by
    unfold bgC; rw [if_pos h1, h.ops, inc1 ho, h.cuts, inc1 hc]
  rw [h2]
  exact ⟨h1, ⟨h.g, h.fs, rfl, rfl, h.by', h.cf, rfl⟩, rfl⟩

theorem Sx.askd (h : Sx C g o t b f c) {i : Int} {k : Int} : Go.Proofs.YtfkkmhadipfobaaGreat.askd C i k = if isG g i k = true then 0 else 2 := by
  unfold Go.Proofs.YtfkkmhadipfobaaGreat.askd
  rw [h.off, h.g]; rfl
theorem Sf.askd (h : Sf C g o b f c) {i : Int} {k : Int} : Go.Proofs.YtfkkmhadipfobaaGreat.askd C i k = 9 := by
  unfold Go.Proofs.YtfkkmhadipfobaaGreat.askd
  rw [h.off]; rfl

theorem blk_other {C : Chip} {i k : Nat} (hk : k ≠ i) (B : Blk) {l : List (BitVec 8)} {nx wr : Int} (h : BlkIs C k l nx wr) : BlkIs (C.upB i B) k l nx wr := by
  obtain ⟨B', h1, h2⟩ := h
  refine ⟨B', ?_, h2⟩
  show (C.bs.set i B)[k]? = _
  rw [List.getElem?_set_ne (fun e => hk e.symm)]; exact h1
/-- A page is read. -/
theorem Sx.rd (h : Sx C g o t b f c) (ho : o ≤ 1000000) (hn : t = 0 ∨ o + 1 ≠ t) {i j : Nat} {l : List (BitVec 8)} {nx wr : Int} (hb : BlkIs C i l nx wr) (hp : isG g i j = true) :
    rdE C i j = 0 ∧ rdB C i j = (l.drop (j * rawN g)).take (rawN g) ∧ Sx (rdC C i j) g (o + 1) t b f c ∧ (rdC C i j).bs = C.bs := by
  obtain ⟨h1, h2, h3⟩ := h.go ho hn
  obtain ⟨B, hB, hl, hnx, hwr⟩ := hb
  have e : rdE C i j = 0 := by
    unfold rdE
    rw [h.askd, if_pos hp, if_pos rfl, h1]; rfl
  have e2 : rdC C i j = bgC C := by
    unfold rdC
    rw [h.askd, if_pos hp, if_pos rfl]
  refine ⟨e, ?_, by rw [e2]; exact h2, by rw [e2]; exact h3⟩
  unfold rdB pageB
  rw [if_pos e, Int.toNat_natCast, Int.toNat_natCast, hB]
  simp only [hl, h.g]

theorem Sf.rd (h : Sf C g o b f c) (i k : Int) : rdE C i k = 9 ∧ rdB C i k = [] ∧ rdC C i k = C := by
  have e : rdE C i k = 9 := by unfold rdE; rw [h.askd, if_neg (by decide)]
  refine ⟨e, ?_, ?_⟩
  · unfold rdB; rw [e, if_neg (by decide)]
  · unfold rdC; rw [h.askd, if_neg (by decide)]
end

theorem Here.keepS {M N : Mem} {p F G : Nat} {C : Chip} {S : List Nat} (h : Here M p F G C) (k : Keep M N S) (hs : ∀ b ∈ S, (b < F ∨ G ≤ b) ∧ ¬ inBlk C.fsA b) : Here N p F G C :=
  ⟨h.at'.keepS h.wf k fun b hb => ⟨h.notin (hs b hb).1, (hs b hb).2⟩, k.wf, h.rng, Nat.le_trans h.nxt k.nxt⟩

end Go.Proofs.YtfkkmhadipfobaaGreat
