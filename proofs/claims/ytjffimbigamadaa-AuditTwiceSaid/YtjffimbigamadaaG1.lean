import Derived.Test.YtjffimbigamadaaB3
import Derived.Test.YtjffimbigamadaaP2
set_option linter.unusedSimpArgs false
set_option linter.unusedVariables false
set_option linter.unusedSectionVars false
/- Bytes: what they are; small contracts. (Turned from the first seat by ren.py.) -/
namespace Go.Proofs.Ytjffimbigamadaa
open Go.AM

theorem ty33 : tb.ty.get 33 = some ⟨.sli 5, 1, 24, [.slice none 0 0], none⟩ := by kernel_rfl

theorem ty5 : tb.ty.get 5 = some ⟨.int .u8, 1, 1, [.int .u8 0], none⟩ := by kernel_rfl

def bv8 (b : BitVec 8) : AV := .val (.int .u8 (b.toNat : Int))

def bvs (l : List (BitVec 8)) : List AV := l.map bv8

@[simp] theorem bvs_length (l : List (BitVec 8)) : (bvs l).length = l.length := by simp [bvs]

theorem bvs_append (l m : List (BitVec 8)) : bvs (l ++ m) = bvs l ++ bvs m := by simp [bvs]

theorem bvs_one (l : List (BitVec 8)) : ∀ v ∈ bvs l, v.one = true := by
  intro v hv
  obtain ⟨b, _, rfl⟩ := List.mem_map.1 hv
  rfl

def BytesAt (M : Mem) (x : AV) (l : List (BitVec 8)) : Prop := SlAt 1 M x l.length (bvs l)

theorem BytesAt.len {M M' : Mem} {x : AV} {l : List (BitVec 8)} (h : BytesAt M x l) : evLenCap tb false 33 x M' = some l.length := SlAt.len h ty33 rfl

theorem BytesAt.at {M : Mem} {x : AV} {l : List (BitVec 8)} (h : BytesAt M x l) {i : Nat} (hi : i < l.length) :
    ∃ b o, evIndexAddr tb 33 x (.val (.int .i64 (i : Int))) = some (.ptr b o) ∧ evLoad tb 5 (.ptr b o) M = some (.val (.int .u8 (l[i].toNat : Int))) := by
  obtain ⟨b, o, h1, _, h2, _⟩ := SlAt.at h ty33 rfl ty5 rfl hi (k' := .i64)
  refine ⟨b, o, h1, ?_⟩
  unfold evLoad
  rw [ty5]
  have := h2 0 (by omega)
  simp only [TI.isAgg, cond_false]
  rw [Nat.add_zero, Nat.mul_one, Nat.add_zero] at this
  rw [this]
  simp [bvs, hi, bv8]

theorem iInc {i : Nat} (h : i < 9223372036854775807) : iAdd .i64 (i : Int) 1 = ((i + 1 : Nat) : Int) := by
  rw [iAdd, wrap_i64' (by omega) (by omega)]; rfl

theorem take_succ_eq {l m : List (BitVec 8)} {i : Nat} (hl : i < l.length) (hm : i < m.length) (h : l.take i = m.take i) (he : l[i] = m[i]) : l.take (i + 1) = m.take (i + 1) := by
  rw [List.take_succ_eq_append_getElem hl, List.take_succ_eq_append_getElem hm, h, he]

theorem same_bytes (M : Mem) (x y : AV) (l m : List (BitVec 8)) (hx : BytesAt M x l) (hy : BytesAt M y m) (hl : l.length ≤ 9223372036854775806) :
    CallA tb.P 22 [x, y] M fun v N => v = .val (.bool (decide (l = m))) ∧ N = M := by
  refine F22_ok ?_
  unfold F22
  refine bindO_i (eLen_some hx.len) ?_
  simp only [zI_int]
  refine bindO_i (eLen_some hy.len) ?_
  simp only [zI_int]
  refine condB_i (fun hne => ?_) (fun heq => ?_)
  · have : l ≠ m := fun h => by subst h; simp at hne
    simp [this]
  · have hlen : l.length = m.length := by simp at heq; omega
    refine ⟨fun z n N => ∃ i : Nat, z = i ∧ n = l.length - i ∧ i ≤ l.length ∧ N = M ∧ l.take i = m.take i, ⟨l.length, 0, rfl, rfl, Nat.zero_le _, rfl, by simp⟩, ?_⟩
    rintro _ z n N ⟨i, rfl, rfl, hi, rfl, htk⟩
    refine bindO_i (eLen_some hx.len) ?_
    simp only [zI_int]
    refine condB_i (fun hlt => ?_) (fun hge => ?_)
    · have hlt : i < l.length := by simpa using hlt
      have hlt' : i < m.length := by omega
      obtain ⟨b, o, hia, hld⟩ := hx.at hlt
      obtain ⟨b', o', hia', hld'⟩ := hy.at hlt'
      refine bindO_i (eIA_some hia) ?_
      refine bindO_i (eIA_some hia') ?_
      refine bindO_i (eLd_some hld) ?_
      simp only [zI_int]
      refine bindO_i (eLd_some hld') ?_
      simp only [zI_int]
      refine condB_i (fun hd => ?_) (fun hd => ?_)
      · have hne : l[i] ≠ m[i] := fun h => by rw [h] at hd; simp at hd
        have : l ≠ m := fun h => by subst h; exact hne rfl
        simp [this]
      · have he : l[i] = m[i] := by
          apply BitVec.eq_of_toNat_eq
          have : (l[i].toNat : Int) = m[i].toNat := by simpa using hd
          omega
        exact ⟨l.length - (i + 1), by omega, i + 1, iInc (by omega), rfl, hlt, by trivial, take_succ_eq hlt hlt' htk he⟩
    · have hge : i = l.length := by have : ¬ (i : Int) < l.length := by simpa using hge
                                    omega
      subst hge
      have : l = m := by
        rw [List.take_of_length_le (Nat.le_refl _), List.take_of_length_le (by omega)] at htk
        exact htk
      simp [this]

def lowOf (x : Int) (n : Nat) : Nat := ((x % 18446744073709551616).tmod (n : Int)).toNat

theorem lowOf_lt (x : Int) {n : Nat} (hn : 0 < n) : lowOf x n < n := by
  unfold lowOf
  have h0 : 0 ≤ x % 18446744073709551616 := Int.emod_nonneg _ (by omega)
  rw [Int.tmod_eq_emod_of_nonneg h0]
  have := Int.emod_lt_of_pos (x % 18446744073709551616) (show (0 : Int) < n by omega)
  have := Int.emod_nonneg (x % 18446744073709551616) (show (n : Int) ≠ 0 by omega)
  omega

theorem low (M : Mem) (x : Int) (n : Nat) (hn : 0 < n) (hn2 : n < 4611686018427387904) :
    CallA tb.P 18 [.val (.int .i64 x), .val (.int .i64 (n : Int))] M fun y N => y = .val (.int .i64 (lowOf x n : Int)) ∧ N = M := by
  have h0 : 0 ≤ x % 18446744073709551616 := Int.emod_nonneg _ (by omega)
  have e1 : (n : Int) % 18446744073709551616 = n := by omega
  have hnn : (n : Int) ≠ 0 := by omega
  have hlt := lowOf_lt x hn
  have h2 : 0 ≤ (x % 18446744073709551616).tmod (n : Int) := Int.tmod_nonneg _ h0
  have e2 : (x % 18446744073709551616).tmod (n : Int) = (lowOf x n : Int) := by unfold lowOf; omega
  refine F18_ok ?_
  unfold F18
  simp only [zI_int, wrap_u64, e1]
  refine bindO_i (eBin_some (v := .val (.int .u64 (lowOf x n : Int))) ?_) ?_
  · rw [evBin_int (by simp) (by simp)]
    simp only [intBin, hnn, decide_false, cond_false, e2, Option.map_some]
  · simp only [zI_int]
    rw [wrap_i64' (by omega) (by omega)]
    exact ⟨rfl, by trivial⟩

theorem ty3 : tb.ty.get 3 = some ⟨.int .i64, 1, 8, [.int .i64 0], none⟩ := by kernel_rfl

def i64 (z : Int) : AV := .val (.int .i64 z)

/-- Nothing yet, or what append alone has made. -/
def Gr (M : Mem) (x : AV) (l : List (BitVec 8)) : Prop := (x = .val (.slice none 0 0) ∧ l = []) ∨ ∃ b, Grown 1 M x l.length (bvs l) b

theorem Gr.at {M : Mem} {x : AV} {l : List (BitVec 8)} (h : Gr M x l) : BytesAt M x l := by
  rcases h with ⟨rfl, rfl⟩ | ⟨b, h⟩
  · exact SlAt.nil
  · exact h.at

theorem Gr.mono {M N : Mem} {x : AV} {l : List (BitVec 8)} (h : Gr M x l) (hk : ∀ c r, inBlk x c → M.get c = some r → N.get c = some r) : Gr N x l := by
  rcases h with h | ⟨b, h1, h2, h3, h4⟩
  · exact .inl h
  · exact .inr ⟨b, h1, h2, h3, hk b _ (by rw [h1]; exact ⟨by omega, rfl⟩) h4⟩

theorem Gr.append {M : Mem} {x y : AV} {l m : List (BitVec 8)} (hw : M.WF) (h : Gr M x l) (hy : BytesAt M y m) (hm : 0 < m.length) (hb : l.length + m.length ≤ 1000000) :
    ∃ x' N, evAppend tb 33 33 x y M = some (x', N) ∧ Gr N x' (l ++ m) ∧ N.WF ∧ N.next = M.next + 1 ∧ (∀ c r, ¬ inBlk x c → M.get c = some r → N.get c = some r) ∧ (∀ c, inBlk x' c → c = M.next) := by
  rcases h with ⟨rfl, rfl⟩ | ⟨b, hg⟩
  · obtain ⟨N, h1, rfl⟩ := append_nil (T := tb) (k := 1) ty33 rfl ty5 rfl hy hm ⟨by simp only; simp only [List.length_nil] at hb; omega, by simp only [List.length_nil] at hb; omega⟩
    refine ⟨_, _, h1, ?_, hw.new _, rfl, fun c r _ hc => ?_, fun c hc => hc.2.symm⟩
    · rw [List.nil_append]
      exact .inr ⟨M.next, rfl, hm, by simp, by rw [Mem.get_new, if_pos rfl]⟩
    · rw [Mem.get_new, if_neg (by have := hw c r hc; omega)]; exact hc
  · obtain ⟨N, h1, rfl⟩ := append_grown (T := tb) (k := 1) ty33 rfl ty5 rfl hg hy hm (bvs_one m) ⟨by simp only; omega, by omega⟩
    refine ⟨_, _, h1, ?_, (hw.kill _).new _, rfl, fun c r hn hc => ?_, fun c hc => hc.2.symm⟩
    · refine .inr ⟨M.next, by simp, by simp; omega, by simp, ?_⟩
      rw [Mem.get_new, if_pos (by rfl), bvs_append]
    · have hcb : c ≠ b := fun he => by
        subst he
        exact hn (by rw [hg.1]; exact ⟨by have := hg.2.1; omega, rfl⟩)
      rw [Mem.get_new, if_neg (by have := hw c r hc; simp; omega), Mem.get_kill, if_neg hcb]; exact hc

theorem bytes_one {M : Mem} {b : Nat} {v : BitVec 8} {rw' : Bool} (h : M.get b = some (.cells [bv8 v] rw')) : BytesAt M (.sl b 0 1 1 none) [v] :=
  ⟨rfl, .inr ⟨b, 0, 1, none, rfl, ⟨Nat.le_refl _, .inl rfl⟩, .inr ⟨_, _, h, Nat.le_refl _, rfl⟩⟩⟩

theorem BytesAt.slice {M : Mem} {x : AV} {l : List (BitVec 8)} (h : BytesAt M x l) {lo hi : Option AV} {a r : Nat}
    (hlo : (lo = none ∧ a = 0) ∨ lo = some (.val (.int .i64 (a : Int)))) (hhi : (hi = none ∧ r = l.length) ∨ hi = some (.val (.int .i64 (r : Int)))) (har : a ≤ r) (hrn : r ≤ l.length) :
    ∃ y, evSliceAt tb 33 x lo hi none = some y ∧ BytesAt M y ((l.take r).drop a) := by
  obtain ⟨y, h1, h2, _⟩ := SlAt.slice h ty33 rfl ty5 rfl (k1 := .i64) (k2 := .i64) hlo hhi har hrn
  refine ⟨y, h1, ?_⟩
  unfold BytesAt
  have e1 : ((l.take r).drop a).length = r - a := by simp; omega
  have e2 : bvs ((l.take r).drop a) = ((bvs l).drop (a * 1)).take ((r - a) * 1) := by
    unfold bvs
    rw [Nat.mul_one, Nat.mul_one, List.map_drop, List.map_take, List.drop_take]
  rw [e1, e2]; exact h2

theorem getD_get {l : List (BitVec 8)} {i : Nat} (h : i < l.length) : l.getD i 0#8 = l[i] := by
  rw [List.getD_eq_getElem?_getD, List.getElem?_eq_getElem h]; rfl

/-- A slice has become another one by what was appended; whatever else there was stays. -/
structure GrowTo (M N : Mem) (x x' : AV) : Prop where
  wf : N.WF
  nxt : M.next ≤ N.next
  old : ∀ c, c < M.next → ¬ inBlk x c → N.get c = M.get c
  blk : ∀ c, inBlk x' c → M.next ≤ c ∨ inBlk x c

theorem GrowTo.refl {M : Mem} (hw : M.WF) (x : AV) : GrowTo M M x x := ⟨hw, Nat.le_refl _, fun _ _ _ => rfl, fun _ h => .inr h⟩

theorem GrowTo.trans {M N P : Mem} {x x' x'' : AV} (h : GrowTo M N x x') (k : GrowTo N P x' x'') : GrowTo M P x x'' :=
  ⟨k.wf, Nat.le_trans h.nxt k.nxt, fun c hc hx => by
    have h1 : ¬ inBlk x' c := fun h2 => by
      rcases h.blk c h2 with h3 | h3
      · omega
      · exact hx h3
    rw [k.old c (Nat.lt_of_lt_of_le hc h.nxt) h1, h.old c hc hx], fun c hc => by
    rcases k.blk c hc with h1 | h1
    · exact .inl (Nat.le_trans h.nxt h1)
    · exact h.blk c h1⟩

theorem GrowTo.pre {M N P : Mem} {x x' : AV} (h : Keep M N []) (k : GrowTo N P x x') : GrowTo M P x x' :=
  ⟨k.wf, Nat.le_trans h.nxt k.nxt, fun c hc hx => by rw [k.old c (Nat.lt_of_lt_of_le hc h.nxt) hx, h.old c hc (by simp)], fun c hc => (k.blk c hc).imp (Nat.le_trans h.nxt) id⟩

theorem GrowTo.post {M N P : Mem} {x x' : AV} (h : GrowTo M N x x') (k : Keep N P []) : GrowTo M P x x' :=
  ⟨k.wf, Nat.le_trans h.nxt k.nxt, fun c hc hx => by rw [k.old c (Nat.lt_of_lt_of_le hc h.nxt) (by simp), h.old c hc hx], h.blk⟩

/-- What lies elsewhere reads as it did. -/
theorem GrowTo.keep {M N : Mem} {x x' y : AV} {l : List (BitVec 8)} (h : GrowTo M N x x') (hw : M.WF) (hy : BytesAt M y l) (hd : ∀ c, inBlk y c → ¬ inBlk x c) : BytesAt N y l :=
  SlAt.mono hy fun c r hin hc => by rw [h.old c (hw c r hc) (hd c hin)]; exact hc

theorem Gr.grow {M : Mem} {x y : AV} {l m : List (BitVec 8)} (hw : M.WF) (h : Gr M x l) (hy : BytesAt M y m) (hm : 0 < m.length) (hb : l.length + m.length ≤ 1000000) :
    ∃ x' N, evAppend tb 33 33 x y M = some (x', N) ∧ Gr N x' (l ++ m) ∧ GrowTo M N x x' ∧ ∀ c, inBlk x' c → c = M.next := by
  rcases h with ⟨rfl, rfl⟩ | ⟨b, hg⟩
  · obtain ⟨N, h1, rfl⟩ := append_nil (T := tb) (k := 1) ty33 rfl ty5 rfl hy hm ⟨by simp only; simp only [List.length_nil] at hb; omega, by simp only [List.length_nil] at hb; omega⟩
    refine ⟨_, _, h1, ?_, ⟨hw.new _, Nat.le_succ _, fun c hc _ => ?_, fun c hc => .inl (by rw [← hc.2]; exact Nat.le_refl _)⟩, fun c hc => hc.2.symm⟩
    · rw [List.nil_append]
      exact .inr ⟨M.next, rfl, hm, by simp, by rw [Mem.get_new, if_pos rfl]⟩
    · rw [Mem.get_new, if_neg (by omega)]
  · obtain ⟨N, h1, rfl⟩ := append_grown (T := tb) (k := 1) ty33 rfl ty5 rfl hg hy hm (bvs_one m) ⟨by simp only; omega, by omega⟩
    refine ⟨_, _, h1, ?_, ⟨(hw.kill _).new _, Nat.le_succ _, fun c hc hn => ?_, fun c hc => .inl (by rw [← hc.2]; exact Nat.le_refl _)⟩, fun c hc => hc.2.symm⟩
    · refine .inr ⟨M.next, by simp, by simp; omega, by simp, ?_⟩
      rw [Mem.get_new, if_pos (by rfl), bvs_append]
    · have hcb : c ≠ b := fun he => by
        subst he
        exact hn (by rw [hg.1]; exact ⟨by have := hg.2.1; omega, rfl⟩)
      rw [Mem.get_new, if_neg (by simp; omega), Mem.get_kill, if_neg hcb]

/-- Bytes of the text are appended. -/
theorem Gr.lit {M : Mem} {x : AV} {l : List (BitVec 8)} (hw : M.WF) (h : Gr M x l) (m : List (BitVec 8)) (hm : 0 < m.length) (hb : l.length + m.length ≤ 1000000) :
    ∃ x' N, evAppend tb 33 33 x (.sl M.next 0 m.length m.length none) (M.new (.cells (bvs m) true)) = some (x', N) ∧ Gr N x' (l ++ m) ∧ GrowTo M N x x' := by
  have hs : BytesAt (M.new (.cells (bvs m) true)) (.sl M.next 0 m.length m.length none) m :=
    ⟨by simp, .inr ⟨M.next, 0, m.length, none, rfl, ⟨Nat.le_refl _, .inl rfl⟩, .inr ⟨_, _, by rw [Mem.get_new, if_pos rfl], by simp, by rw [List.drop_zero, Nat.mul_one, List.take_of_length_le (by simp)]⟩⟩⟩
  have hg : Gr (M.new (.cells (bvs m) true)) x l := h.mono fun c r _ hc => by rw [Mem.get_new, if_neg (by have := hw c r hc; omega)]; exact hc
  obtain ⟨x', N, h1, h2, h3, _⟩ := Gr.grow (hw.new _) hg hs hm hb
  exact ⟨x', N, h1, h2, h3.pre (Keep.new hw _)⟩

theorem eq_nil_sl (M : Mem) (b o n c : Nat) (ex : Option Nat) : eBin tb .eql 33 (.tmp 3) (.const (.slice none 0 0)) (.sl b o n c ex) (.val (.slice none 0 0)) M = some (.val (.bool false), M) := by
  refine eBin_some ?_
  show (eqRes .eql (addrEq tb 33 (.sl b o n c ex) (.val (.slice none 0 0)))) = _
  unfold addrEq
  rw [ty33]
  rfl

theorem t_clone (M : Mem) (hw : M.WF) (x : AV) (l : List (BitVec 8)) (hx : BytesAt M x l) (h0 : 0 < l.length) (hl : l.length ≤ 1000000) :
    CallA tb.P 72 [x] M fun y N => Gr N y l ∧ Keep M N [] ∧ ∀ c, inBlk y c → M.next ≤ c := by
  refine F72_ok ?_
  unfold F72
  rcases hx.2 with ⟨_, hn⟩ | ⟨b, o, cp, ex, rfl, _⟩
  · omega
  · refine bindO_i (eq_nil_sl _ _ _ _ _ _) ?_
    simp only [zB_bool]
    refine condB_i (fun h => by cases h) (fun _ => ?_)
    refine letP_i fun M3 hM3 => ?_
    subst hM3
    have hw3 := hw.new (.cells [] true)
    have hx3 : BytesAt (M.new (.cells [] true)) (.sl b o l.length cp ex) l := SlAt.keep0 hx hw (Keep.new hw _)
    have hap : evAppend tb 33 33 (.sl M.next 0 0 0 none) (.sl b o l.length cp ex) (M.new (.cells [] true)) = some (.sl (M.next + 1) 0 l.length l.length (some 1), (M.new (.cells [] true)).new (.cells (bvs l) true)) := by
      unfold evAppend isInt
      rw [ty33]
      simp only [ty5, SlAt.evLen hx3, SlAt.evFirst hx3, bvs_length, Nat.mul_one, AM.beq_self, cond_true, Nat.zero_add, ble_not (show ¬ l.length ≤ 0 by omega), cond_false]
      unfold evGrow roomy
      simp only [Nat.zero_add, ble_of (show (3 * l.length + 4096) * 1 ≤ 281474976710656 by omega), ble_of (show l.length ≤ 1152921504606846976 by omega), cond_true]
      rfl
    refine bindO_i hap ?_
    refine ⟨.inr ⟨M.next + 1, rfl, h0, by simp, by rw [Mem.get_new, if_pos (by rfl)]⟩, (Keep.new hw _).trans0 (Keep.new hw3 _), fun c hc => ?_⟩
    have := hc.2
    omega

theorem wrap_i64_u8 (b : BitVec 8) : IntKind.wrap .i64 (b.toNat : Int) = (b.toNat : Int) := by
  have := b.isLt
  exact wrap_i64' (by omega) (by omega)

theorem ne_u8 (b : BitVec 8) (n : Nat) (hn : n < 256) : ((b.toNat : Int) != (n : Int)) = decide (b ≠ BitVec.ofNat 8 n) := by
  rw [Bool.eq_iff_iff]
  simp only [bne_iff_ne, ne_eq, decide_eq_true_eq]
  refine not_congr ⟨fun h => BitVec.eq_of_toNat_eq ?_, fun h => by rw [h]; simp; omega⟩
  simp; omega

end Go.Proofs.Ytjffimbigamadaa
