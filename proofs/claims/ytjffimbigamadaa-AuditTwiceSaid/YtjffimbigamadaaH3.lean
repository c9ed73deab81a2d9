import Derived.Test.YtjffimbigamadaaG1
import Derived.Test.YtjffimbigamadaaP4
set_option linter.unusedSimpArgs false
set_option linter.unusedVariables false
set_option linter.unusedSectionVars false
/- Sums, tags (turned from the first seat by ren.py). -/
namespace Go.Proofs.Ytjffimbigamadaa
open Go.AM

def bit (r : BitVec 32) : BitVec 32 := if r &&& 1#32 = 1#32 then (r >>> 1) ^^^ 3988292384#32 else r >>> 1

def bits : Nat → BitVec 32 → BitVec 32
  | 0, r => r
  | n + 1, r => bits n (bit r)

def reg (r : BitVec 32) (l : List (BitVec 8)) : BitVec 32 := l.foldl (fun r x => bits 8 (r ^^^ x.setWidth 32)) r

def more (s : BitVec 32) (l : List (BitVec 8)) : BitVec 32 := ~~~ (reg (~~~ s) l)

theorem reg_take (r : BitVec 32) (l : List (BitVec 8)) (i : Nat) (hi : i < l.length) : reg r (l.take (i + 1)) = bits 8 (reg r (l.take i) ^^^ l[i].setWidth 32) := by
  rw [List.take_succ_eq_append_getElem hi]
  unfold reg
  rw [List.foldl_append]
  rfl

theorem bit_t {r : BitVec 32} (h : r &&& 1#32 = 1#32) : bit r = (r >>> 1) ^^^ 3988292384#32 := by unfold bit; rw [if_pos h]

theorem bit_f {r : BitVec 32} (h : ¬ r &&& 1#32 = 1#32) : bit r = r >>> 1 := by unfold bit; rw [if_neg h]

theorem wrap_u8_u32 (b : BitVec 8) : IntKind.u32.wrap (b.toNat : Int) = ((b.setWidth 32).toNat : Int) := by
  rw [wrap_u32, BitVec.toNat_setWidth]
  have := b.isLt
  omega

theorem iXor_u32 (a b : BitVec 32) : iXor .u32 (a.toNat : Int) (b.toNat : Int) = ((a ^^^ b).toNat : Int) := by
  show IntKind.u32.wrap ((BitVec.ofInt 32 (a.toNat : Int) ^^^ BitVec.ofInt 32 (b.toNat : Int)).toNat : Int) = _
  rw [ofInt_bv, ofInt_bv, wrap_u32_bv]

theorem iXor_poly (a : BitVec 32) : iXor .u32 (a.toNat : Int) 3988292384 = ((a ^^^ 3988292384#32).toNat : Int) := iXor_u32 a 3988292384#32

theorem iAnd1_u32 (a : BitVec 32) : iAnd .u32 (a.toNat : Int) 1 = ((a &&& 1#32).toNat : Int) := by
  show IntKind.u32.wrap ((BitVec.ofInt 32 (a.toNat : Int) &&& BitVec.ofInt 32 ((1#32).toNat : Int)).toNat : Int) = _
  rw [ofInt_bv, ofInt_bv, wrap_u32_bv]

theorem iShr1_u32 (a : BitVec 32) : iShr .u32 (a.toNat : Int) 1 = ((a >>> 1).toNat : Int) := by
  show Int.fdiv (a.toNat : Int) 2 = _
  rw [Int.fdiv_eq_ediv_of_nonneg _ (by omega), BitVec.toNat_ushiftRight, Nat.shiftRight_eq_div_pow]
  omega

theorem eq1_u32 (a : BitVec 32) : ((a.toNat : Int) == 1) = decide (a = 1#32) := by
  rw [Bool.eq_iff_iff]
  simp only [beq_iff_eq, decide_eq_true_eq]
  constructor
  · intro h; exact BitVec.eq_of_toNat_eq (by simp; omega)
  · intro h; rw [h]; rfl

theorem crc_more (M : Mem) (s : BitVec 32) (x : AV) (l : List (BitVec 8)) (hx : BytesAt M x l) (hl : l.length ≤ 9223372036854775806) :
    CallA tb.P 138 [.val (.int .u32 s.toNat), x] M fun y N => y = .val (.int .u32 (more s l).toNat) ∧ N = M := by
  refine F138_ok ?_
  unfold F138
  simp only [zI_int]
  refine bindO_i (eUn_some (not_u32 _ s)) ?_
  simp only [ofV, zI_int]
  refine bindO_i (eLen_some hx.len) ?_
  simp only [zI_int]
  refine ⟨fun z k n N => ∃ i : Nat, z = ((reg (~~~ s) (l.take i)).toNat : Int) ∧ k = i ∧ n = l.length - i ∧ i ≤ l.length ∧ N = M, ⟨l.length, 0, rfl, rfl, rfl, Nat.zero_le _, rfl⟩, ?_⟩
  rintro _ z k n N ⟨i, rfl, rfl, rfl, hi, rfl⟩
  refine condB_i (fun hlt => ?_) (fun hge => ?_)
  · have hlt : i < l.length := by simpa using hlt
    obtain ⟨b, o, hia, hld⟩ := hx.at hlt
    refine bindO_i (eIA_some hia) ?_
    refine bindO_i (eLd_some hld) ?_
    simp only [zI_int, wrap_u8_u32, iXor_u32]
    refine ⟨fun z k n N' => ∃ (r : BitVec 32) (q : Nat), z = (r.toNat : Int) ∧ k = ((8 - q : Nat) : Int) ∧ q ≤ 8 ∧ n = q ∧ N' = N ∧ bits q r = reg (~~~ s) (l.take (i + 1)), ⟨8, _, 8, rfl, rfl, Nat.le_refl _, rfl, rfl, (reg_take _ l i hlt).symm⟩, ?_⟩
    rintro _ z k n N' ⟨r, q, rfl, rfl, hq, rfl, rfl, hr⟩
    refine condB_i (fun hlt' => ?_) (fun hge' => ?_)
    · have hn0 : 0 < n := by have : ((8 - n : Nat) : Int) < 8 := by simpa using hlt'
                             omega
      have hbits : bits (n - 1) (bit r) = reg (~~~ s) (l.take (i + 1)) := by
        rw [← hr, show n = (n - 1) + 1 by omega]; rfl
      simp only [letP_eq, iShr1_u32, iXor_poly, iAnd1_u32, eq1_u32, iInc (show 8 - n < 9223372036854775807 by omega)]
      refine condB_i (fun hb => ?_) (fun hb => ?_)
      · exact ⟨n - 1, by omega, _, n - 1, rfl, by rw [show 8 - (n - 1) = 8 - n + 1 by omega], by omega, rfl, by trivial, by rw [← bit_t (by simpa using hb)]; exact hbits⟩
      · exact ⟨n - 1, by omega, _, n - 1, rfl, by rw [show 8 - (n - 1) = 8 - n + 1 by omega], by omega, rfl, by trivial, by rw [← bit_f (by simpa using hb)]; exact hbits⟩
    · have hn0 : n = 0 := by have : ¬ ((8 - n : Nat) : Int) < 8 := by simpa using hge'
                             omega
      subst hn0
      refine ⟨l.length - (i + 1), by omega, i + 1, ?_, iInc (by omega), rfl, hlt, rfl⟩
      rw [← hr]; rfl
  · have hge : i = l.length := by have : ¬ (i : Int) < l.length := by simpa using hge
                                  omega
    subst hge
    refine bindO_i (eUn_some (not_u32 _ _)) ?_
    simp only [ofV, zI_int, List.take_length, more, and_self]

theorem xor_step (r x : BitVec 32) : (r >>> 1) ^^^ (x >>> 1) = (r ^^^ x) >>> 1 := (BitVec.ushiftRight_xor_distrib r x 1).symm

def Small (n : Nat) (z : BitVec 32) : Prop := z.toNat < 2 ^ n

theorem Small.shr {n : Nat} {z : BitVec 32} (h : Small (n + 1) z) : Small n (z >>> 1) := by
  unfold Small at h ⊢
  rw [BitVec.toNat_ushiftRight, Nat.shiftRight_eq_div_pow]
  have : 2 ^ (n + 1) = 2 * 2 ^ n := Nat.pow_succ'
  rw [this] at h
  generalize 2 ^ n = p at h ⊢
  omega

theorem Small.zero {z : BitVec 32} (h : Small 0 z) : z = 0#32 := by
  apply BitVec.eq_of_toNat_eq
  unfold Small at h
  simpa using h

theorem Small.byte (b : BitVec 8) : Small 8 (b.setWidth 32) := by
  unfold Small
  rw [BitVec.toNat_setWidth]
  have := b.isLt
  omega

theorem ref_more (M : Mem) (s : BitVec 32) (x : AV) (l : List (BitVec 8)) (hx : BytesAt M x l) (hl : l.length ≤ 9223372036854775806) :
    CallA tb.P 122 [.val (.int .u32 s.toNat), x] M fun y N => y = .val (.int .u32 (more s l).toNat) ∧ N = M := by
  refine F122_ok ?_
  unfold F122
  simp only [zI_int]
  refine bindO_i (eUn_some (not_u32 _ s)) ?_
  simp only [ofV, zI_int]
  refine ⟨fun z k n N => ∃ i : Nat, z = ((reg (~~~ s) (l.take i)).toNat : Int) ∧ k = i ∧ n = l.length - i ∧ i ≤ l.length ∧ N = M, ⟨l.length, 0, rfl, rfl, rfl, Nat.zero_le _, rfl⟩, ?_⟩
  rintro _ z k n N ⟨i, rfl, rfl, rfl, hi, rfl⟩
  refine bindO_i (eLen_some hx.len) ?_
  simp only [zI_int]
  refine condB_i (fun hlt => ?_) (fun hge => ?_)
  · have hlt : i < l.length := by simpa using hlt
    obtain ⟨b, o, hia, hld⟩ := hx.at hlt
    refine bindO_i (eIA_some hia) ?_
    refine bindO_i (eLd_some hld) ?_
    simp only [zI_int, wrap_u8_u32]
    refine ⟨fun z y k n N' => ∃ (r v : BitVec 32) (q : Nat), z = (r.toNat : Int) ∧ y = (v.toNat : Int) ∧ k = ((8 - q : Nat) : Int) ∧ q ≤ 8 ∧ n = q ∧ N' = N ∧ Small q v ∧ bits q (r ^^^ v) = reg (~~~ s) (l.take (i + 1)),
      ⟨8, _, _, 8, rfl, rfl, rfl, Nat.le_refl _, rfl, rfl, Small.byte _, (reg_take _ l i hlt).symm⟩, ?_⟩
    rintro _ z y k n N' ⟨r, v, q, rfl, rfl, rfl, hq, rfl, rfl, hv, hr⟩
    refine condB_i (fun hlt' => ?_) (fun hge' => ?_)
    · have hn0 : 0 < n := by have : ((8 - n : Nat) : Int) < 8 := by simpa using hlt'
                             omega
      have hv' : Small (n - 1) (v >>> 1) := Small.shr (by rw [show n - 1 + 1 = n by omega]; exact hv)
      have hbits : bits (n - 1) (bit (r ^^^ v)) = reg (~~~ s) (l.take (i + 1)) := by
        rw [← hr, show n = (n - 1) + 1 by omega]; rfl
      simp only [letP_eq, iXor_u32, iShr1_u32, iXor_poly, iAnd1_u32, eq1_u32, iInc (show 8 - n < 9223372036854775807 by omega)]
      refine condB_i (fun hb => ?_) (fun hb => ?_)
      · refine ⟨n - 1, by omega, _, _, n - 1, rfl, rfl, by rw [show 8 - (n - 1) = 8 - n + 1 by omega], by omega, rfl, by trivial, hv', ?_⟩
        rw [BitVec.xor_assoc, BitVec.xor_comm 3988292384#32, ← BitVec.xor_assoc, xor_step, ← bit_t (by simpa using hb)]
        exact hbits
      · refine ⟨n - 1, by omega, _, _, n - 1, rfl, rfl, by rw [show 8 - (n - 1) = 8 - n + 1 by omega], by omega, rfl, by trivial, hv', ?_⟩
        rw [xor_step, ← bit_f (by simpa using hb)]
        exact hbits
    · have hn0 : n = 0 := by have : ¬ ((8 - n : Nat) : Int) < 8 := by simpa using hge'
                             omega
      subst hn0
      refine ⟨l.length - (i + 1), by omega, i + 1, ?_, iInc (by omega), rfl, hlt, rfl⟩
      have hz0 : v = 0#32 := hv.zero
      rw [← hr, hz0]
      simp [bits]
  · have hge : i = l.length := by have : ¬ (i : Int) < l.length := by simpa using hge
                                  omega
    subst hge
    refine bindO_i (eUn_some (not_u32 _ _)) ?_
    simp only [ofV, zI_int, List.take_length, more, and_self]

theorem crc_of (M : Mem) (x : AV) (l : List (BitVec 8)) (hx : BytesAt M x l) (hl : l.length ≤ 9223372036854775806) :
    CallA tb.P 132 [x] M fun y N => y = .val (.int .u32 (more 0#32 l).toNat) ∧ N = M := by
  refine F132_ok ((crc_more M 0#32 x l hx hl).mono ?_)
  rintro y N ⟨rfl, rfl⟩
  simp only [zI_int, and_self]

theorem ref_of (M : Mem) (x : AV) (l : List (BitVec 8)) (hx : BytesAt M x l) (hl : l.length ≤ 9223372036854775806) :
    CallA tb.P 107 [x] M fun y N => y = .val (.int .u32 (more 0#32 l).toNat) ∧ N = M := by
  refine F107_ok ((ref_more M 0#32 x l hx hl).mono ?_)
  rintro y N ⟨rfl, rfl⟩
  simp only [zI_int, and_self]

theorem ty76 : tb.ty.get 76 = some ⟨.st [(0, 1, false), (1, 1, false), (2, 1, false), (3, 1, false)], 4, 32, [.int .i64 0, .int .i64 0, .int .i64 0, .int .i64 0], some [3, 3, 3, 3]⟩ := by kernel_rfl

theorem t_in (M : Mem) (a b c : Int) : CallA tb.P 128 [i64 a, i64 b, i64 c] M fun y N => y = .val (.bool (decide (b ≤ a) && decide (a ≤ c))) ∧ N = M := by
  refine F128_ok ?_
  unfold F128
  simp only [i64, zI_int, letP_eq]
  refine condB_i (fun h => ?_) (fun h => ?_)
  · have h : b ≤ a := by simpa using h
    simp [h]
  · have h : ¬ b ≤ a := by simpa using h
    simp [h]

/-- May such a tag be? -/
def mayT (k p s e : Int) : Bool := decide (1 ≤ k ∧ k ≤ 3 ∧ 0 ≤ p ∧ p ≤ 65535 ∧ (k = 3 → p = 0) ∧ 0 ≤ s ∧ s ≤ 4294967295 ∧ 0 ≤ e ∧ e ≤ 16777215)

def tagA (k p s e : Int) : AV := .agg [i64 k, i64 p, i64 s, i64 e]

theorem tag_ld {M : Mem} {b : Nat} {k p s e : Int} (hg : M.get b = some (.cells [i64 k, i64 p, i64 s, i64 e] true)) :
    evLoad tb 3 (.ptr b 0) M = some (i64 k) ∧ evLoad tb 3 (.ptr b 1) M = some (i64 p) ∧ evLoad tb 3 (.ptr b 2) M = some (i64 s) ∧ evLoad tb 3 (.ptr b 3) M = some (i64 e) ∧ evLoad tb 76 (.ptr b 0) M = some (tagA k p s e) :=
  ⟨ld_cell ty3 rfl hg rfl, ld_cell ty3 rfl hg rfl, ld_cell ty3 rfl hg rfl, ld_cell ty3 rfl hg rfl, ld_agg (n := 4) ty76 rfl rfl hg (by simp)⟩

theorem t_may (M : Mem) (hw : M.WF) (k p s e : Int) : CallA tb.P 133 [tagA k p s e] M fun y N => y = .val (.bool (mayT k p s e)) ∧ Keep M N [] := by
  refine F133_ok ?_
  unfold F133
  refine ⟨k, p, s, e, rfl, ?_⟩
  simp only [letP_eq]
  have hg : (M.new (.cells [i64 k, i64 p, i64 s, i64 e] true)).get M.next = some (.cells [i64 k, i64 p, i64 s, i64 e] true) := by rw [Mem.get_new, if_pos rfl]
  obtain ⟨l0, l1, l2, l3, _⟩ := tag_ld hg
  have hK := Keep.new hw (.cells [i64 k, i64 p, i64 s, i64 e] true)
  refine bindO_i (eLd_some l0) ?_
  simp only [i64, zI_int]
  refine (t_in _ k 1 3).mono ?_
  rintro y N ⟨rfl, rfl⟩
  simp only [zB_bool]
  refine condB_i (fun h1 => ?_) (fun h1 => ⟨?_, hK⟩)
  rotate_left
  · have : mayT k p s e = false := by
      unfold mayT
      simp only [Bool.and_eq_false_iff, decide_eq_false_iff_not] at h1 ⊢
      omega
    rw [this]
  simp only [Bool.and_eq_true, decide_eq_true_eq] at h1
  refine bindO_i (eLd_some l1) ?_
  simp only [i64, zI_int]
  refine (t_in _ p 0 65535).mono ?_
  rintro y N ⟨rfl, rfl⟩
  simp only [zB_bool]
  refine condB_i (fun h2 => ?_) (fun h2 => ⟨?_, hK⟩)
  rotate_left
  · have : mayT k p s e = false := by
      unfold mayT
      simp only [Bool.and_eq_false_iff, decide_eq_false_iff_not] at h2 ⊢
      omega
    rw [this]
  simp only [Bool.and_eq_true, decide_eq_true_eq] at h2
  have tail : (k = 3 → p = 0) → bindO (eLd tb 3 (.ptr M.next 2) (M.new (.cells [i64 k, i64 p, i64 s, i64 e] true))) (fun y18 => zI .i64 y18.1 fun z19 => CallA tb.P 128 [(.val (.int .i64 z19)), (.val (.int .i64 0)), (.val (.int .i64 4294967295))] (M.new (.cells [i64 k, i64 p, i64 s, i64 e] true)) fun y20 M21 => zB y20 fun b22 =>
      condB (b22) (bindO (eLd tb 3 (.ptr M.next 3) M21) fun y23 => zI .i64 y23.1 fun z24 => CallA tb.P 128 [(.val (.int .i64 z24)), (.val (.int .i64 0)), (.val (.int .i64 16777215))] M21 fun y25 M26 => zB y25 fun b27 => AV.val (.bool b27) = .val (.bool (mayT k p s e)) ∧ Keep M M26 []) (AV.val (.bool false) = .val (.bool (mayT k p s e)) ∧ Keep M M21 [])) := by
    intro h3
    refine bindO_i (eLd_some l2) ?_
    simp only [i64, zI_int]
    refine (t_in _ s 0 4294967295).mono ?_
    rintro y N ⟨rfl, rfl⟩
    simp only [zB_bool]
    refine condB_i (fun h4 => ?_) (fun h4 => ⟨?_, hK⟩)
    · simp only [Bool.and_eq_true, decide_eq_true_eq] at h4
      refine bindO_i (eLd_some l3) ?_
      simp only [i64, zI_int]
      refine (t_in _ e 0 16777215).mono ?_
      rintro y N ⟨rfl, rfl⟩
      simp only [zB_bool]
      refine ⟨?_, hK⟩
      congr 2
      unfold mayT
      rw [Bool.eq_iff_iff]
      simp only [Bool.and_eq_true, decide_eq_true_eq]
      constructor
      · intro h; exact ⟨h1.1, h1.2, h2.1, h2.2, h3, h4.1, h4.2, h.1, h.2⟩
      · intro h; exact ⟨h.2.2.2.2.2.2.2.1, h.2.2.2.2.2.2.2.2⟩
    · have : mayT k p s e = false := by
        unfold mayT
        simp only [Bool.and_eq_false_iff, decide_eq_false_iff_not] at h4 ⊢
        omega
      rw [this]
  refine bindO_i (eLd_some l0) ?_
  simp only [i64, zI_int]
  refine condB_i (fun h3 => ?_) (fun h3 => ?_)
  · exact tail (fun h => by subst h; simp at h3)
  · refine bindO_i (eLd_some l1) ?_
    simp only [i64, zI_int]
    refine condB_i (fun h5 => ?_) (fun h5 => ⟨?_, hK⟩)
    · exact tail (fun _ => by simpa using h5)
    · have hk3 : k = 3 := by simpa using h3
      have hp0 : p ≠ 0 := by simpa using h5
      have : mayT k p s e = false := by
        unfold mayT
        simp only [decide_eq_false_iff_not]
        rintro ⟨_, _, _, _, h, _⟩
        exact hp0 (h hk3)
      rw [this]

theorem t_refmay (M : Mem) (hw : M.WF) (k p s e : Int) : CallA tb.P 105 [tagA k p s e] M fun y N => y = .val (.bool (mayT k p s e)) ∧ Keep M N [] := by
  refine F105_ok ?_
  unfold F105
  refine ⟨k, p, s, e, rfl, ?_⟩
  simp only [letP_eq]
  have hg : (M.new (.cells [i64 k, i64 p, i64 s, i64 e] true)).get M.next = some (.cells [i64 k, i64 p, i64 s, i64 e] true) := by rw [Mem.get_new, if_pos rfl]
  obtain ⟨l0, l1, l2, l3, _⟩ := tag_ld hg
  have hK := Keep.new hw (.cells [i64 k, i64 p, i64 s, i64 e] true)
  have no : ¬ (1 ≤ k ∧ k ≤ 3 ∧ 0 ≤ p ∧ p ≤ 65535 ∧ (k = 3 → p = 0) ∧ 0 ≤ s ∧ s ≤ 4294967295 ∧ 0 ≤ e ∧ e ≤ 16777215) → AV.val (.bool false) = .val (.bool (mayT k p s e)) ∧ Keep M (M.new (.cells [i64 k, i64 p, i64 s, i64 e] true)) [] := fun h => ⟨by
    have : mayT k p s e = false := by unfold mayT; simpa only [decide_eq_false_iff_not] using h
    rw [this], hK⟩
  have L0 := eLd_some l0
  have L1 := eLd_some l1
  have L2 := eLd_some l2
  have L3 := eLd_some l3
  simp only [i64] at L0 L1 L2 L3 no ⊢
  simp only [L0, L1, L2, L3, bindO_some, zI_int, ge_iff_le]
  refine condB_i (fun a1 => ?_) (fun a1 => no (by simp only [decide_eq_false_iff_not] at a1; omega))
  refine condB_i (fun a2 => ?_) (fun a2 => no (by simp only [decide_eq_false_iff_not] at a2; omega))
  refine condB_i (fun a3 => ?_) (fun a3 => no (by simp only [decide_eq_false_iff_not] at a3; omega))
  refine condB_i (fun a4 => ?_) (fun a4 => no (by simp only [decide_eq_false_iff_not] at a4; omega))
  simp only [decide_eq_true_eq] at a1 a2 a3 a4
  have tail : (k = 3 → p = 0) → condB (decide (0 ≤ s)) (condB (decide (s ≤ 4294967295)) (condB (decide (0 ≤ e)) (AV.val (.bool (decide (e ≤ 16777215))) = .val (.bool (mayT k p s e)) ∧ Keep M (M.new (.cells [.val (.int .i64 k), .val (.int .i64 p), .val (.int .i64 s), .val (.int .i64 e)] true)) [])
      (AV.val (.bool false) = .val (.bool (mayT k p s e)) ∧ Keep M (M.new (.cells [.val (.int .i64 k), .val (.int .i64 p), .val (.int .i64 s), .val (.int .i64 e)] true)) []))
      (AV.val (.bool false) = .val (.bool (mayT k p s e)) ∧ Keep M (M.new (.cells [.val (.int .i64 k), .val (.int .i64 p), .val (.int .i64 s), .val (.int .i64 e)] true)) []))
      (AV.val (.bool false) = .val (.bool (mayT k p s e)) ∧ Keep M (M.new (.cells [.val (.int .i64 k), .val (.int .i64 p), .val (.int .i64 s), .val (.int .i64 e)] true)) []) := by
    intro h3
    refine condB_i (fun a5 => ?_) (fun a5 => no (by simp only [decide_eq_false_iff_not] at a5; omega))
    refine condB_i (fun a6 => ?_) (fun a6 => no (by simp only [decide_eq_false_iff_not] at a6; omega))
    refine condB_i (fun a7 => ?_) (fun a7 => no (by simp only [decide_eq_false_iff_not] at a7; omega))
    simp only [decide_eq_true_eq] at a5 a6 a7
    refine ⟨?_, hK⟩
    congr 2
    unfold mayT
    rw [Bool.eq_iff_iff]
    simp only [decide_eq_true_eq]
    constructor
    · intro h; exact ⟨a1, a2, a3, a4, h3, a5, a6, a7, h⟩
    · intro h; exact h.2.2.2.2.2.2.2.2
  refine condB_i (fun b1 => tail (fun h => by subst h; simp at b1)) (fun b1 => ?_)
  refine condB_i (fun b2 => tail (fun _ => by simpa using b2)) (fun b2 => no ?_)
  have hk3 : k = 3 := by simpa using b1
  have hp0 : p ≠ 0 := by simpa using b2
  rintro ⟨_, _, _, _, h, _⟩
  exact hp0 (h hk3)

def byteOf (n : Int) (i : Nat) : BitVec 8 := BitVec.ofInt 8 (n.fdiv (2 ^ (8 * i)))

/-- A number's bytes, the highest first. -/
def be (n : Int) : Nat → List (BitVec 8)
  | 0 => []
  | s + 1 => byteOf n s :: be n s

@[simp] theorem be_length (n : Int) : ∀ s, (be n s).length = s
  | 0 => rfl
  | s + 1 => by simp [be, be_length n s]

theorem wrap_ofInt (z : Int) : IntKind.wrap .u8 z = ((BitVec.ofInt 8 z).toNat : Int) := by
  rw [wrap_u8, BitVec.toNat_ofInt]
  have : (0 : Int) ≤ z % 256 := by omega
  show z % 256 = ((z % ((2 ^ 8 : Nat) : Int)).toNat : Int)
  have e : ((2 ^ 8 : Nat) : Int) = 256 := rfl
  rw [e]; omega

theorem shr_eq (xo yo : Operand) (n : Int) (i : Nat) (hi : i ≤ 7) (M : Mem) : eBin tb .shr 3 xo yo (.val (.int .i64 n)) (.val (.int .i64 (iMul .i64 8 (i : Int)))) M = some (.val (.int .i64 (n.fdiv (2 ^ (8 * i)))), M) := by
  refine eBin_some ?_
  have e : iMul .i64 8 (i : Int) = ((8 * i : Nat) : Int) := by
    rw [iMul, wrap_i64' (by omega) (by omega)]; omega
  rw [e]
  show (shiftBin .shr .i64 n ((8 * i : Nat) : Int)).map AV.val = _
  unfold shiftBin
  have h0 : decide (((8 * i : Nat) : Int) < 0) = false := by rw [decide_eq_false_iff_not]; omega
  have hb : IntKind.i64.bits = 64 := rfl
  rw [h0, cond_false, hb, Int.toNat_natCast, Nat.min_eq_left (by omega)]
  rfl

theorem put_go (M : Mem) (hw : M.WF) (x : AV) (l : List (BitVec 8)) (n : Int) (size : Nat) (hx : Gr M x l) (hs : size ≤ 8) (hl : l.length ≤ 900000) :
    ∃ J3 : AV → Int → Nat → Mem → Prop, (∃ n4 : Nat, J3 x (iSub .i64 (size : Int) 1) n4 M) ∧
      ∀ (_ : Nat → Option AV) (x5 : AV) (z6 : Int) (n7 : Nat) (M8 : Mem), J3 x5 z6 n7 M8 →
      (condB (decide (z6 ≥ (0 : Int))) (bindO (eBin tb .shr 3 (.tmp 15) (.tmp 17) (.val (.int .i64 n)) (.val (.int .i64 (iMul .i64 8 z6))) M8) fun y9 => zI .i64 y9.1 fun z10 => letP (M8.new (.cells [(.val (.int .u8 (IntKind.wrap .u8 z10)))] true)) fun M11 => bindO (evAppend tb 33 33 x5 (.sl M8.next 0 1 1 none) M11) fun y12 => ∃ k13 : Nat, k13 < n7 ∧
        (J3 y12.1 (iSub .i64 z6 1) k13 y12.2)) (Gr M8 x5 (l ++ be n size) ∧ GrowTo M M8 x x5)) := by
  have eS : ∀ j : Nat, j ≤ 8 → iSub .i64 (j : Int) 1 = (j : Int) - 1 := fun j hj => by rw [iSub, wrap_i64' (by omega) (by omega)]
  refine ⟨fun u z q P => ∃ (j : Nat) (pre : List (BitVec 8)), z = (j : Int) - 1 ∧ q = j ∧ j ≤ size ∧ pre ++ be n j = be n size ∧ Gr P u (l ++ pre) ∧ GrowTo M P x u, ⟨size, size, [], eS size hs, rfl, Nat.le_refl _, rfl, by simpa using hx, GrowTo.refl hw x⟩, ?_⟩
  rintro _ u z q P ⟨j, pre, rfl, rfl, hj, hpre, hu, hgr⟩
  refine condB_i (fun hge => ?_) (fun hlt => ?_)
  · have hj0 : 0 < q := by have : (q : Int) - 1 ≥ 0 := by simpa using hge
                           omega
    obtain ⟨i, rfl⟩ : ∃ i, q = i + 1 := ⟨q - 1, by omega⟩
    have ei : ((i + 1 : Nat) : Int) - 1 = (i : Int) := by omega
    rw [ei]
    refine bindO_i (shr_eq _ _ n i (by omega) P) ?_
    simp only [zI_int, wrap_ofInt]
    have hlen : pre.length + (i + 1) = size := by
      have := congrArg List.length hpre
      simpa using this
    obtain ⟨u', P', h1, h2, h3⟩ := Gr.lit hgr.wf hu [byteOf n i] (by simp) (by simp; omega)
    refine letP_i fun P1 hP1 => ?_
    subst hP1
    refine bindO_i (show evAppend tb 33 33 u (.sl P.next 0 1 1 none) (P.new (.cells [.val (.int .u8 ((BitVec.ofInt 8 (n.fdiv (2 ^ (8 * i)))).toNat : Int))] true)) = some (u', P') from h1) ?_
    refine ⟨i, by omega, i, pre ++ [byteOf n i], eS i (by omega), rfl, by omega, ?_, ?_, hgr.trans h3⟩
    · rw [List.append_assoc]; exact hpre
    · rw [← List.append_assoc]; exact h2
  · have hj0 : q = 0 := by have : ¬ (q : Int) - 1 ≥ 0 := by simpa using hlt
                           omega
    subst hj0
    have : pre = be n size := by simpa [be] using hpre
    rw [← this]
    exact ⟨hu, hgr⟩

theorem t_num (M : Mem) (hw : M.WF) (x : AV) (l : List (BitVec 8)) (n : Int) (size : Nat) (hx : Gr M x l) (hs : size ≤ 8) (hl : l.length ≤ 900000) :
    CallA tb.P 106 [x, i64 n, i64 size] M fun y N => Gr N y (l ++ be n size) ∧ GrowTo M N x y := by
  refine F106_ok ?_
  unfold F106
  simp only [i64, zI_int]
  exact put_go M hw x l n size hx hs hl

/-- A number of bytes, the highest first. -/
def val (l : List (BitVec 8)) : Nat := l.foldl (fun n b => n * 256 + b.toNat) 0

theorem val_take {l : List (BitVec 8)} {i : Nat} (h : i < l.length) : val (l.take (i + 1)) = val (l.take i) * 256 + l[i].toNat := by
  rw [List.take_succ_eq_append_getElem h]
  unfold val
  rw [List.foldl_append]
  rfl

theorem val_lt : ∀ (l : List (BitVec 8)) (i : Nat), i ≤ l.length → val (l.take i) < 256 ^ i
  | l, 0, _ => by simp [val]
  | l, i + 1, h => by
    rw [val_take (by omega)]
    have h1 := val_lt l i (by omega)
    have h2 := (l[i]'(by omega)).isLt
    have e : 256 ^ (i + 1) = 256 ^ i * 256 := Nat.pow_succ 256 i
    rw [e]
    have h3 : (val (l.take i) + 1) * 256 ≤ 256 ^ i * 256 := Nat.mul_le_mul_right 256 h1
    omega

theorem or_shl (a : Nat) (b : BitVec 8) (ha : a < 2 ^ 32) : iOr .i64 (iShl .i64 (a : Int) 8) (IntKind.wrap .i64 (b.toNat : Int)) = ((a * 256 + b.toNat : Nat) : Int) := by
  have hb := b.isLt
  have hp : (2 : Nat) ^ 32 = 4294967296 := by decide
  rw [hp] at ha
  have e1 : iShl .i64 (a : Int) 8 = ((a * 256 : Nat) : Int) := by
    show IntKind.i64.wrap ((a : Int) * 2 ^ (min (8 : Int).toNat IntKind.i64.bits)) = _
    have : (2 : Int) ^ (min (8 : Int).toNat IntKind.i64.bits) = 256 := by decide
    rw [this, wrap_i64' (by omega) (by omega)]; omega
  have e2 : IntKind.wrap .i64 (b.toNat : Int) = (b.toNat : Int) := wrap_i64' (by omega) (by omega)
  rw [e1, e2]
  show IntKind.i64.wrap ((BitVec.ofInt 64 ((a * 256 : Nat) : Int) ||| BitVec.ofInt 64 (b.toNat : Int)).toNat : Int) = _
  have e3 : (BitVec.ofInt 64 ((a * 256 : Nat) : Int) ||| BitVec.ofInt 64 (b.toNat : Int)).toNat = a * 256 + b.toNat := by
    rw [BitVec.toNat_or, BitVec.ofInt_natCast, BitVec.ofInt_natCast, BitVec.toNat_ofNat, BitVec.toNat_ofNat, Nat.mod_eq_of_lt (by omega), Nat.mod_eq_of_lt (by omega)]
    have : a * 256 = a <<< 8 := by rw [Nat.shiftLeft_eq]
    rw [this]
    exact (Nat.shiftLeft_add_eq_or_of_lt (by omega) a).symm
  rw [e3, wrap_i64' (by omega) (by omega)]

theorem val_small {l : List (BitVec 8)} (hl : l.length ≤ 4) {i : Nat} (hi : i ≤ l.length) : val (l.take i) < 4294967296 := by
  have h1 := val_lt l i hi
  have h2 : 256 ^ i ≤ 256 ^ 4 := Nat.pow_le_pow_right (by omega) (by omega)
  have h3 : (256 : Nat) ^ 4 = 4294967296 := by decide
  omega

theorem t_number (M : Mem) (x : AV) (l : List (BitVec 8)) (hx : BytesAt M x l) (hl : l.length ≤ 4) :
    CallA tb.P 131 [x] M fun y N => y = i64 (val l) ∧ N = M := by
  refine F131_ok ?_
  unfold F131
  refine bindO_i (eLen_some hx.len) ?_
  simp only [zI_int]
  refine ⟨fun z k q P => ∃ i : Nat, k = i ∧ q = l.length - i ∧ i ≤ l.length ∧ z = (val (l.take i) : Int) ∧ P = M, ⟨l.length, 0, rfl, rfl, Nat.zero_le _, rfl, rfl⟩, ?_⟩
  rintro _ z k q P ⟨i, rfl, rfl, hi, rfl, rfl⟩
  refine condB_i (fun hlt => ?_) (fun hge => ?_)
  · have hlt : i < l.length := by simpa using hlt
    obtain ⟨b, o, hia, hld⟩ := hx.at hlt
    refine bindO_i (eIA_some hia) ?_
    refine bindO_i (eLd_some hld) ?_
    simp only [zI_int]
    have hsm := val_small hl hi
    rw [or_shl _ _ (by omega), ← val_take hlt]
    exact ⟨l.length - (i + 1), by omega, i + 1, iInc (by omega), rfl, hlt, rfl, by trivial⟩
  · have hge : i = l.length := by have : ¬ (i : Int) < l.length := by simpa using hge
                                  omega
    subst hge
    rw [List.take_length]
    exact ⟨rfl, by trivial⟩

/-- What stands ahead of the sum. -/
def body (d : List (BitVec 8)) (k p s e : Int) : List (BitVec 8) := d ++ [74#8, BitVec.ofInt 8 k] ++ be p 2 ++ be s 4 ++ be e 3

/-- A raw page. -/
def laid (d : List (BitVec 8)) (k p s e : Int) : List (BitVec 8) := body d k p s e ++ be ((more 0#32 (body d k p s e)).toNat : Int) 4 ++ [0#8]

def okL (d : List (BitVec 8)) (k p s e : Int) : Bool := decide (24 ≤ d.length ∧ d.length ≤ 64) && mayT k p s e

@[simp] theorem body_length (d : List (BitVec 8)) (k p s e : Int) : (body d k p s e).length = d.length + 11 := by simp [body]

@[simp] theorem laid_length (d : List (BitVec 8)) (k p s e : Int) : (laid d k p s e).length = d.length + 16 := by simp [laid]

def LayPost (M : Mem) (d : List (BitVec 8)) (k p s e : Int) (y : AV) (N : Mem) : Prop :=
  Keep M N [] ∧ ((okL d k p s e = true ∧ ∃ x, y = .tup [x, i64 0] ∧ Gr N x (laid d k p s e) ∧ ∀ c, inBlk x c → M.next ≤ c) ∨ (okL d k p s e = false ∧ y = .tup [.val (.slice none 0 0), i64 2]))

/-- On the way: what was laid so far; the tag lies still. -/
structure Lying (M P : Mem) (row : Row) (u : AV) (l : List (BitVec 8)) : Prop where
  gr : Gr P u l
  wf : P.WF
  box : P.get M.next = some row
  fresh : ∀ c, inBlk u c → M.next < c
  keep : Keep M P []

theorem Lying.step {M P P' : Mem} {row : Row} {u u' : AV} {l l' : List (BitVec 8)} (h : Lying M P row u l) (hg : GrowTo P P' u u') (hl : Gr P' u' l') : Lying M P' row u' l' :=
  ⟨hl, hg.wf, by
    rw [hg.old M.next (h.wf _ _ h.box) (fun hc => by have := h.fresh _ hc; omega)]
    exact h.box, fun c hc => by
    rcases hg.blk c hc with h1 | h1
    · exact Nat.lt_of_lt_of_le (h.wf _ _ h.box) h1
    · exact h.fresh c h1, ⟨hg.wf, Nat.le_trans h.keep.nxt hg.nxt, fun c hc _ => by
    rw [hg.old c (Nat.lt_of_lt_of_le hc h.keep.nxt) (fun hi => by have := h.fresh c hi; omega)]
    exact h.keep.old c hc (by simp)⟩⟩

theorem two_at {M : Mem} {b : Nat} {v w : BitVec 8} (h : M.get b = some (.cells [bv8 v, bv8 w] true)) : BytesAt M (.sl b 0 2 2 none) [v, w] :=
  ⟨rfl, .inr ⟨b, 0, 2, none, rfl, ⟨Nat.le_refl _, .inl rfl⟩, .inr ⟨_, _, h, Nat.le_refl _, rfl⟩⟩⟩

theorem wrap_i64_u32 (s : BitVec 32) : IntKind.wrap .i64 (s.toNat : Int) = (s.toNat : Int) := by
  have := s.isLt
  exact wrap_i64' (by omega) (by omega)

/-- Behind the copy: the numbers, the sum, the end. -/
theorem lay_tail {P : Program} {f4 fs : FuncId} (M : Mem) (k p s e : Int) (d : List (BitVec 8)) (hd : d.length ≤ 64) (u : AV) (P0 : Mem) (h : Lying M P0 (.cells [i64 k, i64 p, i64 s, i64 e] true) u (d ++ [74#8, BitVec.ofInt 8 k]))
    (hok : okL d k p s e = true)
    (hput : ∀ (M : Mem) (_ : M.WF) (x : AV) (l : List (BitVec 8)) (n : Int) (size : Nat) (_ : Gr M x l) (_ : size ≤ 8) (_ : l.length ≤ 900000), CallA P f4 [x, i64 n, i64 size] M fun y N => Gr N y (l ++ be n size) ∧ GrowTo M N x y)
    (hof : ∀ (M : Mem) (x : AV) (l : List (BitVec 8)) (_ : BytesAt M x l) (_ : l.length ≤ 9223372036854775806), CallA P fs [x] M fun y N => y = .val (.int .u32 (more 0#32 l).toNat) ∧ N = M) :
    bindO (eLd tb 3 (.ptr M.next 1) P0) fun y30 => zI .i64 y30.1 fun z31 => bindO (eLd tb 3 (.ptr M.next 2) P0) fun y32 => zI .i64 y32.1 fun z33 => bindO (eLd tb 3 (.ptr M.next 3) P0) fun y34 => zI .i64 y34.1 fun z35 => CallA P f4 [u, (.val (.int .i64 z31)), (.val (.int .i64 2))] P0 fun y36 M37 => (bindO (eLd tb 3 (.ptr M.next 2) M37) fun y38 => (some (.val (.int .i64 z33)) : Option AV) =
      some y38.1) ∧ (bindO (eLd tb 3 (.ptr M.next 3) M37) fun y39 => (some (.val (.int .i64 z35)) : Option AV) = some y39.1) ∧
      (CallA P f4 [y36, (.val (.int .i64 z33)), (.val (.int .i64 4))] M37 fun y40 M41 => (bindO (eLd tb 3 (.ptr M.next 3) M41) fun y42 => (some (.val (.int .i64 z35)) : Option AV) = some y42.1) ∧
      (CallA P f4 [y40, (.val (.int .i64 z35)), (.val (.int .i64 3))] M41 fun y43 M44 => CallA P fs [y43] M44 fun y45 M46 => zI .u32 y45 fun z47 => CallA P f4 [y43, (.val (.int .i64 (IntKind.wrap .i64 z47))), (.val (.int .i64 4))] M46 fun y48 M49 => letP (M49.new (.cells [(.val (.int .u8 0))] true)) fun M50 => bindO (evAppend tb 33 33 y48 (.sl M49.next 0 1 1 none) M50) fun y51 => LayPost M d k p s e (.tup [y51.1, (.val (.int .i64 0))]) y51.2)) := by
  obtain ⟨_, l1, l2, l3, _⟩ := tag_ld h.box
  refine bindO_i (eLd_some l1) ?_
  simp only [i64, zI_int]
  refine bindO_i (eLd_some l2) ?_
  simp only [i64, zI_int]
  refine bindO_i (eLd_some l3) ?_
  simp only [i64, zI_int]
  refine (hput P0 h.wf u _ p 2 h.gr (by omega) (by simp; omega)).mono ?_
  rintro u1 P1 ⟨g1, h1⟩
  have L1 := h.step h1 g1
  obtain ⟨_, _, m2, m3, _⟩ := tag_ld L1.box
  refine ⟨bindO_i (eLd_some m2) rfl, bindO_i (eLd_some m3) rfl, ?_⟩
  refine (hput P1 L1.wf u1 _ s 4 L1.gr (by omega) (by simp; omega)).mono ?_
  rintro u2 P2 ⟨g2, h2⟩
  have L2 := L1.step h2 g2
  obtain ⟨_, _, _, n3, _⟩ := tag_ld L2.box
  refine ⟨bindO_i (eLd_some n3) rfl, ?_⟩
  refine (hput P2 L2.wf u2 _ e 3 L2.gr (by omega) (by simp; omega)).mono ?_
  rintro u3 P3 ⟨g3, h3⟩
  have L3 := L2.step h3 g3
  refine (hof P3 u3 (body d k p s e) L3.gr.at (by simp; omega)).mono ?_
  rintro y P3' ⟨rfl, rfl⟩
  simp only [zI_int, wrap_i64_u32]
  refine (hput P3' L3.wf u3 (body d k p s e) ((more 0#32 (body d k p s e)).toNat : Int) 4 L3.gr (by omega) (by simp; omega)).mono ?_
  rintro u4 P4 ⟨g4, h4⟩
  have L4 := L3.step h4 g4
  refine letP_i fun P5 hP5 => ?_
  subst hP5
  obtain ⟨u5, P5, q1, q2, q3⟩ := Gr.lit L4.wf L4.gr [0#8] (by simp) (by simp; omega)
  refine bindO_i (show evAppend tb 33 33 u4 (.sl P4.next 0 1 1 none) (P4.new (.cells [.val (.int .u8 0)] true)) = some (u5, P5) from q1) ?_
  have L5 := L4.step q3 q2
  exact ⟨L5.keep, .inl ⟨hok, u5, rfl, L5.gr, fun c hc => by have := L5.fresh c hc; omega⟩⟩

theorem t_reflay (M : Mem) (hw : M.WF) (x : AV) (d : List (BitVec 8)) (k p s e : Int) (hx : BytesAt M x d) (hl : d.length ≤ 1000000) :
    CallA tb.P 61 [x, tagA k p s e] M (LayPost M d k p s e) := by
  refine F61_ok ?_
  unfold F61
  refine ⟨k, p, s, e, rfl, ?_⟩
  refine letP_i fun M5 hM5 => ?_
  have hM5' : M5 = M.new (.cells [i64 k, i64 p, i64 s, i64 e] true) := hM5
  clear hM5
  have hw5 : M5.WF := by rw [hM5']; exact hw.new _
  have hk5 : Keep M M5 [] := by rw [hM5']; exact Keep.new hw _
  have hg5 : M5.get M.next = some (.cells [i64 k, i64 p, i64 s, i64 e] true) := by rw [hM5', Mem.get_new, if_pos rfl]
  have hn5 : M.next < M5.next := hw5 _ _ hg5
  clear hM5'
  refine letP_i fun K hK => ?_
  have hx5 : BytesAt M5 x d := SlAt.keep0 hx hw hk5
  have bad : ∀ N', Keep M5 N' [] → okL d k p s e = false → K true N' := by
    intro N' hk hno
    rw [hK]
    exact ⟨hk5.trans0 hk, .inr ⟨hno, rfl⟩⟩
  have badl : ¬ (24 ≤ d.length ∧ d.length ≤ 64) → okL d k p s e = false := fun h => by
    unfold okL
    rw [decide_eq_false h]; rfl
  refine bindO_i (eLen_some hx5.len) ?_
  simp only [zI_int]
  refine condB_i (fun h => bad M5 (Keep.refl hw5) (badl ?_)) (fun h1 => ?_)
  · simp only [decide_eq_true_eq] at h; omega
  refine bindO_i (eLen_some hx5.len) ?_
  simp only [zI_int]
  refine condB_i (fun h => bad M5 (Keep.refl hw5) (badl ?_)) (fun h2 => ?_)
  · simp only [decide_eq_true_eq] at h; omega
  have hlen : 24 ≤ d.length ∧ d.length ≤ 64 := by
    simp only [decide_eq_false_iff_not] at h1 h2
    omega
  obtain ⟨l0, l1, l2, l3, la⟩ := tag_ld hg5
  refine bindO_i (eLd_some la) ?_
  refine ⟨k, p, s, e, rfl, ?_⟩
  refine (t_refmay M5 hw5 k p s e).mono ?_
  rintro y N2 ⟨rfl, hk2⟩
  simp only [zB_bool]
  cases hm : mayT k p s e with
  | false => exact bad N2 hk2 (by unfold okL; rw [hm]; simp)
  | true =>
    have hok : okL d k p s e = true := by unfold okL; rw [hm]; simp [hlen]
    rw [hK]
    simp only [Bool.not_true, condB_false]
    have hg2 : N2.get M.next = some (.cells [i64 k, i64 p, i64 s, i64 e] true) := hk2.get hw5 hg5 (by simp)
    have hx2 : BytesAt N2 x d := SlAt.keep0 hx5 hw5 hk2
    refine letP_i fun N3 hN3 => ?_
    have hw3 : N3.WF := by rw [hN3]; intro b r hb; have := hk2.wf b r hb; show b < N2.next + 1; omega
    have hg3 : N3.get M.next = some (.cells [i64 k, i64 p, i64 s, i64 e] true) := by rw [hN3]; exact hg2
    have hx3 : BytesAt N3 x d := SlAt.rows hx2 (by rw [hN3])
    have hn3 : N3.next = N2.next + 1 := by rw [hN3]
    have hget3 : ∀ c, N3.get c = N2.get c := fun c => by rw [hN3]; rfl
    obtain ⟨q0, _⟩ := tag_ld hg3
    refine bindO_i (eLd_some q0) ?_
    simp only [i64, zI_int]
    obtain ⟨u, N4, hap, hu, hk4, hf4⟩ := Gr.grow (l := []) hw3 (.inl ⟨rfl, rfl⟩) hx3 (by omega) (by simp; omega)
    rw [List.nil_append] at hu
    refine bindO_i hap ?_
    have hk4' : Keep N3 N4 [] := ⟨hk4.wf, hk4.nxt, fun c hc _ => hk4.old c hc (fun h => h.elim)⟩
    have hg4 : N4.get M.next = some (.cells [i64 k, i64 p, i64 s, i64 e] true) := hk4'.get hw3 hg3 (by simp)
    obtain ⟨q4, _⟩ := tag_ld hg4
    refine ⟨bindO_i (eLd_some q4) rfl, ?_⟩
    refine letP_i fun N5 hN5 => ?_
    simp only [wrap_ofInt] at hN5
    have hN5' : N5 = N4.put N2.next (.cells [bv8 74#8, bv8 (BitVec.ofInt 8 k)] true) := hN5
    clear hN5
    have hn2 : M.next < N2.next := hk2.wf _ _ hg2
    have hn4 : N2.next < N4.next := by have := hk4.nxt; omega
    have hw5' : N5.WF := by rw [hN5']; exact hk4.wf.put hn4 _
    have hu5 : Gr N5 u d := hu.mono fun c r hc hr => by
      have := hf4 c hc
      rw [hN5', Mem.get_put, if_neg (by omega)]; exact hr
    have hs5 : BytesAt N5 (.sl N2.next 0 2 2 none) [74#8, BitVec.ofInt 8 k] := two_at (by rw [hN5', Mem.get_put, if_pos rfl])
    obtain ⟨u6, N6, a1, a2, a3, _⟩ := Gr.grow hw5' hu5 hs5 (by simp) (by simp; omega)
    refine bindO_i a1 ?_
    have hL5 : Lying M N5 (.cells [i64 k, i64 p, i64 s, i64 e] true) u d :=
      ⟨hu5, hw5', by rw [hN5', Mem.get_put, if_neg (by omega)]; exact hg4, fun c hc => by have := hf4 c hc; omega, ⟨hw5', by
        have h1 := hk5.nxt; have h2 := hk2.nxt; have h3 := hk4.nxt
        have : N5.next = N4.next := by rw [hN5']; rfl
        omega, fun c hc _ => by
        have h1 := hk5.nxt; have h2 := hk2.nxt
        rw [hN5', Mem.get_put, if_neg (by omega), hk4'.old c (by omega) (by simp), hget3, hk2.old c (by omega) (by simp), hk5.old c hc (by simp)]⟩⟩
    exact lay_tail (P := tb.P) (f4 := 106) (fs := 107) M k p s e d hlen.2 u6 N6 (hL5.step a3 a2) hok (fun M hw x l n size h1 h2 h3 => t_num M hw x l n size h1 h2 h3) (fun M x l h1 h2 => ref_of M x l h1 h2)

end Go.Proofs.Ytjffimbigamadaa

/- Raw pages as they are read (turned from the first seat by ren.py). -/
namespace Go.Proofs.Ytjffimbigamadaa
open Go.AM

theorem BytesAt.ld {M : Mem} {x : AV} {l : List (BitVec 8)} (h : BytesAt M x l) (i : Nat) (hi : i < l.length) :
    ∃ b o, evIndexAddr tb 33 x (.val (.int .i64 (i : Int))) = some (.ptr b o) ∧ inBlk x b ∧ evLoad tb 5 (.ptr b o) M = some (.val (.int .u8 (l[i].toNat : Int))) ∧
      ∀ N : Mem, N.get b = M.get b → evLoad tb 5 (.ptr b o) N = some (.val (.int .u8 (l[i].toNat : Int))) := by
  obtain ⟨b, o, h1, h0, h2, _⟩ := SlAt.at h ty33 rfl ty5 rfl hi (k' := .i64)
  have hld : ∀ N : Mem, N.get b = M.get b → evLoad tb 5 (.ptr b o) N = some (.val (.int .u8 (l[i].toNat : Int))) := fun N hN => by
    unfold evLoad
    rw [ty5]
    have := h2 0 (by omega)
    simp only [TI.isAgg, cond_false]
    rw [Nat.add_zero, Nat.mul_one, Nat.add_zero] at this
    unfold Mem.cellAt at this ⊢
    rw [hN, this]
    simp [bvs, hi, bv8]
  exact ⟨b, o, h1, h0, hld M rfl, hld⟩

theorem t_lit (M : Mem) (b : BitVec 8) : CallA tb.P 130 [.val (.int .u8 (b.toNat : Int))] M fun y N => y = .val (.bool (decide (b ≠ 255#8))) ∧ N = M := by
  refine F130_ok ?_
  unfold F130
  simp only [zI_int]
  refine ⟨?_, by trivial⟩
  congr 2
  rw [Bool.eq_iff_iff]
  simp only [bne_iff_ne, ne_eq, decide_eq_true_eq]
  refine not_congr ⟨fun h => BitVec.eq_of_toNat_eq ?_, fun h => by rw [h]; rfl⟩
  have : (255#8).toNat = 255 := rfl
  omega

theorem t_index (M : Mem) (x : AV) (l : List (BitVec 8)) (hx : BytesAt M x l) (hl : l.length ≤ 1000000) :
    CallA tb.P 137 [x, .fn 130 [] []] M fun y N => N = M ∧ ((∃ i : Nat, y = i64 i ∧ ∃ h : i < l.length, l[i] ≠ 255#8) ∨ (y = i64 (-1) ∧ ∀ b ∈ l, b = 255#8)) := by
  refine F137_ok ?_
  unfold F137
  refine bindO_i (eLen_some hx.len) ?_
  simp only [zI_int]
  refine ⟨fun z q P => ∃ i : Nat, z = i ∧ q = l.length - i ∧ i ≤ l.length ∧ P = M ∧ ∀ b ∈ l.take i, b = 255#8, ⟨l.length, 0, rfl, rfl, Nat.zero_le _, rfl, by simp⟩, ?_⟩
  rintro _ z q P ⟨i, rfl, rfl, hi, rfl, hall⟩
  refine condB_i (fun hlt => ?_) (fun hge => ?_)
  · have hlt : i < l.length := by simpa using hlt
    obtain ⟨b, o, hia, hld⟩ := hx.at hlt
    refine bindO_i (eIA_some hia) ?_
    refine bindO_i (eLd_some hld) ?_
    simp only [zI_int]
    refine eCall_i fn130 ?_
    refine (t_lit P l[i]).mono ?_
    rintro y N ⟨rfl, rfl⟩
    simp only [zB_bool]
    refine condB_i (fun h => ⟨by trivial, .inl ⟨i, rfl, hlt, by simpa using h⟩⟩) (fun h => ?_)
    have h : l[i] = 255#8 := by simpa using h
    refine ⟨l.length - (i + 1), by omega, i + 1, iInc (by omega), rfl, hlt, by trivial, fun b hb => ?_⟩
    rw [List.take_succ_eq_append_getElem hlt, List.mem_append] at hb
    rcases hb with hb | hb
    · exact hall b hb
    · simp only [List.mem_singleton] at hb
      rw [hb, h]
  · have hge : i = l.length := by have : ¬ (i : Int) < l.length := by simpa using hge
                                  omega
    subst hge
    rw [List.take_length] at hall
    exact ⟨rfl, .inr ⟨rfl, hall⟩⟩

/-- Are all bytes 255? -/
def allFF (l : List (BitVec 8)) : Bool := l.all fun b => decide (b = 255#8)

theorem t_contains (M : Mem) (x : AV) (l : List (BitVec 8)) (hx : BytesAt M x l) (hl : l.length ≤ 1000000) :
    CallA tb.P 129 [x, .fn 130 [] []] M fun y N => y = .val (.bool (!allFF l)) ∧ N = M := by
  refine F129_ok ?_
  unfold F129
  refine (t_index M x l hx hl).mono ?_
  rintro y N ⟨rfl, h⟩
  rcases h with ⟨i, rfl, hi, hne⟩ | ⟨rfl, hall⟩
  · simp only [i64, zI_int]
    have : allFF l = false := by
      unfold allFF
      rw [List.all_eq_false]
      exact ⟨l[i], List.getElem_mem _, by simpa using hne⟩
    simp [this]
  · simp only [i64, zI_int]
    have : allFF l = true := by
      unfold allFF
      rw [List.all_eq_true]
      exact fun b hb => by simpa using hall b hb
    simp [this]

/-- What stands in a raw page's last sixteen bytes. -/
def fK (r : List (BitVec 8)) : Int := ((r.getD 1 0#8).toNat : Int)

def fP (r : List (BitVec 8)) : Int := (val ((r.take 4).drop 2) : Int)

def fS (r : List (BitVec 8)) : Int := (val ((r.take 8).drop 4) : Int)

def fE (r : List (BitVec 8)) : Int := (val ((r.take 11).drop 8) : Int)

def lenOk (l : List (BitVec 8)) : Bool := decide (40 ≤ l.length ∧ l.length ≤ 80)

def valid (l : List (BitVec 8)) : Bool :=
  let r := l.drop (l.length - 16)
  decide (r.getD 0 0#8 = 74#8 ∧ r.getD 15 0#8 = 0#8 ∧ val ((r.take 15).drop 11) = (more 0#32 (l.take (l.length - 16 + 11))).toNat) && mayT (fK r) (fP r) (fS r) (fE r)

def state (l : List (BitVec 8)) : Nat := if lenOk l = true then (if allFF l = true then 0 else if valid l = true then 1 else 2) else 2

def ReadPost (M : Mem) (l : List (BitVec 8)) (y : AV) (N : Mem) : Prop :=
  Keep M N [] ∧ ((state l = 1 ∧ ∃ x, y = .tup [x, tagA (fK (l.drop (l.length - 16))) (fP (l.drop (l.length - 16))) (fS (l.drop (l.length - 16))) (fE (l.drop (l.length - 16))), i64 1] ∧ Gr N x (l.take (l.length - 16)) ∧ ∀ c, inBlk x c → M.next ≤ c) ∨
    (state l ≠ 1 ∧ y = .tup [.val (.slice none 0 0), tagA 0 0 0 0, i64 (state l)]))

theorem res3 {N : Mem} {b : Nat} {k p s e : Int} {x y : AV} (hg : N.get b = some (.cells [i64 k, i64 p, i64 s, i64 e] true)) : eRes tb [.v x, .c 76 (.ptr b 0), .v y] N = some (.tup [x, tagA k p s e, y]) := by
  obtain ⟨_, _, _, _, la⟩ := tag_ld hg
  unfold eRes resC resC resC resC
  simp only [la, Option.map_some]

theorem st_tag {N : Mem} {b : Nat} {cs : List AV} (k p s e : Int) (hg : N.get b = some (.cells cs true)) (hl : cs.length = 4) :
    evStore tb 76 (.ptr b 0) (tagA k p s e) N = some (N.put b (.cells [i64 k, i64 p, i64 s, i64 e] true)) :=
  st_all ty76 rfl hg hl (by intro v hv; simp only [List.mem_cons, List.not_mem_nil, or_false] at hv; rcases hv with rfl | rfl | rfl | rfl <;> rfl)

/-- A page that is none: what is answered. -/
theorem read_none {M N : Mem} {l : List (BitVec 8)} {k p s e : Int} (st : Nat) (hs : state l = st) (h1 : st ≠ 1) (hg : N.get M.next = some (.cells [i64 k, i64 p, i64 s, i64 e] true)) (hw : N.WF) (hk : Keep M N []) :
    bindO (eSt tb 76 (.ptr M.next 0) (.agg [(.val (.int .i64 0)), (.val (.int .i64 0)), (.val (.int .i64 0)), (.val (.int .i64 0))]) N) fun y7 => bindO (eRes tb [.v (.val (.slice none 0 0)), .c 76 (.ptr M.next 0), .v (.val (.int .i64 (st : Int)))] y7.2) fun x8 => ReadPost M l x8 y7.2 := by
  refine bindO_i (eSt_some (st_tag 0 0 0 0 hg rfl)) ?_
  refine bindO_i (res3 (k := 0) (p := 0) (s := 0) (e := 0) (by rw [Mem.get_put, if_pos rfl])) ?_
  refine ⟨⟨hw.put (hw _ _ hg) _, hk.nxt, fun c hc _ => ?_⟩, .inr ⟨by rw [hs]; exact h1, by rw [hs]; rfl⟩⟩
  rw [Mem.get_put, if_neg (by omega)]
  exact hk.old c hc (by simp)

theorem drop_take {α : Type} (l : List α) (i : Nat) : (l.take l.length).drop i = l.drop i := by rw [List.take_length]

theorem t_read (M : Mem) (hw : M.WF) (x : AV) (l : List (BitVec 8)) (hx : BytesAt M x l) (hl : l.length ≤ 1000000) : CallA tb.P 115 [x] M (ReadPost M l) := by
  refine F115_ok ?_
  unfold F115
  refine letP_i fun M1 hM1 => ?_
  have hM1' : M1 = M.new (.cells [i64 0, i64 0, i64 0, i64 0] true) := hM1
  clear hM1
  have hw1 : M1.WF := by rw [hM1']; exact hw.new _
  have hk1 : Keep M M1 [] := by rw [hM1']; exact Keep.new hw _
  have hg1 : M1.get M.next = some (.cells [i64 0, i64 0, i64 0, i64 0] true) := by rw [hM1', Mem.get_new, if_pos rfl]
  have hn1 : M.next < M1.next := hw1 _ _ hg1
  clear hM1'
  have hx1 : BytesAt M1 x l := SlAt.keep0 hx hw hk1
  refine bindO_i (eLen_some hx1.len) ?_
  have e16 : iSub .i64 (l.length : Int) 16 = (l.length : Int) - 16 := by rw [iSub, wrap_i64' (by omega) (by omega)]
  simp only [zI_int, e16]
  refine (t_in M1 ((l.length : Int) - 16) 24 64).mono ?_
  rintro y N ⟨rfl, rfl⟩
  simp only [zB_bool]
  refine condB_i (fun h => ?_) (fun h => ?_)
  · have hno : lenOk l = false := by
      unfold lenOk
      simp only [Bool.not_eq_true', Bool.and_eq_false_iff, decide_eq_false_iff_not] at h ⊢
      omega
    exact read_none 2 (by unfold state; rw [hno]; simp) (by omega) hg1 hw1 hk1
  have hlen : 40 ≤ l.length ∧ l.length ≤ 80 := by
    simp only [Bool.not_eq_false', Bool.and_eq_true, decide_eq_true_eq] at h
    omega
  have hlok : lenOk l = true := by unfold lenOk; simpa using hlen
  obtain ⟨n, hn⟩ : ∃ n, l.length = n + 16 := ⟨l.length - 16, by omega⟩
  have en : (l.length : Int) - 16 = (n : Int) := by omega
  have hn16 : l.length - 16 = n := by omega
  rw [en]
  refine (t_contains N x l hx1 hl).mono ?_
  rintro y N2 ⟨rfl, rfl⟩
  simp only [zB_bool, Bool.not_not]
  refine condB_i (fun h => read_none 0 (by unfold state; rw [hlok, h]; simp) (by omega) hg1 hw1 hk1) (fun hff => ?_)
  obtain ⟨y14, s14, b14⟩ := hx1.slice (lo := some (.val (.int .i64 (n : Int)))) (hi := none) (a := n) (r := l.length) (.inr rfl) (.inl ⟨rfl, rfl⟩) (by omega) (Nat.le_refl _)
  rw [drop_take] at b14
  refine bindO_i (eSl_some s14) ?_
  -- the last sixteen bytes
  generalize hr : l.drop n = r at b14
  have hrl : r.length = 16 := by rw [← hr]; simp; omega
  refine letP_i fun M3 hM3 => ?_
  have hget3 : ∀ c, M3.get c = N2.get c := fun c => by rw [hM3]; rfl
  have hw3 : M3.WF := by rw [hM3]; intro b q hb; have := hw1 b q hb; show b < N2.next + 1; omega
  have hn3 : M3.next = N2.next + 1 := by rw [hM3]
  have b3 : BytesAt M3 y14 r := SlAt.rows b14 (by rw [hM3])
  have hx3 : BytesAt M3 x l := SlAt.rows hx1 (by rw [hM3])
  have hg3 : M3.get M.next = some (.cells [i64 0, i64 0, i64 0, i64 0] true) := by rw [hget3]; exact hg1
  have hk13 : ∀ c, c < M.next → M3.get c = M.get c := fun c hc => by rw [hget3]; exact hk1.old c hc (by simp)
  clear hM3
  obtain ⟨p1, o1, ia1, in1, ld1, ld1'⟩ := b3.ld 1 (by omega)
  refine bindO_i (eIA_some ia1) ?_
  simp only [zP_ptr]
  obtain ⟨y2, s2, r2⟩ := b3.slice (lo := some (.val (.int .i64 ((2 : Nat) : Int)))) (hi := some (.val (.int .i64 ((4 : Nat) : Int)))) (a := 2) (r := 4) (.inr rfl) (.inr rfl) (by omega) (by omega)
  obtain ⟨y4, s4, r4⟩ := b3.slice (lo := some (.val (.int .i64 ((4 : Nat) : Int)))) (hi := some (.val (.int .i64 ((8 : Nat) : Int)))) (a := 4) (r := 8) (.inr rfl) (.inr rfl) (by omega) (by omega)
  obtain ⟨y8, s8, r8⟩ := b3.slice (lo := some (.val (.int .i64 ((8 : Nat) : Int)))) (hi := some (.val (.int .i64 ((11 : Nat) : Int)))) (a := 8) (r := 11) (.inr rfl) (.inr rfl) (by omega) (by omega)
  refine bindO_i (eSl_some s2) ?_
  refine bindO_i (eSl_some s4) ?_
  refine bindO_i (eSl_some s8) ?_
  refine bindO_i (eLd_some ld1) ?_
  simp only [zI_int]
  refine (t_number M3 y2 _ r2 (by simp; omega)).mono ?_
  rintro y N4 ⟨rfl, rfl⟩
  simp only [i64, zI_int]
  refine ⟨bindO_i (eLd_some ld1) rfl, ?_⟩
  refine (t_number N4 y4 _ r4 (by simp; omega)).mono ?_
  rintro y N5 ⟨rfl, rfl⟩
  simp only [i64, zI_int]
  refine ⟨bindO_i (eLd_some ld1) rfl, ?_⟩
  refine (t_number N5 y8 _ r8 (by simp; omega)).mono ?_
  rintro y N6 ⟨rfl, rfl⟩
  simp only [i64, zI_int, wrap_i64_u8]
  refine ⟨bindO_i (eLd_some ld1) rfl, ?_⟩
  have ek : (r[1].toNat : Int) = fK r := by unfold fK; rw [getD_get (by omega)]
  rw [ek]
  -- the tag's own box
  refine letP_i fun M7 hM7 => ?_
  have hM7' : M7 = N6.put N2.next (.cells [i64 0, i64 0, i64 0, i64 0] true) := hM7
  clear hM7
  have hg7 : M7.get N2.next = some (.cells [i64 0, i64 0, i64 0, i64 0] true) := by rw [hM7', Mem.get_put, if_pos rfl]
  refine bindO_i (eSt_some (st_tag (fK r) (fP r) (fS r) (fE r) hg7 rfl)) ?_
  rw [hM7', Mem.put_put]
  clear hg7 hM7'
  generalize hM8 : N6.put N2.next (.cells [i64 (fK r), i64 (fP r), i64 (fS r), i64 (fE r)] true) = M8
  have hw8 : M8.WF := by rw [← hM8]; exact hw3.put (by omega) _
  have hg8 : M8.get N2.next = some (.cells [i64 (fK r), i64 (fP r), i64 (fS r), i64 (fE r)] true) := by rw [← hM8, Mem.get_put, if_pos rfl]
  have hg8' : M8.get M.next = some (.cells [i64 0, i64 0, i64 0, i64 0] true) := by rw [← hM8, Mem.get_put, if_neg (by omega)]; exact hg3
  have hk8 : Keep M M8 [] := ⟨hw8, by rw [← hM8]; show M.next ≤ N6.next; omega, fun c hc _ => by rw [← hM8, Mem.get_put, if_neg (by omega)]; exact hk13 c hc⟩
  have hold8 : ∀ c, c < N2.next → M8.get c = N6.get c := fun c hc => by rw [← hM8, Mem.get_put, if_neg (by omega)]
  have b8 : BytesAt M8 y14 r := SlAt.mono b3 fun c q hc hq => by
    rw [hold8 c (by have := SlAt.blk_lt b14 hw1 hc; omega)]; exact hq
  have hx8 : BytesAt M8 x l := SlAt.mono hx3 fun c q hc hq => by
    rw [hold8 c (by have := SlAt.blk_lt hx1 hw1 hc; omega)]; exact hq
  clear hM8
  refine letP_i fun K hK => ?_
  have bad : ∀ M' : Mem, M'.WF → Keep M8 M' [] → valid l = false → K true M' := by
    intro M' hw' hk' hv
    rw [hK]
    simp only [condB_true]
    exact read_none 2 (by unfold state; rw [hlok, hff, hv]; simp) (by omega) (hk'.get hw8 hg8' (by simp)) hw' (hk8.trans0 hk')
  have hv : valid l = (decide (r.getD 0 0#8 = 74#8 ∧ r.getD 15 0#8 = 0#8 ∧ val ((r.take 15).drop 11) = (more 0#32 (l.take (n + 11))).toNat) && mayT (fK r) (fP r) (fS r) (fE r)) := by
    unfold valid
    rw [hn16, hr]
  obtain ⟨p0, o0, ia0, in0, ld0, _⟩ := b8.ld 0 (by omega)
  refine bindO_i (eIA_some ia0) ?_
  simp only [zP_ptr]
  refine bindO_i (eLd_some ld0) ?_
  simp only [zI_int]
  rw [show ((r[0].toNat : Int) != 74) = decide (r[0] ≠ BitVec.ofNat 8 74) from ne_u8 r[0] 74 (by omega)]
  have g0 : r.getD 0 0#8 = r[0] := getD_get (by omega)
  have g15 : r.getD 15 0#8 = r[15] := getD_get (by omega)
  refine condB_i (fun h => bad M8 hw8 (Keep.refl hw8) ?_) (fun h0 => ?_)
  · rw [hv, g0]
    have : r[0] ≠ 74#8 := by simpa using h
    simp [this]
  have h0 : r[0] = 74#8 := by simpa using h0
  obtain ⟨p15, o15, ia15, in15, ld15, _⟩ := b8.ld 15 (by omega)
  refine bindO_i (eIA_some ia15) ?_
  simp only [zP_ptr]
  refine bindO_i (eLd_some ld15) ?_
  simp only [zI_int]
  rw [show ((r[15].toNat : Int) != 0) = decide (r[15] ≠ BitVec.ofNat 8 0) from ne_u8 r[15] 0 (by omega)]
  refine condB_i (fun h => bad M8 hw8 (Keep.refl hw8) ?_) (fun h15 => ?_)
  · rw [hv, g15]
    have : r[15] ≠ 0#8 := by simpa using h
    simp [this]
  have h15 : r[15] = 0#8 := by simpa using h15
  obtain ⟨y11, s11, r11⟩ := b8.slice (lo := some (.val (.int .i64 ((11 : Nat) : Int)))) (hi := some (.val (.int .i64 ((15 : Nat) : Int)))) (a := 11) (r := 15) (.inr rfl) (.inr rfl) (by omega) (by omega)
  refine bindO_i (eSl_some s11) ?_
  have e11 : iAdd .i64 (n : Int) 11 = ((n + 11 : Nat) : Int) := by rw [iAdd, wrap_i64' (by omega) (by omega)]; rfl
  rw [e11]
  obtain ⟨yb, sb, rb⟩ := hx8.slice (lo := none) (hi := some (.val (.int .i64 ((n + 11 : Nat) : Int)))) (a := 0) (r := n + 11) (.inl ⟨rfl, rfl⟩) (.inr rfl) (by omega) (by omega)
  rw [List.drop_zero] at rb
  refine bindO_i (eSl_some sb) ?_
  refine (t_number M8 y11 _ r11 (by simp; omega)).mono ?_
  rintro y N9 ⟨rfl, rfl⟩
  simp only [i64, zI_int]
  refine (crc_of N9 yb _ rb (by simp; omega)).mono ?_
  rintro y N10 ⟨rfl, rfl⟩
  simp only [zI_int, wrap_i64_u32]
  refine condB_i (fun h => bad N10 hw8 (Keep.refl hw8) ?_) (fun hc => ?_)
  · rw [hv]
    have : ¬ val ((r.take 15).drop 11) = (more 0#32 (l.take (n + 11))).toNat := fun he => by rw [he] at h; simp at h
    simp [this]
  have hc : val ((r.take 15).drop 11) = (more 0#32 (l.take (n + 11))).toNat := by
    have : ((val ((r.take 15).drop 11) : Nat) : Int) = ((more 0#32 (l.take (n + 11))).toNat : Int) := by simpa using hc
    omega
  obtain ⟨_, _, _, _, la⟩ := tag_ld hg8
  refine bindO_i (eLd_some la) ?_
  refine ⟨fK r, fP r, fS r, fE r, rfl, ?_⟩
  refine (t_may N10 hw8 (fK r) (fP r) (fS r) (fE r)).mono ?_
  rintro y N11 ⟨rfl, hk11⟩
  simp only [zB_bool]
  have hvm : valid l = mayT (fK r) (fP r) (fS r) (fE r) := by
    rw [hv, g0, g15]
    simp [h0, h15, hc]
  cases hm : mayT (fK r) (fP r) (fS r) (fE r) with
  | false => exact bad N11 hk11.wf hk11 (by rw [hvm, hm])
  | true =>
    rw [hK]
    simp only [Bool.not_true, condB_false]
    clear bad hK
    have hx11 : BytesAt N11 x l := SlAt.keep0 hx8 hw8 hk11
    obtain ⟨yd, sd, rd⟩ := hx11.slice (lo := none) (hi := some (.val (.int .i64 (n : Int)))) (a := 0) (r := n) (.inl ⟨rfl, rfl⟩) (.inr rfl) (by omega) (by omega)
    rw [List.drop_zero] at rd
    refine bindO_i (eSl_some sd) ?_
    have hg11 := hk11.get hw8 hg8 (by simp)
    have hg11' := hk11.get hw8 hg8' (by simp)
    obtain ⟨_, _, _, _, la11⟩ := tag_ld hg11
    refine bindO_i (eLd_some la11) ?_
    refine ⟨fK r, fP r, fS r, fE r, rfl, ?_⟩
    refine (t_clone N11 hk11.wf yd (l.take n) rd (by simp; omega) (by simp; omega)).mono ?_
    rintro u N12 ⟨hu, hk12, hf12⟩
    have hg12 := hk12.get hk11.wf hg11 (by simp)
    have hg12' := hk12.get hk11.wf hg11' (by simp)
    obtain ⟨_, _, _, _, la12⟩ := tag_ld hg12
    refine ⟨bindO_i (eLd_some la12) rfl, ?_⟩
    refine bindO_i (eSt_some (st_tag (fK r) (fP r) (fS r) (fE r) hg12' rfl)) ?_
    refine bindO_i (res3 (by rw [Mem.get_put, if_pos rfl])) ?_
    have hkM : Keep M N12 [] := (hk8.trans0 hk11).trans0 hk12
    refine ⟨⟨hk12.wf.put (hk12.wf _ _ hg12') _, hkM.nxt, fun c hc' _ => by
      show (N12.put M.next _).get c = _
      rw [Mem.get_put, if_neg (by omega)]; exact hkM.old c hc' (by simp)⟩, .inl ⟨?_, u, ?_, ?_, fun c hc' => ?_⟩⟩
    · unfold state; rw [hlok, hff, hvm, hm]; simp
    · rw [hn16, hr]; rfl
    · rw [hn16]
      refine hu.mono fun c q hc' hq => ?_
      have h1 := hf12 c hc'
      have h2 := hk11.nxt
      have h3 := hk8.nxt
      show (N12.put M.next _).get c = _
      rw [Mem.get_put, if_neg (by
        have := hw8 _ _ hg8'
        omega)]; exact hq
    · have h1 := hf12 c hc'
      have h2 := hk11.nxt
      have h3 := hk8.nxt
      omega

end Go.Proofs.Ytjffimbigamadaa

/- What was laid is read; the document's Read (turned from the first seat by ren.py). -/
namespace Go.Proofs.Ytjffimbigamadaa
open Go.AM

theorem byteOf_nat (m s : Nat) : (byteOf (m : Int) s).toNat = m / 256 ^ s % 256 := by
  unfold byteOf
  have e : (2 : Int) ^ (8 * s) = ((256 ^ s : Nat) : Int) := by
    rw [Int.pow_mul, show (2 : Int) ^ 8 = ((256 : Nat) : Int) from rfl, ← Int.natCast_pow]
  rw [e, Int.fdiv_eq_ediv_of_nonneg _ (Int.natCast_nonneg _), ← Int.natCast_ediv, BitVec.toNat_ofInt]
  have e2 : ((2 ^ 8 : Nat) : Int) = ((256 : Nat) : Int) := rfl
  rw [e2, ← Int.natCast_emod, Int.toNat_natCast]

def valFrom (a : Nat) (l : List (BitVec 8)) : Nat := l.foldl (fun n b => n * 256 + b.toNat) a

theorem valFrom_be (m : Nat) : ∀ (s a : Nat), valFrom a (be (m : Int) s) = a * 256 ^ s + m % 256 ^ s
  | 0, a => by simp [valFrom, be, Nat.mod_one]
  | s + 1, a => by
    show valFrom (a * 256 + (byteOf (m : Int) s).toNat) (be (m : Int) s) = _
    rw [valFrom_be m s, byteOf_nat, Nat.add_mul]
    have h1 : 256 ^ (s + 1) = 256 ^ s * 256 := Nat.pow_succ 256 s
    have h2 : m % (256 ^ s * 256) = m % 256 ^ s + 256 ^ s * (m / 256 ^ s % 256) := Nat.mod_mul
    rw [h1, h2, Nat.mul_assoc, Nat.mul_comm 256, Nat.mul_comm (m / 256 ^ s % 256)]
    omega

theorem val_be {m s : Nat} (h : m < 256 ^ s) : val (be (m : Int) s) = m := by
  have := valFrom_be m s 0
  rw [Nat.zero_mul, Nat.zero_add, Nat.mod_eq_of_lt h] at this
  exact this

def tail16 (k p s e : Int) (c : BitVec 32) : List (BitVec 8) := [74#8, BitVec.ofInt 8 k] ++ be p 2 ++ be s 4 ++ be e 3 ++ be (c.toNat : Int) 4 ++ [0#8]

theorem laid_eq (d : List (BitVec 8)) (k p s e : Int) : laid d k p s e = d ++ tail16 k p s e (more 0#32 (body d k p s e)) := by
  simp only [laid, body, tail16, List.append_assoc]

@[simp] theorem tail16_length (k p s e : Int) (c : BitVec 32) : (tail16 k p s e c).length = 16 := by simp [tail16]

theorem laid_drop (d : List (BitVec 8)) (k p s e : Int) : (laid d k p s e).drop ((laid d k p s e).length - 16) = tail16 k p s e (more 0#32 (body d k p s e)) := by
  rw [laid_length, Nat.add_sub_cancel, laid_eq, List.drop_left]

theorem laid_body (d : List (BitVec 8)) (k p s e : Int) : (laid d k p s e).take ((laid d k p s e).length - 16 + 11) = body d k p s e := by
  rw [laid_length, Nat.add_sub_cancel]
  unfold laid
  rw [List.append_assoc, List.take_left' (by simp)]

section
variable (k p s e : Int) (c : BitVec 32)
theorem tail16_0 : (tail16 k p s e c).getD 0 0#8 = 74#8 := rfl

theorem tail16_1 : (tail16 k p s e c).getD 1 0#8 = BitVec.ofInt 8 k := rfl

theorem tail16_p : ((tail16 k p s e c).take 4).drop 2 = be p 2 := rfl

theorem tail16_s : ((tail16 k p s e c).take 8).drop 4 = be s 4 := rfl

theorem tail16_e : ((tail16 k p s e c).take 11).drop 8 = be e 3 := rfl

theorem tail16_c : ((tail16 k p s e c).take 15).drop 11 = be (c.toNat : Int) 4 := rfl

theorem tail16_15 : (tail16 k p s e c).getD 15 0#8 = 0#8 := rfl
end


theorem val_be_int {n : Int} {s : Nat} (h0 : 0 ≤ n) (h : n < ((256 ^ s : Nat) : Int)) : (val (be n s) : Int) = n := by
  obtain ⟨m, rfl⟩ : ∃ m : Nat, n = (m : Int) := ⟨n.toNat, by omega⟩
  rw [val_be (Int.ofNat_lt.1 h)]

theorem val_be_crc (c : BitVec 32) : val (be (c.toNat : Int) 4) = c.toNat := val_be (by
  have := c.isLt
  have e : (256 : Nat) ^ 4 = 2 ^ 32 := by decide
  rw [e]; exact this)

/-- What was laid: its fields. -/
theorem tail16_fields {k p s e : Int} {c : BitVec 32} (h : mayT k p s e = true) : fK (tail16 k p s e c) = k ∧ fP (tail16 k p s e c) = p ∧ fS (tail16 k p s e c) = s ∧ fE (tail16 k p s e c) = e := by
  unfold mayT at h
  simp only [decide_eq_true_eq] at h
  obtain ⟨h1, h2, h3, h4, h5, h6, h7, h8, h9⟩ := h
  have e2 : ((256 ^ 2 : Nat) : Int) = 65536 := by decide
  have e4 : ((256 ^ 4 : Nat) : Int) = 4294967296 := by decide
  have e3 : ((256 ^ 3 : Nat) : Int) = 16777216 := by decide
  unfold fK fP fS fE
  rw [tail16_1, tail16_p, tail16_s, tail16_e, val_be_int h3 (by omega), val_be_int h6 (by omega), val_be_int h8 (by omega)]
  refine ⟨?_, rfl, rfl, rfl⟩
  rw [← wrap_ofInt, wrap_u8]
  omega

theorem laid_valid {d : List (BitVec 8)} {k p s e : Int} (h : okL d k p s e = true) : valid (laid d k p s e) = true := by
  unfold okL at h
  rw [Bool.and_eq_true] at h
  obtain ⟨f1, f2, f3, f4⟩ := tail16_fields (c := more 0#32 (body d k p s e)) h.2
  unfold valid
  simp only
  rw [laid_drop, laid_body, f1, f2, f3, f4, h.2, tail16_0, tail16_15, tail16_c, val_be_crc]
  simp

theorem allFF_false {l : List (BitVec 8)} {i : Nat} (hi : i < l.length) (h : l.getD i 0#8 ≠ 255#8) : allFF l = false := by
  unfold allFF
  rw [List.all_eq_false]
  refine ⟨l[i], List.getElem_mem _, ?_⟩
  rw [getD_get hi] at h
  simpa using h

theorem getD_drop (l : List (BitVec 8)) (n i : Nat) : (l.drop n).getD i 0#8 = l.getD (n + i) 0#8 := by
  rw [List.getD_eq_getElem?_getD, List.getD_eq_getElem?_getD, List.getElem?_drop]

theorem valid_noFF {l : List (BitVec 8)} (hl : 16 ≤ l.length) (h : valid l = true) : allFF l = false := by
  unfold valid at h
  simp only [Bool.and_eq_true, decide_eq_true_eq] at h
  have h0 := h.1.1
  rw [getD_drop] at h0
  refine allFF_false (i := l.length - 16 + 0) (by omega) ?_
  rw [h0]; decide

theorem laid_state {d : List (BitVec 8)} {k p s e : Int} (h : okL d k p s e = true) : state (laid d k p s e) = 1 := by
  have hv := laid_valid h
  have hf := valid_noFF (by simp) hv
  unfold okL at h
  rw [Bool.and_eq_true, decide_eq_true_eq] at h
  have hl : lenOk (laid d k p s e) = true := by
    unfold lenOk
    simp only [laid_length, decide_eq_true_eq]
    omega
  unfold state
  rw [hl, hf, hv]; rfl

end Go.Proofs.Ytjffimbigamadaa
