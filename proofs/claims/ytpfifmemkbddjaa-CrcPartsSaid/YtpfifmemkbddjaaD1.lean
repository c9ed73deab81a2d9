/- Contracts of what the crc laws call. -/
import Derived.Test.YtpfifmemkbddjaaP1
import Derived.Test.YtpfifmemkbddjaaB1
set_option linter.unusedVariables false
namespace Go.Proofs.Ytpfifmemkbddjaa
open Go.AM
set_option linter.unusedSimpArgs false

theorem ty22 : tb.ty.get 22 = some ⟨.sli 5, 1, 24, [.slice none 0 0], none⟩ := by kernel_rfl
theorem ty5 : tb.ty.get 5 = some ⟨.int .u8, 1, 1, [.int .u8 0], none⟩ := by kernel_rfl

def bv8 (b : BitVec 8) : AV := .val (.int .u8 (b.toNat : Int))
def bvs (l : List (BitVec 8)) : List AV := l.map bv8
@[simp] theorem bvs_length (l : List (BitVec 8)) : (bvs l).length = l.length := by simp [bvs]
theorem bvs_append (l m : List (BitVec 8)) : bvs (l ++ m) = bvs l ++ bvs m := by simp [bvs]
theorem bvs_one (l : List (BitVec 8)) : ∀ v ∈ bvs l, v.one = true := by
  intro v hv
  obtain ⟨b, _, rfl⟩ := List.mem_map.1 hv
  rfl

def BytesAt (M : Mem) (x : AV) (l : List (BitVec 8)) : Prop := SlAt 1 M x l.length (bvs l)

theorem BytesAt.len {M M' : Mem} {x : AV} {l : List (BitVec 8)} (h : BytesAt M x l) : evLenCap tb false 22 x M' = some l.length := SlAt.len h ty22 rfl
theorem BytesAt.at {M : Mem} {x : AV} {l : List (BitVec 8)} (h : BytesAt M x l) {i : Nat} (hi : i < l.length) :
    ∃ b o, evIndexAddr tb 22 x (.val (.int .i64 (i : Int))) = some (.ptr b o) ∧ evLoad tb 5 (.ptr b o) M = some (.val (.int .u8 (l[i].toNat : Int))) := by
  obtain ⟨b, o, h1, _, h2, _⟩ := SlAt.at h ty22 rfl ty5 rfl hi (k' := .i64)
  refine ⟨b, o, h1, ?_⟩
  unfold evLoad
  rw [ty5]
  have := h2 0 (by omega)
  simp only [TI.isAgg, cond_false]
  rw [Nat.add_zero, Nat.mul_one, Nat.add_zero] at this
  rw [this]
  simp [bvs, hi, bv8]

/-! ## The sums, plainly -/

def bit (r : BitVec 32) : BitVec 32 := if r &&& 1#32 = 1#32 then (r >>> 1) ^^^ 3988292384#32 else r >>> 1
def bits : Nat → BitVec 32 → BitVec 32
  | 0, r => r
  | n + 1, r => bits n (bit r)
def reg (r : BitVec 32) (l : List (BitVec 8)) : BitVec 32 := l.foldl (fun r x => bits 8 (r ^^^ x.setWidth 32)) r
def more (s : BitVec 32) (l : List (BitVec 8)) : BitVec 32 := ~~~ (reg (~~~ s) l)

theorem reg_take (r : BitVec 32) (l : List (BitVec 8)) (i : Nat) (hi : i < l.length) : reg r (l.take (i + 1)) = bits 8 (reg r (l.take i) ^^^ l[i].setWidth 32) := by
  rw [List.take_succ_eq_append_getElem hi]
  unfold reg
  rw [List.foldl_append]
  rfl

theorem bit_t {r : BitVec 32} (h : r &&& 1#32 = 1#32) : bit r = (r >>> 1) ^^^ 3988292384#32 := by unfold bit; rw [if_pos h]
theorem bit_f {r : BitVec 32} (h : ¬ r &&& 1#32 = 1#32) : bit r = r >>> 1 := by unfold bit; rw [if_neg h]

/-! ## Numbers as bit vectors -/

theorem wrap_u8_u32 (b : BitVec 8) : IntKind.u32.wrap (b.toNat : Int) = ((b.setWidth 32).toNat : Int) := by
  rw [wrap_u32, BitVec.toNat_setWidth]
  have := b.isLt
  omega
theorem iXor_u32 (a b : BitVec 32) : iXor .u32 (a.toNat : Int) (b.toNat : Int) = ((a ^^^ b).toNat : Int) := by
  show IntKind.u32.wrap ((BitVec.ofInt 32 (a.toNat : Int) ^^^ BitVec.ofInt 32 (b.toNat : Int)).toNat : Int) = _
  rw [ofInt_bv, ofInt_bv, wrap_u32_bv]
theorem iXor_poly (a : BitVec 32) : iXor .u32 (a.toNat : Int) 3988292384 = ((a ^^^ 3988292384#32).toNat : Int) := iXor_u32 a 3988292384#32
theorem iAnd1_u32 (a : BitVec 32) : iAnd .u32 (a.toNat : Int) 1 = ((a &&& 1#32).toNat : Int) := by
  show IntKind.u32.wrap ((BitVec.ofInt 32 (a.toNat : Int) &&& BitVec.ofInt 32 ((1#32).toNat : Int)).toNat : Int) = _
  rw [ofInt_bv, ofInt_bv, wrap_u32_bv]
theorem iShr1_u32 (a : BitVec 32) : iShr .u32 (a.toNat : Int) 1 = ((a >>> 1).toNat : Int) := by
  show Int.fdiv (a.toNat : Int) 2 = _
  rw [Int.fdiv_eq_ediv_of_nonneg _ (by omega), BitVec.toNat_ushiftRight, Nat.shiftRight_eq_div_pow]
  omega
theorem eq1_u32 (a : BitVec 32) : ((a.toNat : Int) == 1) = decide (a = 1#32) := by
  rw [Bool.eq_iff_iff]
  simp only [beq_iff_eq, decide_eq_true_eq]
  constructor
  · intro h; exact BitVec.eq_of_toNat_eq (by simp; omega)
  · intro h; rw [h]; rfl
theorem iInc {i : Nat} (h : i < 9223372036854775807) : iAdd .i64 (i : Int) 1 = ((i + 1 : Nat) : Int) := by
  rw [iAdd, wrap_i64' (by omega) (by omega)]; rfl

theorem crc_more (M : Mem) (s : BitVec 32) (x : AV) (l : List (BitVec 8)) (hx : BytesAt M x l) (hl : l.length ≤ 9223372036854775806) :
    CallA tb.P 16 [.val (.int .u32 s.toNat), x] M fun y N => y = .val (.int .u32 (more s l).toNat) ∧ N = M := by
  refine F16_ok ?_
  unfold F16
  simp only [zI_int]
  refine bindO_i (eUn_some (not_u32 _ s)) ?_
  simp only [ofV, zI_int]
  refine bindO_i (eLen_some hx.len) ?_
  simp only [zI_int]
  refine ⟨fun z k n N => ∃ i : Nat, z = ((reg (~~~ s) (l.take i)).toNat : Int) ∧ k = i ∧ n = l.length - i ∧ i ≤ l.length ∧ N = M, ⟨l.length, 0, rfl, rfl, rfl, Nat.zero_le _, rfl⟩, ?_⟩
  rintro _ z k n N ⟨i, rfl, rfl, rfl, hi, rfl⟩
  refine condB_i (fun hlt => ?_) (fun hge => ?_)
  · have hlt : i < l.length := by simpa using hlt
    obtain ⟨b, o, hia, hld⟩ := hx.at hlt
    refine bindO_i (eIA_some hia) ?_
    refine bindO_i (eLd_some hld) ?_
    simp only [zI_int, wrap_u8_u32, iXor_u32]
    refine ⟨fun z k n N' => ∃ (r : BitVec 32) (q : Nat), z = (r.toNat : Int) ∧ k = ((8 - q : Nat) : Int) ∧ q ≤ 8 ∧ n = q ∧ N' = N ∧ bits q r = reg (~~~ s) (l.take (i + 1)), ⟨8, _, 8, rfl, rfl, Nat.le_refl _, rfl, rfl, (reg_take _ l i hlt).symm⟩, ?_⟩
    rintro _ z k n N' ⟨r, q, rfl, rfl, hq, rfl, rfl, hr⟩
    refine condB_i (fun hlt' => ?_) (fun hge' => ?_)
    · have hn0 : 0 < n := by have : ((8 - n : Nat) : Int) < 8 := by simpa using hlt'
                             omega
      have hbits : bits (n - 1) (bit r) = reg (~~~ s) (l.take (i + 1)) := by
        rw [← hr, show n = (n - 1) + 1 by omega]; rfl
      simp only [letP_eq, iShr1_u32, iXor_poly, iAnd1_u32, eq1_u32, iInc (show 8 - n < 9223372036854775807 by omega)]
      refine condB_i (fun hb => ?_) (fun hb => ?_)
      · exact ⟨n - 1, by omega, _, n - 1, rfl, by rw [show 8 - (n - 1) = 8 - n + 1 by omega], by omega, rfl, by trivial, by rw [← bit_t (by simpa using hb)]; exact hbits⟩
      · exact ⟨n - 1, by omega, _, n - 1, rfl, by rw [show 8 - (n - 1) = 8 - n + 1 by omega], by omega, rfl, by trivial, by rw [← bit_f (by simpa using hb)]; exact hbits⟩
    · have hn0 : n = 0 := by have : ¬ ((8 - n : Nat) : Int) < 8 := by simpa using hge'
                             omega
      subst hn0
      refine ⟨l.length - (i + 1), by omega, i + 1, ?_, iInc (by omega), rfl, hlt, rfl⟩
      rw [← hr]; rfl
  · have hge : i = l.length := by have : ¬ (i : Int) < l.length := by simpa using hge
                                  omega
    subst hge
    refine bindO_i (eUn_some (not_u32 _ _)) ?_
    simp only [ofV, zI_int, List.take_length, more, and_self]

theorem xor_step (r x : BitVec 32) : (r >>> 1) ^^^ (x >>> 1) = (r ^^^ x) >>> 1 := (BitVec.ushiftRight_xor_distrib r x 1).symm

def Small (n : Nat) (z : BitVec 32) : Prop := z.toNat < 2 ^ n
theorem Small.shr {n : Nat} {z : BitVec 32} (h : Small (n + 1) z) : Small n (z >>> 1) := by
  unfold Small at h ⊢
  rw [BitVec.toNat_ushiftRight, Nat.shiftRight_eq_div_pow]
  have : 2 ^ (n + 1) = 2 * 2 ^ n := Nat.pow_succ'
  rw [this] at h
  generalize 2 ^ n = p at h ⊢
  omega
theorem Small.zero {z : BitVec 32} (h : Small 0 z) : z = 0#32 := by
  apply BitVec.eq_of_toNat_eq
  unfold Small at h
  simpa using h
theorem Small.byte (b : BitVec 8) : Small 8 (b.setWidth 32) := by
  unfold Small
  rw [BitVec.toNat_setWidth]
  have := b.isLt
  omega

theorem ref_more (M : Mem) (s : BitVec 32) (x : AV) (l : List (BitVec 8)) (hx : BytesAt M x l) (hl : l.length ≤ 9223372036854775806) :
    CallA tb.P 17 [.val (.int .u32 s.toNat), x] M fun y N => y = .val (.int .u32 (more s l).toNat) ∧ N = M := by
  refine F17_ok ?_
  unfold F17
  simp only [zI_int]
  refine bindO_i (eUn_some (not_u32 _ s)) ?_
  simp only [ofV, zI_int]
  refine ⟨fun z k n N => ∃ i : Nat, z = ((reg (~~~ s) (l.take i)).toNat : Int) ∧ k = i ∧ n = l.length - i ∧ i ≤ l.length ∧ N = M, ⟨l.length, 0, rfl, rfl, rfl, Nat.zero_le _, rfl⟩, ?_⟩
  rintro _ z k n N ⟨i, rfl, rfl, rfl, hi, rfl⟩
  refine bindO_i (eLen_some hx.len) ?_
  simp only [zI_int]
  refine condB_i (fun hlt => ?_) (fun hge => ?_)
  · have hlt : i < l.length := by simpa using hlt
    obtain ⟨b, o, hia, hld⟩ := hx.at hlt
    refine bindO_i (eIA_some hia) ?_
    refine bindO_i (eLd_some hld) ?_
    simp only [zI_int, wrap_u8_u32]
    refine ⟨fun z y k n N' => ∃ (r v : BitVec 32) (q : Nat), z = (r.toNat : Int) ∧ y = (v.toNat : Int) ∧ k = ((8 - q : Nat) : Int) ∧ q ≤ 8 ∧ n = q ∧ N' = N ∧ Small q v ∧ bits q (r ^^^ v) = reg (~~~ s) (l.take (i + 1)),
      ⟨8, _, _, 8, rfl, rfl, rfl, Nat.le_refl _, rfl, rfl, Small.byte _, (reg_take _ l i hlt).symm⟩, ?_⟩
    rintro _ z y k n N' ⟨r, v, q, rfl, rfl, rfl, hq, rfl, rfl, hv, hr⟩
    refine condB_i (fun hlt' => ?_) (fun hge' => ?_)
    · have hn0 : 0 < n := by have : ((8 - n : Nat) : Int) < 8 := by simpa using hlt'
                             omega
      have hv' : Small (n - 1) (v >>> 1) := Small.shr (by rw [show n - 1 + 1 = n by omega]; exact hv)
      have hbits : bits (n - 1) (bit (r ^^^ v)) = reg (~~~ s) (l.take (i + 1)) := by
        rw [← hr, show n = (n - 1) + 1 by omega]; rfl
      simp only [letP_eq, iXor_u32, iShr1_u32, iXor_poly, iAnd1_u32, eq1_u32, iInc (show 8 - n < 9223372036854775807 by omega)]
      refine condB_i (fun hb => ?_) (fun hb => ?_)
      · refine ⟨n - 1, by omega, _, _, n - 1, rfl, rfl, by rw [show 8 - (n - 1) = 8 - n + 1 by omega], by omega, rfl, by trivial, hv', ?_⟩
        rw [BitVec.xor_assoc, BitVec.xor_comm 3988292384#32, ← BitVec.xor_assoc, xor_step, ← bit_t (by simpa using hb)]
        exact hbits
      · refine ⟨n - 1, by omega, _, _, n - 1, rfl, rfl, by rw [show 8 - (n - 1) = 8 - n + 1 by omega], by omega, rfl, by trivial, hv', ?_⟩
        rw [xor_step, ← bit_f (by simpa using hb)]
        exact hbits
    · have hn0 : n = 0 := by have : ¬ ((8 - n : Nat) : Int) < 8 := by simpa using hge'
                             omega
      subst hn0
      refine ⟨l.length - (i + 1), by omega, i + 1, ?_, iInc (by omega), rfl, hlt, rfl⟩
      have hz0 : v = 0#32 := hv.zero
      rw [← hr, hz0]
      simp [bits]
  · have hge : i = l.length := by have : ¬ (i : Int) < l.length := by simpa using hge
                                  omega
    subst hge
    refine bindO_i (eUn_some (not_u32 _ _)) ?_
    simp only [ofV, zI_int, List.take_length, more, and_self]

theorem crc_of (M : Mem) (x : AV) (l : List (BitVec 8)) (hx : BytesAt M x l) (hl : l.length ≤ 9223372036854775806) :
    CallA tb.P 14 [x] M fun y N => y = .val (.int .u32 (more 0#32 l).toNat) ∧ N = M := by
  refine F14_ok ((crc_more M 0#32 x l hx hl).mono ?_)
  rintro y N ⟨rfl, rfl⟩
  simp only [zI_int, and_self]

theorem ref_of (M : Mem) (x : AV) (l : List (BitVec 8)) (hx : BytesAt M x l) (hl : l.length ≤ 9223372036854775806) :
    CallA tb.P 15 [x] M fun y N => y = .val (.int .u32 (more 0#32 l).toNat) ∧ N = M := by
  refine F15_ok ((ref_more M 0#32 x l hx hl).mono ?_)
  rintro y N ⟨rfl, rfl⟩
  simp only [zI_int, and_self]

theorem take_succ_eq {l m : List (BitVec 8)} {i : Nat} (hl : i < l.length) (hm : i < m.length) (h : l.take i = m.take i) (he : l[i] = m[i]) : l.take (i + 1) = m.take (i + 1) := by
  rw [List.take_succ_eq_append_getElem hl, List.take_succ_eq_append_getElem hm, h, he]

theorem same_bytes (M : Mem) (x y : AV) (l m : List (BitVec 8)) (hx : BytesAt M x l) (hy : BytesAt M y m) (hl : l.length ≤ 9223372036854775806) :
    CallA tb.P 23 [x, y] M fun v N => v = .val (.bool (decide (l = m))) ∧ N = M := by
  refine F23_ok ?_
  unfold F23
  refine bindO_i (eLen_some hx.len) ?_
  simp only [zI_int]
  refine bindO_i (eLen_some hy.len) ?_
  simp only [zI_int]
  refine condB_i (fun hne => ?_) (fun heq => ?_)
  · have : l ≠ m := fun h => by subst h; simp at hne
    simp [this]
  · have hlen : l.length = m.length := by simp at heq; omega
    refine ⟨fun z n N => ∃ i : Nat, z = i ∧ n = l.length - i ∧ i ≤ l.length ∧ N = M ∧ l.take i = m.take i, ⟨l.length, 0, rfl, rfl, Nat.zero_le _, rfl, by simp⟩, ?_⟩
    rintro _ z n N ⟨i, rfl, rfl, hi, rfl, htk⟩
    refine bindO_i (eLen_some hx.len) ?_
    simp only [zI_int]
    refine condB_i (fun hlt => ?_) (fun hge => ?_)
    · have hlt : i < l.length := by simpa using hlt
      have hlt' : i < m.length := by omega
      obtain ⟨b, o, hia, hld⟩ := hx.at hlt
      obtain ⟨b', o', hia', hld'⟩ := hy.at hlt'
      refine bindO_i (eIA_some hia) ?_
      refine bindO_i (eIA_some hia') ?_
      refine bindO_i (eLd_some hld) ?_
      simp only [zI_int]
      refine bindO_i (eLd_some hld') ?_
      simp only [zI_int]
      refine condB_i (fun hd => ?_) (fun hd => ?_)
      · have hne : l[i] ≠ m[i] := fun h => by rw [h] at hd; simp at hd
        have : l ≠ m := fun h => by subst h; exact hne rfl
        simp [this]
      · have he : l[i] = m[i] := by
          apply BitVec.eq_of_toNat_eq
          have : (l[i].toNat : Int) = m[i].toNat := by simpa using hd
          omega
        exact ⟨l.length - (i + 1), by omega, i + 1, iInc (by omega), rfl, hlt, by trivial, take_succ_eq hlt hlt' htk he⟩
    · have hge : i = l.length := by have : ¬ (i : Int) < l.length := by simpa using hge
                                    omega
      subst hge
      have : l = m := by
        rw [List.take_of_length_le (Nat.le_refl _), List.take_of_length_le (by omega)] at htk
        exact htk
      simp [this]

/-! ## Low -/

def lowOf (x : Int) (n : Nat) : Nat := ((x % 18446744073709551616).tmod (n : Int)).toNat

theorem lowOf_lt (x : Int) {n : Nat} (hn : 0 < n) : lowOf x n < n := by
  unfold lowOf
  have h0 : 0 ≤ x % 18446744073709551616 := Int.emod_nonneg _ (by omega)
  rw [Int.tmod_eq_emod_of_nonneg h0]
  have := Int.emod_lt_of_pos (x % 18446744073709551616) (show (0 : Int) < n by omega)
  have := Int.emod_nonneg (x % 18446744073709551616) (show (n : Int) ≠ 0 by omega)
  omega

theorem low (M : Mem) (x : Int) (n : Nat) (hn : 0 < n) (hn2 : n < 4611686018427387904) :
    CallA tb.P 19 [.val (.int .i64 x), .val (.int .i64 (n : Int))] M fun y N => y = .val (.int .i64 (lowOf x n : Int)) ∧ N = M := by
  have h0 : 0 ≤ x % 18446744073709551616 := Int.emod_nonneg _ (by omega)
  have e1 : (n : Int) % 18446744073709551616 = n := by omega
  have hnn : (n : Int) ≠ 0 := by omega
  have hlt := lowOf_lt x hn
  have h2 : 0 ≤ (x % 18446744073709551616).tmod (n : Int) := Int.tmod_nonneg _ h0
  have e2 : (x % 18446744073709551616).tmod (n : Int) = (lowOf x n : Int) := by unfold lowOf; omega
  refine F19_ok ?_
  unfold F19
  simp only [zI_int, wrap_u64, e1]
  refine bindO_i (eBin_some (v := .val (.int .u64 (lowOf x n : Int))) ?_) ?_
  · rw [evBin_int (by simp) (by simp)]
    simp only [intBin, hnn, decide_false, cond_false, e2, Option.map_some]
  · simp only [zI_int]
    rw [wrap_i64' (by omega) (by omega)]
    exact ⟨rfl, by trivial⟩
end Go.Proofs.Ytpfifmemkbddjaa
