import Derived.Test.YtpfifmemkbddjaaB3
import Derived.Test.YtpfifmemkbddjaaP1
import Derived.Test.YtpfifmemkbddjaaRows
set_option linter.unusedSimpArgs false
set_option linter.unusedVariables false
/- Contracts of what the crc laws call. -/
namespace Go.Proofs.Ytpfifmemkbddjaa
open Go.AM

theorem ty22 : tb.ty.get 22 = some ⟨.sli 5, 1, 24, [.slice none 0 0], none⟩ := by kernel_rfl
theorem ty5 : tb.ty.get 5 = some ⟨.int .u8, 1, 1, [.int .u8 0], none⟩ := by kernel_rfl

def bv8 (b : BitVec 8) : AV := .val (.int .u8 (b.toNat : Int))
def bvs (l : List (BitVec 8)) : List AV := l.map bv8
@[simp] theorem bvs_length (l : List (BitVec 8)) : (bvs l).length = l.length := by simp [bvs]
theorem bvs_append (l m : List (BitVec 8)) : bvs (l ++ m) = bvs l ++ bvs m := by simp [bvs]
theorem bvs_one (l : List (BitVec 8)) : ∀ v ∈ bvs l, v.one = true := by
  intro v hv
  obtain ⟨b, _, rfl⟩ := List.mem_map.1 hv
  rfl

def BytesAt (M : Mem) (x : AV) (l : List (BitVec 8)) : Prop := SlAt 1 M x l.length (bvs l)

theorem BytesAt.len {M M' : Mem} {x : AV} {l : List (BitVec 8)} (h : BytesAt M x l) : evLenCap tb false 22 x M' = some l.length := SlAt.len h ty22 rfl
theorem BytesAt.at {M : Mem} {x : AV} {l : List (BitVec 8)} (h : BytesAt M x l) {i : Nat} (hi : i < l.length) :
    ∃ b o, evIndexAddr tb 22 x (.val (.int .i64 (i : Int))) = some (.ptr b o) ∧ evLoad tb 5 (.ptr b o) M = some (.val (.int .u8 (l[i].toNat : Int))) := by
  obtain ⟨b, o, h1, _, h2, _⟩ := SlAt.at h ty22 rfl ty5 rfl hi (k' := .i64)
  refine ⟨b, o, h1, ?_⟩
  unfold evLoad
  rw [ty5]
  have := h2 0 (by omega)
  simp only [TI.isAgg, cond_false]
  rw [Nat.add_zero, Nat.mul_one, Nat.add_zero] at this
  rw [this]
  simp [bvs, hi, bv8]

/-! ## The sums, plainly -/

def bit (r : BitVec 32) : BitVec 32 := if r &&& 1#32 = 1#32 then (r >>> 1) ^^^ 3988292384#32 else r >>> 1
def bits : Nat → BitVec 32 → BitVec 32
  | 0, r => r
  | n + 1, r => bits n (bit r)
def reg (r : BitVec 32) (l : List (BitVec 8)) : BitVec 32 := l.foldl (fun r x => bits 8 (r ^^^ x.setWidth 32)) r
def more (s : BitVec 32) (l : List (BitVec 8)) : BitVec 32 := ~~~ (reg (~~~ s) l)

theorem reg_take (r : BitVec 32) (l : List (BitVec 8)) (i : Nat) (hi : i < l.length) : reg r (l.take (i + 1)) = bits 8 (reg r (l.take i) ^^^ l[i].setWidth 32) := by
  rw [List.take_succ_eq_append_getElem hi]
  unfold reg
  rw [List.foldl_append]
  rfl

theorem bit_t {r : BitVec 32} (h : r &&& 1#32 = 1#32) : bit r = (r >>> 1) ^^^ 3988292384#32 := by unfold bit; rw [if_pos h]
theorem bit_f {r : BitVec 32} (h : ¬ r &&& 1#32 = 1#32) : bit r = r >>> 1 := by unfold bit; rw [if_neg h]

/-! ## Numbers as bit vectors -/

theorem wrap_u8_u32 (b : BitVec 8) : IntKind.u32.wrap (b.toNat : Int) = ((b.setWidth 32).toNat : Int) := by
  rw [wrap_u32, BitVec.toNat_setWidth]
  have := b.isLt
  omega
theorem iXor_u32 (a b : BitVec 32) : iXor .u32 (a.toNat : Int) (b.toNat : Int) = ((a ^^^ b).toNat : Int) := by
  show IntKind.u32.wrap ((BitVec.ofInt 32 (a.toNat : Int) ^^^ BitVec.ofInt 32 (b.toNat : Int)).toNat : Int) = _
  rw [ofInt_bv, ofInt_bv, wrap_u32_bv]
theorem iXor_poly (a : BitVec 32) : iXor .u32 (a.toNat : Int) 3988292384 = ((a ^^^ 3988292384#32).toNat : Int) := iXor_u32 a 3988292384#32
theorem iAnd1_u32 (a : BitVec 32) : iAnd .u32 (a.toNat : Int) 1 = ((a &&& 1#32).toNat : Int) := by
  show IntKind.u32.wrap ((BitVec.ofInt 32 (a.toNat : Int) &&& BitVec.ofInt 32 ((1#32).toNat : Int)).toNat : Int) = _
  rw [ofInt_bv, ofInt_bv, wrap_u32_bv]
theorem iShr1_u32 (a : BitVec 32) : iShr .u32 (a.toNat : Int) 1 = ((a >>> 1).toNat : Int) := by
  show Int.fdiv (a.toNat : Int) 2 = _
  rw [Int.fdiv_eq_ediv_of_nonneg _ (by omega), BitVec.toNat_ushiftRight, Nat.shiftRight_eq_div_pow]
  omega
theorem eq1_u32 (a : BitVec 32) : ((a.toNat : Int) == 1) = decide (a = 1#32) := by
  rw [Bool.eq_iff_iff]
  simp only [beq_iff_eq, decide_eq_true_eq]
  constructor
  · intro h; exact BitVec.eq_of_toNat_eq (by simp; omega)
  · intro h; rw [h]; rfl
theorem iInc {i : Nat} (h : i < 9223372036854775807) : iAdd .i64 (i : Int) 1 = ((i + 1 : Nat) : Int) := by
  rw [iAdd, wrap_i64' (by omega) (by omega)]; rfl

theorem crc_more (M : Mem) (s : BitVec 32) (x : AV) (l : List (BitVec 8)) (hx : BytesAt M x l) (hl : l.length ≤ 9223372036854775806) :
    CallA tb.P 16 [.val (.int .u32 s.toNat), x] M fun y N => y = .val (.int .u32 (more s l).toNat) ∧ N = M := by
  refine F16_ok ?_
  unfold F16
  simp only [zI_int]
  refine bindO_i (eUn_some (not_u32 _ s)) ?_
  simp only [ofV, zI_int]
  refine bindO_i (eLen_some hx.len) ?_
  simp only [zI_int]
  refine ⟨fun z k n N => ∃ i : Nat, z = ((reg (~~~ s) (l.take i)).toNat : Int) ∧ k = i ∧ n = l.length - i ∧ i ≤ l.length ∧ N = M, ⟨l.length, 0, rfl, rfl, rfl, Nat.zero_le _, rfl⟩, ?_⟩
  rintro _ z k n N ⟨i, rfl, rfl, rfl, hi, rfl⟩
  refine condB_i (fun hlt => ?_) (fun hge => ?_)
  · have hlt : i < l.length := by simpa using hlt
    obtain ⟨b, o, hia, hld⟩ := hx.at hlt
    refine bindO_i (eIA_some hia) ?_
    refine bindO_i (eLd_some hld) ?_
    simp only [zI_int, wrap_u8_u32, iXor_u32]
    refine ⟨fun z k n N' => ∃ (r : BitVec 32) (q : Nat), z = (r.toNat : Int) ∧ k = ((8 - q : Nat) : Int) ∧ q ≤ 8 ∧ n = q ∧ N' = N ∧ bits q r = reg (~~~ s) (l.take (i + 1)), ⟨8, _, 8, rfl, rfl, Nat.le_refl _, rfl, rfl, (reg_take _ l i hlt).symm⟩, ?_⟩
    rintro _ z k n N' ⟨r, q, rfl, rfl, hq, rfl, rfl, hr⟩
    refine condB_i (fun hlt' => ?_) (fun hge' => ?_)
    · have hn0 : 0 < n := by have : ((8 - n : Nat) : Int) < 8 := by simpa using hlt'
                             omega
      have hbits : bits (n - 1) (bit r) = reg (~~~ s) (l.take (i + 1)) := by
        rw [← hr, show n = (n - 1) + 1 by omega]; rfl
      simp only [letP_eq, iShr1_u32, iXor_poly, iAnd1_u32, eq1_u32, iInc (show 8 - n < 9223372036854775807 by omega)]
      refine condB_i (fun hb => ?_) (fun hb => ?_)
      · exact ⟨n - 1, by omega, _, n - 1, rfl, by rw [show 8 - (n - 1) = 8 - n + 1 by omega], by omega, rfl, by trivial, by rw [← bit_t (by simpa using hb)]; exact hbits⟩
      · exact ⟨n - 1, by omega, _, n - 1, rfl, by rw [show 8 - (n - 1) = 8 - n + 1 by omega], by omega, rfl, by trivial, by rw [← bit_f (by simpa using hb)]; exact hbits⟩
    · have hn0 : n = 0 := by have : ¬ ((8 - n : Nat) : Int) < 8 := by simpa using hge'
                             omega
      subst hn0
      refine ⟨l.length - (i + 1), by omega, i + 1, ?_, iInc (by omega), rfl, hlt, rfl⟩
      rw [← hr]; rfl
  · have hge : i = l.length := by have : ¬ (i : Int) < l.length := by simpa using hge
                                  omega
    subst hge
    refine bindO_i (eUn_some (not_u32 _ _)) ?_
    simp only [ofV, zI_int, List.take_length, more, and_self]

theorem xor_step (r x : BitVec 32) : (r >>> 1) ^^^ (x >>> 1) = (r ^^^ x) >>> 1 := (BitVec.ushiftRight_xor_distrib r x 1).symm

def Small (n : Nat) (z : BitVec 32) : Prop := z.toNat < 2 ^ n
theorem Small.shr {n : Nat} {z : BitVec 32} (h : Small (n + 1) z) : Small n (z >>> 1) := by
  unfold Small at h ⊢
  rw [BitVec.toNat_ushiftRight, Nat.shiftRight_eq_div_pow]
  have : 2 ^ (n + 1) = 2 * 2 ^ n := Nat.pow_succ'
  rw [this] at h
  generalize 2 ^ n = p at h ⊢
  omega
theorem Small.zero {z : BitVec 32} (h : Small 0 z) : z = 0#32 := by
  apply BitVec.eq_of_toNat_eq
  unfold Small at h
  simpa using h
theorem Small.byte (b : BitVec 8) : Small 8 (b.setWidth 32) := by
  unfold Small
  rw [BitVec.toNat_setWidth]
  have := b.isLt
  omega

theorem ref_more (M : Mem) (s : BitVec 32) (x : AV) (l : List (BitVec 8)) (hx : BytesAt M x l) (hl : l.length ≤ 9223372036854775806) :
    CallA tb.P 17 [.val (.int .u32 s.toNat), x] M fun y N => y = .val (.int .u32 (more s l).toNat) ∧ N = M := by
  refine F17_ok ?_
  unfold F17
  simp only [zI_int]
  refine bindO_i (eUn_some (not_u32 _ s)) ?_
  simp only [ofV, zI_int]
  refine ⟨fun z k n N => ∃ i : Nat, z = ((reg (~~~ s) (l.take i)).toNat : Int) ∧ k = i ∧ n = l.length - i ∧ i ≤ l.length ∧ N = M, ⟨l.length, 0, rfl, rfl, rfl, Nat.zero_le _, rfl⟩, ?_⟩
  rintro _ z k n N ⟨i, rfl, rfl, rfl, hi, rfl⟩
  refine bindO_i (eLen_some hx.len) ?_
  simp only [zI_int]
  refine condB_i (fun hlt => ?_) (fun hge => ?_)
  · have hlt : i < l.length := by simpa using hlt
    obtain ⟨b, o, hia, hld⟩ := hx.at hlt
    refine bindO_i (eIA_some hia) ?_
    refine bindO_i (eLd_some hld) ?_
    simp only [zI_int, wrap_u8_u32]
    refine ⟨fun z y k n N' => ∃ (r v : BitVec 32) (q : Nat), z = (r.toNat : Int) ∧ y = (v.toNat : Int) ∧ k = ((8 - q : Nat) : Int) ∧ q ≤ 8 ∧ n = q ∧ N' = N ∧ Small q v ∧ bits q (r ^^^ v) = reg (~~~ s) (l.take (i + 1)),
      ⟨8, _, _, 8, rfl, rfl, rfl, Nat.le_refl _, rfl, rfl, Small.byte _, (reg_take _ l i hlt).symm⟩, ?_⟩
    rintro _ z y k n N' ⟨r, v, q, rfl, rfl, rfl, hq, rfl, rfl, hv, hr⟩
    refine condB_i (fun hlt' => ?_) (fun hge' => ?_)
    · have hn0 : 0 < n := by have : ((8 - n : Nat) : Int) < 8 := by simpa using hlt'
                             omega
      have hv' : Small (n - 1) (v >>> 1) := Small.shr (by rw [show n - 1 + 1 = n by omega]; exact hv)
      have hbits : bits (n - 1) (bit (r ^^^ v)) = reg (~~~ s) (l.take (i + 1)) := by
        rw [← hr, show n = (n - 1) + 1 by omega]; rfl
      simp only [letP_eq, iXor_u32, iShr1_u32, iXor_poly, iAnd1_u32, eq1_u32, iInc (show 8 - n < 9223372036854775807 by omega)]
      refine condB_i (fun hb => ?_) (fun hb => ?_)
      · refine ⟨n - 1, by omega, _, _, n - 1, rfl, rfl, by rw [show 8 - (n - 1) = 8 - n + 1 by omega], by omega, rfl, by trivial, hv', ?_⟩
        rw [BitVec.xor_assoc, BitVec.xor_comm 3988292384#32, ← BitVec.xor_assoc, xor_step, ← bit_t (by simpa using hb)]
        exact hbits
      · refine ⟨n - 1, by omega, _, _, n - 1, rfl, rfl, by rw [show 8 - (n - 1) = 8 - n + 1 by omega], by omega, rfl, by trivial, hv', ?_⟩
        rw [xor_step, ← bit_f (by simpa using hb)]
        exact hbits
    · have hn0 : n = 0 := by have : ¬ ((8 - n : Nat) : Int) < 8 := by simpa using hge'
                             omega
      subst hn0
      refine ⟨l.length - (i + 1), by omega, i + 1, ?_, iInc (by omega), rfl, hlt, rfl⟩
      have hz0 : v = 0#32 := hv.zero
      rw [← hr, hz0]
      simp [bits]
  · have hge : i = l.length := by have : ¬ (i : Int) < l.length := by simpa using hge
                                  omega
    subst hge
    refine bindO_i (eUn_some (not_u32 _ _)) ?_
    simp only [ofV, zI_int, List.take_length, more, and_self]

theorem crc_of (M : Mem) (x : AV) (l : List (BitVec 8)) (hx : BytesAt M x l) (hl : l.length ≤ 9223372036854775806) :
    CallA tb.P 14 [x] M fun y N => y = .val (.int .u32 (more 0#32 l).toNat) ∧ N = M := by
  refine F14_ok ((crc_more M 0#32 x l hx hl).mono ?_)
  rintro y N ⟨rfl, rfl⟩
  simp only [zI_int, and_self]

theorem ref_of (M : Mem) (x : AV) (l : List (BitVec 8)) (hx : BytesAt M x l) (hl : l.length ≤ 9223372036854775806) :
    CallA tb.P 15 [x] M fun y N => y = .val (.int .u32 (more 0#32 l).toNat) ∧ N = M := by
  refine F15_ok ((ref_more M 0#32 x l hx hl).mono ?_)
  rintro y N ⟨rfl, rfl⟩
  simp only [zI_int, and_self]

theorem take_succ_eq {l m : List (BitVec 8)} {i : Nat} (hl : i < l.length) (hm : i < m.length) (h : l.take i = m.take i) (he : l[i] = m[i]) : l.take (i + 1) = m.take (i + 1) := by
  rw [List.take_succ_eq_append_getElem hl, List.take_succ_eq_append_getElem hm, h, he]

theorem same_bytes (M : Mem) (x y : AV) (l m : List (BitVec 8)) (hx : BytesAt M x l) (hy : BytesAt M y m) (hl : l.length ≤ 9223372036854775806) :
    CallA tb.P 23 [x, y] M fun v N => v = .val (.bool (decide (l = m))) ∧ N = M := by
  refine F23_ok ?_
  unfold F23
  refine bindO_i (eLen_some hx.len) ?_
  simp only [zI_int]
  refine bindO_i (eLen_some hy.len) ?_
  simp only [zI_int]
  refine condB_i (fun hne => ?_) (fun heq => ?_)
  · have : l ≠ m := fun h => by subst h; simp at hne
    simp [this]
  · have hlen : l.length = m.length := by simp at heq; omega
    refine ⟨fun z n N => ∃ i : Nat, z = i ∧ n = l.length - i ∧ i ≤ l.length ∧ N = M ∧ l.take i = m.take i, ⟨l.length, 0, rfl, rfl, Nat.zero_le _, rfl, by simp⟩, ?_⟩
    rintro _ z n N ⟨i, rfl, rfl, hi, rfl, htk⟩
    refine bindO_i (eLen_some hx.len) ?_
    simp only [zI_int]
    refine condB_i (fun hlt => ?_) (fun hge => ?_)
    · have hlt : i < l.length := by simpa using hlt
      have hlt' : i < m.length := by omega
      obtain ⟨b, o, hia, hld⟩ := hx.at hlt
      obtain ⟨b', o', hia', hld'⟩ := hy.at hlt'
      refine bindO_i (eIA_some hia) ?_
      refine bindO_i (eIA_some hia') ?_
      refine bindO_i (eLd_some hld) ?_
      simp only [zI_int]
      refine bindO_i (eLd_some hld') ?_
      simp only [zI_int]
      refine condB_i (fun hd => ?_) (fun hd => ?_)
      · have hne : l[i] ≠ m[i] := fun h => by rw [h] at hd; simp at hd
        have : l ≠ m := fun h => by subst h; exact hne rfl
        simp [this]
      · have he : l[i] = m[i] := by
          apply BitVec.eq_of_toNat_eq
          have : (l[i].toNat : Int) = m[i].toNat := by simpa using hd
          omega
        exact ⟨l.length - (i + 1), by omega, i + 1, iInc (by omega), rfl, hlt, by trivial, take_succ_eq hlt hlt' htk he⟩
    · have hge : i = l.length := by have : ¬ (i : Int) < l.length := by simpa using hge
                                    omega
      subst hge
      have : l = m := by
        rw [List.take_of_length_le (Nat.le_refl _), List.take_of_length_le (by omega)] at htk
        exact htk
      simp [this]

/-! ## Low -/

def lowOf (x : Int) (n : Nat) : Nat := ((x % 18446744073709551616).tmod (n : Int)).toNat

theorem lowOf_lt (x : Int) {n : Nat} (hn : 0 < n) : lowOf x n < n := by
  unfold lowOf
  have h0 : 0 ≤ x % 18446744073709551616 := Int.emod_nonneg _ (by omega)
  rw [Int.tmod_eq_emod_of_nonneg h0]
  have := Int.emod_lt_of_pos (x % 18446744073709551616) (show (0 : Int) < n by omega)
  have := Int.emod_nonneg (x % 18446744073709551616) (show (n : Int) ≠ 0 by omega)
  omega

theorem low (M : Mem) (x : Int) (n : Nat) (hn : 0 < n) (hn2 : n < 4611686018427387904) :
    CallA tb.P 19 [.val (.int .i64 x), .val (.int .i64 (n : Int))] M fun y N => y = .val (.int .i64 (lowOf x n : Int)) ∧ N = M := by
  have h0 : 0 ≤ x % 18446744073709551616 := Int.emod_nonneg _ (by omega)
  have e1 : (n : Int) % 18446744073709551616 = n := by omega
  have hnn : (n : Int) ≠ 0 := by omega
  have hlt := lowOf_lt x hn
  have h2 : 0 ≤ (x % 18446744073709551616).tmod (n : Int) := Int.tmod_nonneg _ h0
  have e2 : (x % 18446744073709551616).tmod (n : Int) = (lowOf x n : Int) := by unfold lowOf; omega
  refine F19_ok ?_
  unfold F19
  simp only [zI_int, wrap_u64, e1]
  refine bindO_i (eBin_some (v := .val (.int .u64 (lowOf x n : Int))) ?_) ?_
  · rw [evBin_int (by simp) (by simp)]
    simp only [intBin, hnn, decide_false, cond_false, e2, Option.map_some]
  · simp only [zI_int]
    rw [wrap_i64' (by omega) (by omega)]
    exact ⟨rfl, by trivial⟩
end Go.Proofs.Ytpfifmemkbddjaa

/- What is lent, what is kept; the crc laws awake. -/
namespace Go.Proofs.Ytpfifmemkbddjaa
open Go.AM

def lent (l : List (BitVec 8)) : List AV := bvs l ++ List.replicate 3 (.val (.int .u8 119))

theorem setAt_one {α : Type} (cs : List α) (o : Nat) (v : α) : setAt cs o [v] = cs.set o v := rfl


theorem lend (M : Mem) (x : AV) (l : List (BitVec 8)) (hw : M.WF) (hx : BytesAt M x l) (hl : l.length ≤ 1000000) :
    CallA tb.P 13 [x] M fun y N => y = .sl M.next 0 l.length (l.length + 3) none ∧ N = M.new (.cells (lent l) true) := by
  refine F13_ok ?_
  unfold F13
  refine bindO_i (eLen_some hx.len) ?_
  have e3 : iAdd .i64 (l.length : Int) 3 = ((l.length + 3 : Nat) : Int) := by rw [iAdd, wrap_i64' (by omega) (by omega)]; rfl
  simp only [zI_int, e3]
  have hmk := make_sl (T := tb) (M := M) ty22 rfl ty5 (l := 0) (c := l.length + 3) (by omega) (by simp only; omega) (by omega) (k1 := .i64) (k2 := .i64)
  simp only [ofVs, ofV, repA_one'] at hmk
  have hmk' : evMakeSlice tb 22 (.val (.int .i64 0)) (.val (.int .i64 ((l.length + 3 : Nat) : Int))) M = some (.sl M.next 0 0 (l.length + 3) none, M.new (.cells (List.replicate (l.length + 3) (.val (.int .u8 0))) true)) := hmk
  rw [hmk', bindO_some]
  -- the append
  have hx1 : BytesAt (M.new (.cells (List.replicate (l.length + 3) (.val (.int .u8 0))) true)) x l := SlAt.keep0 hx hw (Keep.new hw _)
  have hap : evAppend tb 22 22 (.sl M.next 0 0 (l.length + 3) none) x (M.new (.cells (List.replicate (l.length + 3) (.val (.int .u8 0))) true)) =
      some (.sl M.next 0 l.length (l.length + 3) none, M.new (.cells (bvs l ++ List.replicate 3 (.val (.int .u8 0))) true)) := by
    by_cases hl0 : l.length = 0
    · have hx0 : SlAt 1 (M.new (.cells (List.replicate (l.length + 3) (.val (.int .u8 0))) true)) x 0 (bvs l) := by
        have := hx1
        unfold BytesAt at this
        rwa [hl0] at this ⊢
      have hs : SlAt 1 (M.new (.cells (List.replicate (l.length + 3) (.val (.int .u8 0))) true)) (.sl M.next 0 0 (l.length + 3) none) 0 [] := ⟨rfl, .inr ⟨_, _, _, _, rfl, ⟨by omega, .inl rfl⟩, .inl rfl⟩⟩
      rw [append_zero (T := tb) (k := 1) ty22 rfl ty5 rfl hs hx0]
      have hnil : l = [] := List.eq_nil_of_length_eq_zero hl0
      subst hnil
      rfl
    · rw [append_fits (T := tb) (k := 1) ty22 rfl ty5 rfl (b := M.next) (o := 0) (len := 0) (cap := l.length + 3) (ex := none) (cs := List.replicate (l.length + 3) (.val (.int .u8 0))) hx1 (by omega) (bvs_one l) (by omega) (by rw [Mem.get_new, if_pos rfl]) (by rw [List.length_replicate]; omega)]
      have := setAt_mid (bvs l) [] (List.replicate 3 (.val (.int .u8 0))) (List.replicate l.length (.val (.int .u8 0))) (by simp)
      simp only [List.nil_append, List.length_nil, List.replicate_append_replicate] at this
      rw [Mem.new_put]
      simp only [Nat.zero_mul, Nat.add_zero, Nat.zero_add]
      rw [this]
  refine bindO_i hap ?_
  refine bindO_i (eLen_some hx.len) ?_
  simp only [zI_int]
  refine bindO_i (eLen_some hx.len) ?_
  simp only [zI_int, e3]
  have hsl := slice_both (T := tb) ty22 ty5 (b := M.next) (o := 0) (n := l.length) (c := l.length + 3) (l := l.length) (h := l.length + 3) (by omega) (by omega) (k1 := .i64) (k2 := .i64)
  rw [AM.beq_false (show l.length + 3 ≠ l.length by omega), cond_false, show l.length + 3 - l.length = 3 by omega, Nat.zero_add] at hsl
  refine bindO_i (eSl_some hsl) ?_
  refine ⟨fun z n N => ∃ i : Nat, z = i ∧ i ≤ 3 ∧ n = 3 - i ∧ N = M.new (.cells (bvs l ++ (List.replicate i (.val (.int .u8 119)) ++ List.replicate (3 - i) (.val (.int .u8 0)))) true), ⟨3, 0, rfl, by omega, rfl, by simp⟩, ?_⟩
  rintro _ z n N ⟨i, rfl, hi, rfl, rfl⟩
  refine condB_i (fun hlt => ?_) (fun hge => ?_)
  · have hlt : i < 3 := by have : (i : Int) < 3 := by simpa using hlt
                           omega
    have hia : evIndexAddr tb 22 (.sl M.next l.length 3 3 none) (.val (.int .i64 (i : Int))) = some (.ptr M.next (l.length + i)) := by
      unfold evIndexAddr
      rw [ty22]
      simp only [ty5, Int.toNat_natCast, blt_of hlt, cond_true, Nat.mul_one]
      have h0 : decide (0 ≤ (i : Int)) = true := by simp
      rw [h0, cond_true]
    refine bindO_i (eIA_some hia) ?_
    have hst : evStore tb 5 (.ptr M.next (l.length + i)) (.val (.int .u8 119)) (M.new (.cells (bvs l ++ (List.replicate i (.val (.int .u8 119)) ++ List.replicate (3 - i) (.val (.int .u8 0)))) true)) =
        some (M.new (.cells (bvs l ++ (List.replicate (i + 1) (.val (.int .u8 119)) ++ List.replicate (3 - (i + 1)) (.val (.int .u8 0)))) true)) := by
      have hcells : (AV.val (.int .u8 119)).cells = [.val (.int .u8 119)] := rfl
      unfold evStore
      rw [ty5]
      simp only [hcells, List.length_singleton, AM.beq_self, cond_true]
      unfold Mem.storeAt
      rw [Mem.get_new, if_pos rfl]
      have hlen : (bvs l ++ (List.replicate i (AV.val (.int .u8 119)) ++ List.replicate (3 - i) (AV.val (.int .u8 0)))).length = l.length + 3 := by
        simp only [List.length_append, bvs_length, List.length_replicate]; omega
      have h1 : ones [AV.val (.int .u8 119)] = true := rfl
      simp only [hlen, List.length_singleton, ble_of (show l.length + i + 1 ≤ l.length + 3 by omega), cond_true, h1, Mem.new_put]
      have := setAt_mid [AV.val (.int .u8 119)] (bvs l ++ List.replicate i (AV.val (.int .u8 119))) (List.replicate (3 - (i + 1)) (AV.val (.int .u8 0))) [AV.val (.int .u8 0)] rfl
      rw [List.length_append, bvs_length, List.length_replicate] at this
      refine congrArg (fun c => some (M.new (.cells c true))) ?_
      rw [show List.replicate (3 - i) (AV.val (.int .u8 0)) = [AV.val (.int .u8 0)] ++ List.replicate (3 - (i + 1)) (AV.val (.int .u8 0)) by rw [show 3 - i = (3 - (i + 1)) + 1 by omega]; rfl]
      rw [← List.append_assoc, ← List.append_assoc, this, List.replicate_succ']
      simp only [List.append_assoc]
    refine bindO_i (eSt_some hst) ?_
    exact ⟨3 - (i + 1), by omega, i + 1, iInc (by omega), hlt, rfl, rfl⟩
  · have hge : i = 3 := by have : ¬ (i : Int) < 3 := by simpa using hge
                           omega
    subst hge
    simp [lent]

theorem lent_length (l : List (BitVec 8)) : (lent l).length = l.length + 3 := by simp [lent]

/-- What is lent reads as these bytes. -/
theorem lent_at {M : Mem} {b : Nat} {l : List (BitVec 8)} {rw' : Bool} (h : M.get b = some (.cells (lent l) rw')) : BytesAt M (.sl b 0 l.length (l.length + 3) none) l :=
  ⟨by simp, .inr ⟨b, 0, _, _, rfl, ⟨by omega, .inl rfl⟩, .inr ⟨_, _, h, by rw [lent_length]; omega, by
    rw [List.drop_zero, Nat.mul_one]
    unfold lent
    rw [List.take_left' (by simp)]⟩⟩⟩

theorem kept (M : Mem) (b : Nat) (y : AV) (l m : List (BitVec 8)) {rw' : Bool} (hg : M.get b = some (.cells (lent l) rw')) (hy : BytesAt M y m) (hl : l.length ≤ 1000000) :
    CallA tb.P 18 [.sl b 0 l.length (l.length + 3) none, y] M fun v N => v = .val (.bool (decide (l = m))) ∧ N = M := by
  have hx := lent_at hg
  refine F18_ok ?_
  unfold F18
  have e3 : iAdd .i64 (l.length : Int) 3 = ((l.length + 3 : Nat) : Int) := by rw [iAdd, wrap_i64' (by omega) (by omega)]; rfl
  refine bindO_i (eLen_some hx.len) ?_
  simp only [zI_int]
  refine bindO_i (eLen_some hx.len) ?_
  simp only [zI_int, e3]
  have hsl := slice_both (T := tb) ty22 ty5 (b := b) (o := 0) (n := l.length) (c := l.length + 3) (l := l.length) (h := l.length + 3) (by omega) (by omega) (k1 := .i64) (k2 := .i64)
  rw [AM.beq_false (show l.length + 3 ≠ l.length by omega), cond_false, show l.length + 3 - l.length = 3 by omega, Nat.zero_add] at hsl
  refine bindO_i (eSl_some hsl) ?_
  refine ⟨fun z n N => ∃ i : Nat, z = i ∧ i ≤ 3 ∧ n = 3 - i ∧ N = M, ⟨3, 0, rfl, by omega, rfl, rfl⟩, ?_⟩
  rintro _ z n N ⟨i, rfl, hi, rfl, rfl⟩
  refine condB_i (fun hlt => ?_) (fun hge => ?_)
  · have hlt : i < 3 := by have : (i : Int) < 3 := by simpa using hlt
                           omega
    have hia : evIndexAddr tb 22 (.sl b l.length 3 3 none) (.val (.int .i64 (i : Int))) = some (.ptr b (l.length + i)) := by
      unfold evIndexAddr
      rw [ty22]
      simp only [ty5, Int.toNat_natCast, blt_of hlt, cond_true, Nat.mul_one]
      have h0 : decide (0 ≤ (i : Int)) = true := by simp
      rw [h0, cond_true]
    refine bindO_i (eIA_some hia) ?_
    have hld : evLoad tb 5 (.ptr b (l.length + i)) N = some (.val (.int .u8 119)) := by
      unfold evLoad
      rw [ty5]
      simp only [TI.isAgg, cond_false]
      unfold Mem.cellAt
      rw [hg]
      simp only [lent]
      rw [List.getElem?_append_right (by simp), bvs_length, Nat.add_sub_cancel_left, List.getElem?_replicate, if_pos hlt]
    refine bindO_i (eLd_some hld) ?_
    simp only [zI_int]
    refine condB_i (fun h => by simp at h) (fun _ => ?_)
    exact ⟨3 - (i + 1), by omega, i + 1, iInc (by omega), hlt, rfl, by trivial⟩
  · refine (same_bytes N _ y l m hx hy (by omega)).mono ?_
    rintro v N' ⟨rfl, rfl⟩
    simp only [zB_bool, and_self]

theorem wf0 : (⟨0, .e⟩ : Mem).WF := fun b r h => by simp [Mem.get, Tr.get] at h

/-- The crc laws are awake. -/
theorem crc_awake (M : Mem) (hw : M.WF) : CallA tb.P 12 [] M fun y N => y = .val (.bool true) ∧ Keep M N [] := by
  refine F12_ok ?_
  unfold F12
  simp only [letP_eq]
  have hcv : evConv tb 22 22 (.sl M.next 0 9 9 none) (M.new (.cells (bvs [49, 50, 51, 52, 53, 54, 55, 56, 57]) true)) =
      some (.sl M.next 0 9 9 none, M.new (.cells (bvs [49, 50, 51, 52, 53, 54, 55, 56, 57]) false)) := by
    unfold evConv
    rw [ty22]
    simp only [ty5, Mem.get_new, if_true, AM.beq_self, cond_true, Mem.new_put]
  refine bindO_i hcv ?_
  have hx : BytesAt (M.new (.cells (bvs [49, 50, 51, 52, 53, 54, 55, 56, 57]) false)) (.sl M.next 0 9 9 none) [49, 50, 51, 52, 53, 54, 55, 56, 57] :=
    ⟨rfl, .inr ⟨_, _, _, _, rfl, ⟨Nat.le_refl _, .inl rfl⟩, .inr ⟨_, _, by rw [Mem.get_new, if_pos rfl], Nat.le_refl _, rfl⟩⟩⟩
  refine (crc_of _ _ _ hx (by decide)).mono ?_
  rintro y N ⟨rfl, rfl⟩
  have e : (more 0#32 [49, 50, 51, 52, 53, 54, 55, 56, 57]).toNat = 3421780262 := by kernel_rfl
  rw [e]
  simp only [zI_int]
  refine condB_i (fun _ => ?_) (fun h => by simp at h)
  refine (crc_more _ 0#32 (.val (.slice none 0 0)) [] SlAt.nil (by decide)).mono ?_
  rintro y N ⟨rfl, rfl⟩
  have e : (more 0#32 []).toNat = 0 := by kernel_rfl
  rw [e]
  simp only [zI_int]
  exact ⟨rfl, Keep.new hw _⟩
end Go.Proofs.Ytpfifmemkbddjaa

/- The laws' arguments; CrcTells. -/
namespace Go.Proofs.Ytpfifmemkbddjaa
open Go.AM
open Go.ChangeShapes Go.WideShapes Go.RowKit

theorem bvs_of : ∀ {zs : List Int}, (∀ z ∈ zs, 0 ≤ z ∧ z ≤ 255) → ∃ l : List (BitVec 8), l.length = zs.length ∧ intsA .u8 zs = bvs l
  | [], _ => ⟨[], rfl, rfl⟩
  | z :: zs, h => by
    obtain ⟨l, h1, h2⟩ := bvs_of (zs := zs) fun y hy => h y (by simp [hy])
    obtain ⟨b, hb⟩ := bv_of (n := 8) (h z (by simp)).1 (by have := (h z (by simp)).2; omega)
    exact ⟨b :: l, by simp [h1], by rw [hb]; show _ :: intsA .u8 zs = _ :: bvs l; rw [h2]; rfl⟩

/-- An argument that is bytes. -/
theorem bytes_arg {H : Type} {enc : TypeId × Value → H} {W : World} {t e : TypeId} (ht : Try.prog.underlying t = some (.slice e)) (he : Try.prog.underlying e = some (.int .u8)) (hc : Try.prog.cellsOf e = 1) {base : Nat} {v : Value} {d : DataW H} {ps : List MemPlace}
    (hval : Value.okWide Try.prog W .any base t v) (hd : DataW.Trod enc Try.prog W 0 (fun _ => true) true t v d ps) :
    ∃ (x : AV) (l : List (BitVec 8)), VR (injOf W) x v ∧ BytesAt (memOf W) x l ∧ l.length ≤ 9223372036854775807 := by
  obtain ⟨x, zs, h1, h2, h3, h4⟩ := ints_arg ht he hc hval hd
  obtain ⟨l, h5, h6⟩ := bvs_of (zs := zs) fun z hz => by
    have := h4 z hz
    have e1 : IntKind.u8.min = 0 := rfl
    have e2 : IntKind.u8.max = 255 := rfl
    omega
  refine ⟨x, l, h1, ?_, by omega⟩
  unfold BytesAt
  refine ⟨by simp, ?_⟩
  rcases h2 with ⟨rfl, rfl⟩ | ⟨b, o, c, cs, rw', rfl, g1, g2, g3, g4, g5⟩
  · exact .inl ⟨rfl, by simpa using h5⟩
  · refine .inr ⟨b, o, c, none, by rw [h5], ⟨by omega, .inl rfl⟩, ?_⟩
    rcases g4 with g4 | g4
    · left; omega
    · exact .inr ⟨cs, rw', g3, by omega, by rw [Nat.mul_one, h5, g5, h6]⟩

theorem crc_tells (M : Mem) (hw : M.WF) (x : AV) (l : List (BitVec 8)) (s : BitVec 32) (hx : BytesAt M x l) (hl : l.length ≤ 9223372036854775807) :
    CallA tb.P 3 [x, .val (.int .u32 s.toNat)] M fun y _ => y = .val (.bool true) := by
  refine F3_ok ?_
  unfold F3
  simp only [zI_int]
  refine bindO_i (eLen_some hx.len) ?_
  simp only [zI_int]
  refine condB_i (fun _ => ?_) (fun hle => ?_)
  · refine (crc_awake M hw).mono ?_
    rintro y N ⟨rfl, _⟩
    simp only [zB_bool]
  · have hle : l.length ≤ 500 := by have : ¬ (l.length : Int) > 500 := by simpa using hle
                                    omega
    refine (lend M x l hw hx (by omega)).mono ?_
    rintro y N ⟨rfl, rfl⟩
    simp only [letP_eq]
    have hg : (M.new (.cells (lent l) true)).get M.next = some (.cells (lent l) true) := by rw [Mem.get_new, if_pos rfl]
    have hx1 : BytesAt (M.new (.cells (lent l) true)) x l := SlAt.keep0 hx hw (Keep.new hw _)
    refine (crc_of _ _ l (lent_at hg) (by omega)).mono ?_
    rintro y N ⟨rfl, rfl⟩
    simp only [zI_int]
    refine (ref_of _ _ l hx1 (by omega)).mono ?_
    rintro y N ⟨rfl, rfl⟩
    simp only [zI_int]
    refine condB_i (fun _ => ?_) (fun h => by simp at h)
    refine (crc_more _ s _ l (lent_at hg) (by omega)).mono ?_
    rintro y N ⟨rfl, rfl⟩
    simp only [zI_int]
    refine (ref_more _ s _ l hx1 (by omega)).mono ?_
    rintro y N ⟨rfl, rfl⟩
    simp only [zI_int]
    refine condB_i (fun _ => ?_) (fun h => by simp at h)
    refine (kept _ M.next x l l hg hx1 (by omega)).mono ?_
    rintro y N ⟨rfl, rfl⟩
    simp only [zB_bool]
    refine condB_i (fun _ => ?_) (fun h => by simp at h)
    refine (crc_awake _ (hw.new _)).mono ?_
    rintro y N ⟨rfl, _⟩
    simp only [zB_bool]

end Go.Proofs.Ytpfifmemkbddjaa

/- The sums' laws, plainly; bytes that grow; CrcParts. -/
namespace Go.Proofs.Ytpfifmemkbddjaa
open Go.AM
open Go.ChangeShapes Go.WideShapes Go.RowKit

/-! ## Sums, plainly -/

theorem more_more (s : BitVec 32) (l m : List (BitVec 8)) : more (more s l) m = more s (l ++ m) := by
  unfold more reg
  rw [BitVec.not_not, List.foldl_append]

theorem bit_xor (r s : BitVec 32) : bit (r ^^^ s) = bit r ^^^ bit s := by
  unfold bit
  have h : ∀ x : BitVec 32, x &&& 1#32 = 1#32 ↔ x.getLsbD 0 = true := by
    intro x
    constructor
    · intro h
      have := congrArg (fun y : BitVec 32 => y.getLsbD 0) h
      simpa using this
    · intro h
      apply BitVec.eq_of_getLsbD_eq
      intro i hi
      by_cases h0 : i = 0
      · subst h0; simp [h]
      · rw [BitVec.getLsbD_and]
        have : (1#32).getLsbD i = false := by
          rw [BitVec.getLsbD_one]; simp [h0]
        rw [this]; simp
  simp only [h, BitVec.getLsbD_xor, BitVec.ushiftRight_xor_distrib]
  cases r.getLsbD 0 <;> cases s.getLsbD 0 <;> simp
  · rw [BitVec.xor_assoc]
  · rw [BitVec.xor_assoc, BitVec.xor_comm (s >>> 1), ← BitVec.xor_assoc]
  · rw [BitVec.xor_assoc, BitVec.xor_comm (s >>> 1), ← BitVec.xor_assoc 3988292384#32, BitVec.xor_self, BitVec.zero_xor]

theorem bits_xor : ∀ (n : Nat) (r s : BitVec 32), bits n (r ^^^ s) = bits n r ^^^ bits n s
  | 0, _, _ => rfl
  | n + 1, r, s => by simp only [bits, bit_xor, bits_xor n]

def xors (l m : List (BitVec 8)) : List (BitVec 8) := List.zipWith (· ^^^ ·) l m

theorem reg_xor : ∀ (l m : List (BitVec 8)) (r s : BitVec 32), l.length = m.length → reg (r ^^^ s) (xors l m) = reg r l ^^^ reg s m
  | [], [], r, s, _ => rfl
  | [], _ :: _, _, _, h => by simp at h
  | _ :: _, [], _, _, h => by simp at h
  | a :: l, b :: m, r, s, h => by
    have e : bits 8 (r ^^^ s ^^^ (a ^^^ b).setWidth 32) = bits 8 (r ^^^ a.setWidth 32) ^^^ bits 8 (s ^^^ b.setWidth 32) := by
      rw [← bits_xor, BitVec.setWidth_xor]
      congr 1
      rw [BitVec.xor_assoc, BitVec.xor_assoc, ← BitVec.xor_assoc s, BitVec.xor_comm s, BitVec.xor_assoc]
    show reg (bits 8 (r ^^^ s ^^^ (a ^^^ b).setWidth 32)) (xors l m) = _
    rw [e, reg_xor l m _ _ (by simpa using h)]
    rfl

theorem not_xor3 (a b c : BitVec 32) : ~~~ (a ^^^ b ^^^ c) = ~~~ a ^^^ ~~~ b ^^^ ~~~ c := by
  simp only [← BitVec.xor_allOnes]
  generalize BitVec.allOnes 32 = w
  apply BitVec.eq_of_getLsbD_eq
  intro i hi
  simp only [BitVec.getLsbD_xor]
  cases a.getLsbD i <;> cases b.getLsbD i <;> cases c.getLsbD i <;> cases w.getLsbD i <;> rfl

theorem more_xor3 (l m z : List (BitVec 8)) (h : l.length = m.length) (h2 : l.length = z.length) (hz : ∀ b ∈ z, b = 0#8) :
    more 0#32 (xors l m) = more 0#32 l ^^^ more 0#32 m ^^^ more 0#32 z := by
  have hx : xors (xors l m) z = xors l m := by
    apply List.ext_getElem
    · simp [xors]; omega
    · intro i h1 h3
      simp only [xors, List.getElem_zipWith]
      have : z[i]'(by simp [xors] at h1; omega) = 0#8 := hz _ (List.getElem_mem _)
      rw [this, BitVec.xor_zero]
  have hl : (xors l m).length = z.length := by simp [xors]; omega
  unfold more
  rw [← not_xor3, ← reg_xor l m _ _ h, ← reg_xor _ z _ _ hl, hx]
  rfl

/-! ## Bytes that grow -/

/-- Nothing yet, or what append alone has made. -/
def Gr (M : Mem) (x : AV) (l : List (BitVec 8)) : Prop := (x = .val (.slice none 0 0) ∧ l = []) ∨ ∃ b, Grown 1 M x l.length (bvs l) b

theorem Gr.at {M : Mem} {x : AV} {l : List (BitVec 8)} (h : Gr M x l) : BytesAt M x l := by
  rcases h with ⟨rfl, rfl⟩ | ⟨b, h⟩
  · exact SlAt.nil
  · exact h.at

theorem Gr.mono {M N : Mem} {x : AV} {l : List (BitVec 8)} (h : Gr M x l) (hk : ∀ c r, inBlk x c → M.get c = some r → N.get c = some r) : Gr N x l := by
  rcases h with h | ⟨b, h1, h2, h3, h4⟩
  · exact .inl h
  · exact .inr ⟨b, h1, h2, h3, hk b _ (by rw [h1]; exact ⟨by omega, rfl⟩) h4⟩

theorem Gr.append {M : Mem} {x y : AV} {l m : List (BitVec 8)} (hw : M.WF) (h : Gr M x l) (hy : BytesAt M y m) (hm : 0 < m.length) (hb : l.length + m.length ≤ 1000000) :
    ∃ x' N, evAppend tb 22 22 x y M = some (x', N) ∧ Gr N x' (l ++ m) ∧ N.WF ∧ N.next = M.next + 1 ∧ (∀ c r, ¬ inBlk x c → M.get c = some r → N.get c = some r) ∧ (∀ c, inBlk x' c → c = M.next) := by
  rcases h with ⟨rfl, rfl⟩ | ⟨b, hg⟩
  · obtain ⟨N, h1, rfl⟩ := append_nil (T := tb) (k := 1) ty22 rfl ty5 rfl hy hm ⟨by simp only; simp only [List.length_nil] at hb; omega, by simp only [List.length_nil] at hb; omega⟩
    refine ⟨_, _, h1, ?_, hw.new _, rfl, fun c r _ hc => ?_, fun c hc => hc.2.symm⟩
    · rw [List.nil_append]
      exact .inr ⟨M.next, rfl, hm, by simp, by rw [Mem.get_new, if_pos rfl]⟩
    · rw [Mem.get_new, if_neg (by have := hw c r hc; omega)]; exact hc
  · obtain ⟨N, h1, rfl⟩ := append_grown (T := tb) (k := 1) ty22 rfl ty5 rfl hg hy hm (bvs_one m) ⟨by simp only; omega, by omega⟩
    refine ⟨_, _, h1, ?_, (hw.kill _).new _, rfl, fun c r hn hc => ?_, fun c hc => hc.2.symm⟩
    · refine .inr ⟨M.next, by simp, by simp; omega, by simp, ?_⟩
      rw [Mem.get_new, if_pos (by rfl), bvs_append]
    · have hcb : c ≠ b := fun he => by
        subst he
        exact hn (by rw [hg.1]; exact ⟨by have := hg.2.1; omega, rfl⟩)
      rw [Mem.get_new, if_neg (by have := hw c r hc; simp; omega), Mem.get_kill, if_neg hcb]; exact hc

theorem bytes_one {M : Mem} {b : Nat} {v : BitVec 8} {rw' : Bool} (h : M.get b = some (.cells [bv8 v] rw')) : BytesAt M (.sl b 0 1 1 none) [v] :=
  ⟨rfl, .inr ⟨b, 0, 1, none, rfl, ⟨Nat.le_refl _, .inl rfl⟩, .inr ⟨_, _, h, Nat.le_refl _, rfl⟩⟩⟩

theorem iXor_u8 (a b : BitVec 8) : iXor .u8 (a.toNat : Int) (b.toNat : Int) = ((a ^^^ b).toNat : Int) := by
  show IntKind.u8.wrap ((BitVec.ofInt 8 (a.toNat : Int) ^^^ BitVec.ofInt 8 (b.toNat : Int)).toNat : Int) = _
  rw [ofInt_bv, ofInt_bv, wrap_u8_bv]

theorem peek_min (P : Program) (ts : Array TypeId) (t : TypeId) (k : IntKind) (a b : Int) : peek P (Builtin.min_ ts t ⟨[.int k a, .int k b]⟩) = some (.int k (if b < a then b else a)) := rfl

theorem BytesAt.slice {M : Mem} {x : AV} {l : List (BitVec 8)} (h : BytesAt M x l) {lo hi : Option AV} {a r : Nat}
    (hlo : (lo = none ∧ a = 0) ∨ lo = some (.val (.int .i64 (a : Int)))) (hhi : (hi = none ∧ r = l.length) ∨ hi = some (.val (.int .i64 (r : Int)))) (har : a ≤ r) (hrn : r ≤ l.length) :
    ∃ y, evSliceAt tb 22 x lo hi none = some y ∧ BytesAt M y ((l.take r).drop a) := by
  obtain ⟨y, h1, h2, _⟩ := SlAt.slice h ty22 rfl ty5 rfl (k1 := .i64) (k2 := .i64) hlo hhi har hrn
  refine ⟨y, h1, ?_⟩
  unfold BytesAt
  have e1 : ((l.take r).drop a).length = r - a := by simp; omega
  have e2 : bvs ((l.take r).drop a) = ((bvs l).drop (a * 1)).take ((r - a) * 1) := by
    unfold bvs
    rw [Nat.mul_one, Nat.mul_one, List.map_drop, List.map_take, List.drop_take]
  rw [e1, e2]; exact h2


theorem eMin_some {ts : Array TypeId} {t : TypeId} {k : IntKind} {a b : Int} {M : Mem} : eMin tb ts t [.int k a, .int k b] M = some (.val (.int k (if b < a then b else a)), M) := by
  unfold eMin
  rw [peek_min]
  rfl

theorem zip_take {l m : List (BitVec 8)} {i : Nat} (hl : i < l.length) (hm : i < m.length) : xors (l.take (i + 1)) (m.take (i + 1)) = xors (l.take i) (m.take i) ++ [l[i] ^^^ m[i]] := by
  unfold xors
  rw [List.take_succ_eq_append_getElem hl, List.take_succ_eq_append_getElem hm, List.zipWith_append (by simp; omega)]
  rfl

theorem crc_parts (M : Mem) (hw : M.WF) (x y : AV) (l m : List (BitVec 8)) (at' : Int) (hx : BytesAt M x l) (hy : BytesAt M y m) (hl : l.length ≤ 9223372036854775807) (hm : m.length ≤ 9223372036854775807) :
    CallA tb.P 4 [x, .val (.int .i64 at'), y] M fun v _ => v = .val (.bool true) := by
  refine F4_ok ?_
  unfold F4
  simp only [zI_int]
  refine letP_i fun K hK => ?_
  have awake : ∀ b : Bool, b = true → K b := by
    rintro b rfl
    rw [hK]
    simp only [condB_true]
    refine (crc_awake M hw).mono ?_
    rintro y N ⟨rfl, _⟩
    simp only [zB_bool]
  refine bindO_i (eLen_some hx.len) ?_
  simp only [zI_int]
  refine condB_i (fun _ => awake true rfl) (fun hle => ?_)
  have hle : l.length ≤ 300 := by have : ¬ (l.length : Int) > 300 := by simpa using hle
                                  omega
  refine bindO_i (eLen_some hy.len) ?_
  simp only [zI_int]
  by_cases hmle : (m.length : Int) > 300
  · exact awake _ (by simpa using hmle)
  have hmle' : m.length ≤ 300 := by omega
  rw [show decide ((m.length : Int) > 300) = false by simpa using hmle, hK]
  clear hK awake
  simp only [condB_false]
  refine bindO_i (eLen_some hx.len) ?_
  simp only [zI_int]
  have e1 : iAdd .i64 (l.length : Int) 1 = ((l.length + 1 : Nat) : Int) := iInc (by omega)
  rw [e1]
  refine (low M at' (l.length + 1) (by omega) (by omega)).mono ?_
  rintro v N ⟨rfl, rfl⟩
  simp only [zI_int]
  have hat := lowOf_lt at' (show 0 < l.length + 1 by omega)
  generalize lowOf at' (l.length + 1) = a at hat ⊢
  refine bindO_i (eLen_some hx.len) ?_
  simp only [zI_int]
  refine bindO_i (eLen_some hy.len) ?_
  simp only [zI_int]
  refine bindO_i eMin_some ?_
  simp only [zI_int]
  have en : (if (m.length : Int) < (l.length : Int) then (m.length : Int) else (l.length : Int)) = ((min l.length m.length : Nat) : Int) := by
    split <;> omega
  rw [en]
  generalize hn : min l.length m.length = n
  refine ⟨fun u z k q P => ∃ i : Nat, k = i ∧ q = n - i ∧ i ≤ n ∧ Gr P u (xors (l.take i) (m.take i)) ∧ Gr P z (List.replicate i 0#8) ∧ (∀ c, inBlk u c → ¬ inBlk z c) ∧ P.WF ∧ (∀ c r, N.get c = some r → P.get c = some r) ∧ (∀ c, inBlk u c → N.next ≤ c) ∧ (∀ c, inBlk z c → N.next ≤ c) ∧ N.next ≤ P.next,
    ⟨n, 0, rfl, rfl, Nat.zero_le _, .inl ⟨rfl, rfl⟩, .inl ⟨rfl, rfl⟩, fun c h => h.elim, hw, fun _ _ h => h, fun c h => h.elim, fun c h => h.elim, Nat.le_refl _⟩, ?_⟩
  rintro _ u z k q P ⟨i, rfl, rfl, hi, hu, hz, hdis, hPw, hPN, hun, hzn, hnx⟩
  have hPx : BytesAt P x l := SlAt.mono hx fun c r _ h => hPN c r h
  have hPy : BytesAt P y m := SlAt.mono hy fun c r _ h => hPN c r h
  refine condB_i (fun hlt => ?_) (fun hge => ?_)
  · have hlt : i < n := by simpa using hlt
    have hil : i < l.length := by omega
    have him : i < m.length := by omega
    refine letP_i fun P1 hP1 => ?_
    have hx1 : BytesAt P1 x l := SlAt.rows hPx (by rw [hP1])
    have hy1 : BytesAt P1 y m := SlAt.rows hPy (by rw [hP1])
    obtain ⟨b, o, hia, hld⟩ := hx1.at hil
    obtain ⟨b', o', hia', hld'⟩ := hy1.at him
    refine bindO_i (eIA_some hia) ?_
    refine bindO_i (eIA_some hia') ?_
    refine bindO_i (eLd_some hld) ?_
    simp only [zI_int]
    refine bindO_i (eLd_some hld') ?_
    simp only [zI_int, iXor_u8]
    refine letP_i fun P2 hP2 => ?_
    have hP2' : P2 = P.new (.cells [bv8 (l[i] ^^^ m[i])] true) := by rw [hP2, hP1]; rfl
    clear hP2 hia hia' hld hld' hx1 hy1 hP1
    subst hP2'
    have hw2 := hPw.new (.cells [bv8 (l[i] ^^^ m[i])] true)
    have hu2 : Gr (P.new (.cells [bv8 (l[i] ^^^ m[i])] true)) u (xors (l.take i) (m.take i)) := hu.mono fun c r _ hc => by rw [Mem.get_new, if_neg (by have := hPw c r hc; omega)]; exact hc
    have hs1 : BytesAt (P.new (.cells [bv8 (l[i] ^^^ m[i])] true)) (.sl P.next 0 1 1 none) [l[i] ^^^ m[i]] := bytes_one (by rw [Mem.get_new, if_pos rfl])
    have hlx : (xors (l.take i) (m.take i)).length = i := by simp [xors]; omega
    obtain ⟨u', P3, h1, h2, h3, h4, h5, h6⟩ := Gr.append hw2 hu2 hs1 (by simp) (by simp [hlx]; omega)
    refine bindO_i h1 ?_
    refine letP_i fun P4 hP4 => ?_
    subst hP4
    have hw4 := h3.new (.cells [bv8 0#8] true)
    have hs2 : BytesAt (P3.new (.cells [bv8 0#8] true)) (.sl P3.next 0 1 1 none) [0#8] := bytes_one (by rw [Mem.get_new, if_pos rfl])
    have hz4 : Gr (P3.new (.cells [bv8 0#8] true)) z (List.replicate i 0#8) := hz.mono fun c r hin hc => by
      have hc1 := hPw c r hc
      have hc2 : (P.new (.cells [bv8 (l[i] ^^^ m[i])] true)).get c = some r := by rw [Mem.get_new, if_neg (by omega)]; exact hc
      have hc3 := h5 c r (fun hin' => hdis c hin' hin) hc2
      rw [Mem.get_new, if_neg (by have := h3 c r hc3; omega)]; exact hc3
    obtain ⟨z', P5, g1, g2, g3, g4, g5, g6⟩ := Gr.append hw4 hz4 hs2 (by simp) (by simp; omega)
    refine bindO_i (show evAppend tb 22 22 z (.sl P3.next 0 1 1 none) (P3.new (.cells [.val (.int .u8 0)] true)) = some (z', P5) from g1) ?_
    have hn1 : (P.new (.cells [bv8 (l[i] ^^^ m[i])] true)).next = P.next + 1 := rfl
    have hn2 : (P3.new (.cells [bv8 0#8] true)).next = P3.next + 1 := rfl
    refine ⟨n - (i + 1), by omega, i + 1, iInc (by omega), rfl, hlt, ?_, ?_, ?_, g3, ?_, ?_, ?_, ?_⟩
    · rw [zip_take hil him]
      refine h2.mono fun c r hin hc => ?_
      have hc1 := h3 c r hc
      have := h6 c hin
      refine g5 c r (fun hin' => ?_) (by rw [Mem.get_new, if_neg (by omega)]; exact hc)
      -- the block of what was appended first is not that of the other one
      have hzlt := (hz.at).blk_lt hPw hin'
      omega
    · rw [List.replicate_succ']; exact g2
    · intro c hc hc'
      have := h6 c hc
      have := g6 c hc'
      omega
    · intro c r hc
      have hcN := hw c r hc
      have hc1 := hPN c r hc
      have hc1' := hPw c r hc1
      have hc2 : (P.new (.cells [bv8 (l[i] ^^^ m[i])] true)).get c = some r := by rw [Mem.get_new, if_neg (by omega)]; exact hc1
      have hc3 := h5 c r (fun hin => by have := hun c hin; omega) hc2
      exact g5 c r (fun hin => by have := hzn c hin; omega) (by rw [Mem.get_new, if_neg (by have := h3 c r hc3; omega)]; exact hc3)
    · intro c hc; have := h6 c hc; omega
    · intro c hc; have := g6 c hc; omega
    · show N.next ≤ P5.next
      omega
  · have hge : i = n := by have : ¬ (i : Int) < n := by simpa using hge
                           omega
    subst hge
    simp only [letP_eq]
    obtain ⟨y1, s1, r1⟩ := hPx.slice (lo := none) (hi := some (.val (.int .i64 (a : Int)))) (a := 0) (r := a) (.inl ⟨rfl, rfl⟩) (.inr rfl) (Nat.zero_le _) (by omega)
    obtain ⟨y2, s2, r2⟩ := hPx.slice (lo := some (.val (.int .i64 (a : Int)))) (hi := none) (a := a) (r := l.length) (.inr rfl) (.inl ⟨rfl, rfl⟩) (by omega) (Nat.le_refl _)
    refine bindO_i (eSl_some s1) ?_
    refine bindO_i (eSl_some s2) ?_
    refine (crc_of P y1 _ r1 (by simp; omega)).mono ?_
    rintro v N' ⟨rfl, rfl⟩
    simp only [zI_int]
    refine (crc_more _ _ y2 _ r2 (by simp; omega)).mono ?_
    rintro v N'' ⟨rfl, rfl⟩
    simp only [zI_int]
    refine (crc_of _ x l hPx (by omega)).mono ?_
    rintro v P' ⟨rfl, rfl⟩
    simp only [zI_int]
    have hparts : more (more 0#32 ((l.take a).drop 0)) ((l.take l.length).drop a) = more 0#32 l := by
      rw [more_more, List.drop_zero, List.take_length, List.take_append_drop]
    rw [hparts]
    refine condB_i (fun _ => ?_) (fun h => by simp at h)
    obtain ⟨y3, s3, r3⟩ := hPx.slice (lo := none) (hi := some (.val (.int .i64 (i : Int)))) (a := 0) (r := i) (.inl ⟨rfl, rfl⟩) (.inr rfl) (Nat.zero_le _) (by omega)
    obtain ⟨y4, s4, r4⟩ := hPy.slice (lo := none) (hi := some (.val (.int .i64 (i : Int)))) (a := 0) (r := i) (.inl ⟨rfl, rfl⟩) (.inr rfl) (Nat.zero_le _) (by omega)
    refine bindO_i (eSl_some s3) ?_
    refine bindO_i (eSl_some s4) ?_
    refine (crc_of _ u _ hu.at (by simp [xors]; omega)).mono ?_
    rintro v P' ⟨rfl, rfl⟩
    simp only [zI_int]
    refine (crc_of _ y3 _ r3 (by simp; omega)).mono ?_
    rintro v P' ⟨rfl, rfl⟩
    simp only [zI_int]
    refine (crc_of _ y4 _ r4 (by simp; omega)).mono ?_
    rintro v P' ⟨rfl, rfl⟩
    simp only [zI_int]
    refine (crc_of _ z _ hz.at (by simp; omega)).mono ?_
    rintro v P' ⟨rfl, rfl⟩
    simp only [zI_int, iXor_u32, List.drop_zero]
    rw [← more_xor3 (l.take i) (m.take i) (List.replicate i 0#8) (by simp; omega) (by simp; omega) (fun b hb => (List.mem_replicate.1 hb).2)]
    refine condB_i (fun _ => ?_) (fun h => by simp at h)
    refine (crc_awake _ hPw).mono ?_
    rintro v P' ⟨rfl, _⟩
    simp only [zB_bool]

end Go.Proofs.Ytpfifmemkbddjaa

/- Bits that are turned; CrcBits. -/
namespace Go.Proofs.Ytpfifmemkbddjaa
open Go.AM
open Go.ChangeShapes Go.WideShapes Go.RowKit

/-! ## Plainly -/

theorem bit_zero {r : BitVec 32} (h : bit r = 0#32) : r = 0#32 := by
  unfold bit at h
  split at h
  · exfalso
    have := congrArg (fun y : BitVec 32 => y.getLsbD 31) h
    simp at this
  · rename_i h1
    apply BitVec.eq_of_getLsbD_eq
    intro i hi
    by_cases h0 : i = 0
    · subst h0
      cases hb : r.getLsbD 0 with
      | false => simp
      | true =>
        exfalso
        apply h1
        apply BitVec.eq_of_getLsbD_eq
        intro j hj
        by_cases hj0 : j = 0
        · subst hj0; simp [hb]
        · rw [BitVec.getLsbD_and]
          have : (1#32).getLsbD j = false := by rw [BitVec.getLsbD_one]; simp [hj0]
          rw [this]; simp
    · have := congrArg (fun y : BitVec 32 => y.getLsbD (i - 1)) h
      simp only [BitVec.getLsbD_ushiftRight] at this
      rw [show 1 + (i - 1) = i by omega] at this
      rw [this]; simp

theorem bits_zero : ∀ {n : Nat} {r : BitVec 32}, bits n r = 0#32 → r = 0#32
  | 0, _, h => h
  | n + 1, _, h => bit_zero (bits_zero (n := n) h)

theorem bits_of_zero : ∀ n, bits n 0#32 = 0#32
  | 0 => rfl
  | n + 1 => by
    have : bit 0#32 = 0#32 := by kernel_rfl
    rw [bits, this, bits_of_zero n]

theorem bits_inj {n : Nat} {r s : BitVec 32} (h : bits n r = bits n s) : r = s := by
  have h1 : bits n (r ^^^ s) = 0#32 := by rw [bits_xor, h, BitVec.xor_self]
  have h2 := bits_zero h1
  have := congrArg (· ^^^ s) h2
  simpa [BitVec.xor_assoc] using this

theorem bits_add : ∀ (m n : Nat) (r : BitVec 32), bits (m + n) r = bits n (bits m r)
  | 0, n, r => by rw [Nat.zero_add]; rfl
  | m + 1, n, r => by rw [show m + 1 + n = (m + n) + 1 by omega]; exact bits_add m n (bit r)

theorem reg_zeros : ∀ (n : Nat) (r : BitVec 32), reg r (List.replicate n 0#8) = bits (8 * n) r
  | 0, _ => rfl
  | n + 1, r => by
    show reg (bits 8 (r ^^^ (0#8).setWidth 32)) (List.replicate n 0#8) = _
    rw [reg_zeros n, show 8 * (n + 1) = 8 + 8 * n by omega, bits_add 8]
    congr 2
    simp

theorem bits_one : ∀ k : Fin 8, bits 8 ((1#8 <<< k.val).setWidth 32) = bits (8 - k.val) 1#32 := by decide

/-- Bytes of which one bit is set. -/
def ones1 (n i : Nat) : List (BitVec 8) := (List.replicate n 0#8).set (i / 8) (1#8 <<< (i % 8))

theorem ones1_eq {n i : Nat} (h : i < 8 * n) : ones1 n i = List.replicate (i / 8) 0#8 ++ (1#8 <<< (i % 8)) :: List.replicate (n - i / 8 - 1) 0#8 := by
  unfold ones1
  have : List.replicate n 0#8 = List.replicate (i / 8) 0#8 ++ 0#8 :: List.replicate (n - i / 8 - 1) 0#8 := by
    rw [show 0#8 :: List.replicate (n - i / 8 - 1) 0#8 = List.replicate (n - i / 8 - 1 + 1) 0#8 from rfl, List.replicate_append_replicate]
    congr 1; omega
  rw [this, List.set_append_right (h := by simp)]
  simp

theorem reg_ones1 {n i : Nat} (h : i < 8 * n) : reg 0#32 (ones1 n i) = bits (8 * n - i) 1#32 := by
  rw [ones1_eq h]
  unfold reg
  rw [List.foldl_append]
  have e0 : List.foldl (fun r x => bits 8 (r ^^^ BitVec.setWidth 32 x)) 0#32 (List.replicate (i / 8) 0#8) = 0#32 := by
    have := reg_zeros (i / 8) 0#32
    unfold reg at this
    rw [this, bits_of_zero]
  rw [e0, List.foldl_cons]
  have e1 := reg_zeros (n - i / 8 - 1) (bits 8 (0#32 ^^^ (1#8 <<< (i % 8)).setWidth 32))
  unfold reg at e1
  rw [e1, BitVec.zero_xor, bits_one ⟨i % 8, by omega⟩, ← bits_add]
  congr 1
  simp only
  omega

theorem ones1_length (n i : Nat) : (ones1 n i).length = n := by simp [ones1]

/-- A bit is turned. -/
def flip (l : List (BitVec 8)) (i : Nat) : List (BitVec 8) := l.set (i / 8) (l.getD (i / 8) 0#8 ^^^ (1#8 <<< (i % 8)))

theorem flip_length (l : List (BitVec 8)) (i : Nat) : (flip l i).length = l.length := by simp [flip]

theorem flip_eq {l : List (BitVec 8)} {i : Nat} (h : i < 8 * l.length) : flip l i = xors l (ones1 l.length i) := by
  have hp : i / 8 < l.length := by omega
  show l.set (i / 8) (l.getD (i / 8) 0#8 ^^^ (1#8 <<< (i % 8))) = List.zipWith (· ^^^ ·) l ((List.replicate l.length 0#8).set (i / 8) (1#8 <<< (i % 8)))
  apply List.ext_getElem
  · simp
  · intro j h1 h2
    have hj : j < l.length := by simpa using h1
    simp only [List.getElem_set, List.getElem_zipWith, List.getElem_replicate]
    by_cases he : i / 8 = j
    · simp only [he, if_true]
      rw [List.getD_eq_getElem?_getD, List.getElem?_eq_getElem hj]
      rfl
    · simp only [he, if_false]
      simp

theorem reg_flip {l : List (BitVec 8)} {i : Nat} (h : i < 8 * l.length) (r : BitVec 32) : reg r (flip l i) = reg r l ^^^ bits (8 * l.length - i) 1#32 := by
  rw [flip_eq h, ← reg_ones1 h]
  have := reg_xor l (ones1 l.length i) r 0#32 (by rw [ones1_length])
  rw [BitVec.xor_zero] at this
  exact this

theorem xor_ne {a b : BitVec 32} (h : b ≠ 0#32) : a ^^^ b ≠ a := fun he => h (by
  have := congrArg (a ^^^ ·) he
  simpa [← BitVec.xor_assoc] using this)

theorem more_inj {l m : List (BitVec 8)} (h : reg (~~~ 0#32) l ≠ reg (~~~ 0#32) m) : more 0#32 l ≠ more 0#32 m := fun he => h (by
  unfold more at he
  have := congrArg (fun x => ~~~ x) he
  simpa using this)

theorem flip_more {l : List (BitVec 8)} {i : Nat} (h : i < 8 * l.length) : more 0#32 (flip l i) ≠ more 0#32 l := by
  apply more_inj
  rw [reg_flip h]
  exact xor_ne fun h0 => by have := bits_zero h0; simp at this

theorem flip2_more {l : List (BitVec 8)} {i : Nat} (h : i + 1 < 8 * l.length) : more 0#32 (flip (flip l i) (i + 1)) ≠ more 0#32 l := by
  apply more_inj
  rw [reg_flip (by rw [flip_length]; exact h), reg_flip (by omega), flip_length, BitVec.xor_assoc]
  apply xor_ne
  intro h0
  have e : bits (8 * l.length - i) 1#32 = bits (8 * l.length - (i + 1)) 1#32 := by
    have := congrArg (· ^^^ bits (8 * l.length - (i + 1)) 1#32) h0
    simpa [BitVec.xor_assoc] using this
  rw [show 8 * l.length - i = (8 * l.length - (i + 1)) + 1 by omega] at e
  have e2 : bits (8 * l.length - (i + 1)) (bit 1#32) = bits (8 * l.length - (i + 1)) 1#32 := e
  have e3 := bits_inj e2
  have : bit 1#32 ≠ 1#32 := by decide
  exact this e3

/-! ## What was grown is written -/

theorem grown_idx {M : Mem} {x : AV} {n : Nat} {vs : List AV} {b : Nat} (h : Grown 1 M x n vs b) {i : Nat} (hi : i < n) : evIndexAddr tb 22 x (.val (.int .i64 (i : Int))) = some (.ptr b i) := by
  rw [h.1]
  unfold evIndexAddr
  rw [ty22]
  have h0 : decide (0 ≤ (i : Int)) = true := by simp
  simp only [ty5, Int.toNat_natCast, blt_of hi, cond_true, h0, Nat.mul_one, Nat.zero_add]

theorem cells_load {M : Mem} {b i : Nat} {l : List (BitVec 8)} {rw' : Bool} (hg : M.get b = some (.cells (bvs l) rw')) (hi : i < l.length) : evLoad tb 5 (.ptr b i) M = some (bv8 l[i]) := by
  unfold evLoad
  rw [ty5]
  simp only [TI.isAgg, cond_false]
  unfold Mem.cellAt
  rw [hg]
  simp [bvs, hi]

theorem bvs_set (l : List (BitVec 8)) (i : Nat) (v : BitVec 8) : (bvs l).set i (bv8 v) = bvs (l.set i v) := by simp [bvs, List.map_set]

theorem cells_store {M : Mem} {b i : Nat} {l : List (BitVec 8)} (hg : M.get b = some (.cells (bvs l) true)) (hi : i < l.length) (v : BitVec 8) :
    evStore tb 5 (.ptr b i) (bv8 v) M = some (M.put b (.cells (bvs (l.set i v)) true)) := by
  have hc : (bv8 v).cells = [bv8 v] := rfl
  have h1 : ones [bv8 v] = true := rfl
  unfold evStore
  rw [ty5]
  simp only [hc, List.length_singleton, AM.beq_self, cond_true]
  unfold Mem.storeAt
  rw [hg]
  simp only [bvs_length, List.length_singleton, ble_of (show i + 1 ≤ l.length by omega), cond_true, h1, setAt, bvs_set]

theorem shl_one {k : Nat} (hk : k < 8) (xo yo : Operand) (M : Mem) : eBin tb .shl 5 xo yo (.val (.int .u8 1)) (.val (.int .i64 (k : Int))) M = some (bv8 (1#8 <<< k), M) := by
  refine eBin_some ?_
  show (shiftBin .shl .u8 1 (k : Int)).map AV.val = _
  unfold shiftBin
  have h0 : decide ((k : Int) < 0) = false := by simp
  rw [h0, cond_false]
  have : ∀ k : Fin 8, IntKind.u8.wrap (1 * 2 ^ (min ((k.val : Int)).toNat IntKind.u8.bits)) = ((1#8 <<< k.val).toNat : Int) := by decide
  simp only [Option.map_some, bv8]
  rw [this ⟨k, hk⟩]

theorem getD_get {l : List (BitVec 8)} {i : Nat} (h : i < l.length) : l.getD i 0#8 = l[i] := by
  rw [List.getD_eq_getElem?_getD, List.getElem?_eq_getElem h]; rfl

theorem crc_bits (M : Mem) (hw : M.WF) (x : AV) (l : List (BitVec 8)) (at' : Int) (two : Bool) (hx : BytesAt M x l) (hl : l.length ≤ 9223372036854775807) :
    CallA tb.P 5 [x, .val (.int .i64 at'), .val (.bool two)] M fun v _ => v = .val (.bool true) := by
  refine F5_ok ?_
  unfold F5
  simp only [zI_int, zB_bool]
  refine letP_i fun K hK => ?_
  have awake : ∀ b : Bool, b = true → K b := by
    rintro b rfl
    rw [hK]
    simp only [condB_true]
    refine (crc_awake M hw).mono ?_
    rintro y N ⟨rfl, _⟩
    simp only [zB_bool]
  refine bindO_i (eLen_some hx.len) ?_
  simp only [zI_int]
  refine condB_i (fun _ => awake true rfl) (fun hle => ?_)
  have hle : l.length ≤ 300 := by have : ¬ (l.length : Int) > 300 := by simpa using hle
                                  omega
  refine bindO_i (eLen_some hx.len) ?_
  simp only [zI_int]
  by_cases h0 : l.length = 0
  · exact awake _ (by rw [h0]; rfl)
  rw [show ((l.length : Int) == 0) = false from beq_eq_false_iff_ne.2 (by omega), hK]
  clear hK awake
  simp only [condB_false]
  refine bindO_i (eLen_some hx.len) ?_
  have e8 : iMul .i64 8 (l.length : Int) = ((8 * l.length : Nat) : Int) := by
    rw [iMul, wrap_i64' (by omega) (by omega)]; omega
  simp only [zI_int, e8]
  refine (low M at' (8 * l.length) (by omega) (by omega)).mono ?_
  rintro v N ⟨rfl, rfl⟩
  simp only [zI_int]
  have hat := lowOf_lt at' (show 0 < 8 * l.length by omega)
  generalize lowOf at' (8 * l.length) = a at hat ⊢
  obtain ⟨N1, hap, rfl⟩ := append_nil (T := tb) (k := 1) ty22 rfl ty5 rfl hx (by omega) ⟨by simp only; omega, by omega⟩
  refine bindO_i hap ?_
  have hq : ∀ i : Nat, i < 8 * l.length → iQuo .i64 (i : Int) 8 = ((i / 8 : Nat) : Int) := fun i hi => by
    rw [iQuo, Int.tdiv_eq_ediv_of_nonneg (by omega), wrap_i64' (by omega) (by omega)]; omega
  have hr : ∀ i : Nat, Int.tmod (i : Int) 8 = ((i % 8 : Nat) : Int) := fun i => by
    rw [Int.tmod_eq_emod_of_nonneg (by omega)]; omega
  have hg1 : Grown 1 (N.new (.cells (bvs l) true)) (.sl N.next 0 l.length l.length (some 1)) l.length (bvs l) N.next := ⟨rfl, by omega, by simp, by rw [Mem.get_new, if_pos rfl]⟩
  simp only [hq a hat, hr]
  have hp : a / 8 < l.length := by omega
  refine bindO_i (eIA_some (grown_idx hg1 hp)) ?_
  simp only [zP_ptr]
  refine bindO_i (shl_one (by omega) _ _ _) ?_
  simp only [bv8, zI_int]
  refine bindO_i (eLd_some (cells_load hg1.2.2.2 hp)) ?_
  simp only [bv8, zI_int, iXor_u8]
  refine bindO_i (eIA_some (grown_idx hg1 hp)) ?_
  simp only [zP_ptr]
  have hst := cells_store hg1.2.2.2 hp (l[a / 8] ^^^ 1#8 <<< (a % 8))
  have hfl : l.set (a / 8) (l[a / 8] ^^^ 1#8 <<< (a % 8)) = flip l a := by unfold flip; rw [getD_get hp]
  rw [Mem.new_put, hfl] at hst
  refine bindO_i (eSt_some hst) ?_
  refine letP_i fun K hK => ?_
  have fin : ∀ l' : List (BitVec 8), l'.length = l.length → more 0#32 l' ≠ more 0#32 l → K (N.new (.cells (bvs l') true)) := by
    intro l' hl' hne
    rw [hK]
    simp only [letP_eq]
    have hx1 : BytesAt (N.new (.cells (bvs l') true)) x l := SlAt.keep0 hx hw (Keep.new hw _)
    have hg' : Grown 1 (N.new (.cells (bvs l') true)) (.sl N.next 0 l.length l.length (some 1)) l.length (bvs l') N.next := ⟨rfl, by omega, by simp [hl'], by rw [Mem.get_new, if_pos rfl]⟩
    have hx2 : BytesAt (N.new (.cells (bvs l') true)) (.sl N.next 0 l.length l.length (some 1)) l' := by
      unfold BytesAt
      rw [hl']; exact hg'.at
    refine (crc_of _ _ l' hx2 (by omega)).mono ?_
    rintro v P ⟨rfl, rfl⟩
    simp only [zI_int]
    refine (crc_of _ x l hx1 (by omega)).mono ?_
    rintro v P ⟨rfl, rfl⟩
    simp only [zI_int]
    refine condB_i (fun _ => ?_) (fun h => ?_)
    · refine (crc_awake _ (hw.new _)).mono ?_
      rintro v P ⟨rfl, _⟩
      simp only [zB_bool]
    · exfalso
      apply hne
      apply BitVec.eq_of_toNat_eq
      have : ((more 0#32 l').toNat : Int) = (more 0#32 l).toNat := by simpa using h
      omega
  have fin1 : K (N.new (.cells (bvs (flip l a)) true)) := fin _ (flip_length _ _) (flip_more hat)
  refine letP_i fun K2 hK2 => ?_
  have hx1 : BytesAt (N.new (.cells (bvs (flip l a)) true)) x l := SlAt.keep0 hx hw (Keep.new hw _)
  refine condB_i (fun _ => ?_) (fun _ => ?_)
  rotate_left
  · rw [hK2]; exact fin1
  · refine bindO_i (eLen_some hx1.len) ?_
    simp only [zI_int, e8, iInc (show a < 9223372036854775807 by omega), hK2]
    refine condB_i (fun hlt => ?_) (fun _ => fin1)
    have hlt : a + 1 < 8 * l.length := by have : ((a + 1 : Nat) : Int) < ((8 * l.length : Nat) : Int) := by simpa using hlt
                                          omega
    simp only [hq (a + 1) hlt, hr]
    have hp2 : (a + 1) / 8 < l.length := by omega
    have hp2' : (a + 1) / 8 < (flip l a).length := by rw [flip_length]; exact hp2
    have hg2 : Grown 1 (N.new (.cells (bvs (flip l a)) true)) (.sl N.next 0 l.length l.length (some 1)) l.length (bvs (flip l a)) N.next := ⟨rfl, by omega, by simp [flip_length], by rw [Mem.get_new, if_pos rfl]⟩
    refine bindO_i (eIA_some (grown_idx hg2 hp2)) ?_
    simp only [zP_ptr]
    refine bindO_i (shl_one (by omega) _ _ _) ?_
    simp only [bv8, zI_int]
    refine bindO_i (eLd_some (cells_load hg2.2.2.2 hp2')) ?_
    simp only [bv8, zI_int, iXor_u8]
    refine bindO_i (eIA_some (grown_idx hg2 hp2)) ?_
    simp only [zP_ptr]
    have hst2 := cells_store hg2.2.2.2 hp2' ((flip l a)[(a + 1) / 8] ^^^ 1#8 <<< ((a + 1) % 8))
    have hfl2 : (flip l a).set ((a + 1) / 8) ((flip l a)[(a + 1) / 8] ^^^ 1#8 <<< ((a + 1) % 8)) = flip (flip l a) (a + 1) := by
      show _ = (flip l a).set ((a + 1) / 8) ((flip l a).getD ((a + 1) / 8) 0#8 ^^^ (1#8 <<< ((a + 1) % 8)))
      rw [getD_get hp2']
    rw [Mem.new_put, hfl2] at hst2
    refine bindO_i (eSt_some hst2) ?_
    exact fin _ (by rw [flip_length, flip_length]) (flip2_more hlt)

end Go.Proofs.Ytpfifmemkbddjaa
