/- Bits that are turned; CrcBits. -/
import Derived.Test.YtpfifmemkbddjaaD4
set_option linter.unusedVariables false
namespace Go.Proofs.Ytpfifmemkbddjaa
open Go.AM
open Go.ChangeShapes Go.WideShapes Go.RowKit
set_option linter.unusedSimpArgs false

/-! ## Plainly -/

theorem bit_zero {r : BitVec 32} (h : bit r = 0#32) : r = 0#32 := by
  unfold bit at h
  split at h
  · exfalso
    have := congrArg (fun y : BitVec 32 => y.getLsbD 31) h
    simp at this
  · rename_i h1
    apply BitVec.eq_of_getLsbD_eq
    intro i hi
    by_cases h0 : i = 0
    · subst h0
      cases hb : r.getLsbD 0 with
      | false => simp
      | true =>
        exfalso
        apply h1
        apply BitVec.eq_of_getLsbD_eq
        intro j hj
        by_cases hj0 : j = 0
        · subst hj0; simp [hb]
        · rw [BitVec.getLsbD_and]
          have : (1#32).getLsbD j = false := by rw [BitVec.getLsbD_one]; simp [hj0]
          rw [this]; simp
    · have := congrArg (fun y : BitVec 32 => y.getLsbD (i - 1)) h
      simp only [BitVec.getLsbD_ushiftRight] at this
      rw [show 1 + (i - 1) = i by omega] at this
      rw [this]; simp

theorem bits_zero : ∀ {n : Nat} {r : BitVec 32}, bits n r = 0#32 → r = 0#32
  | 0, _, h => h
  | n + 1, _, h => bit_zero (bits_zero (n := n) h)

theorem bits_of_zero : ∀ n, bits n 0#32 = 0#32
  | 0 => rfl
  | n + 1 => by
    have : bit 0#32 = 0#32 := by kernel_rfl
    rw [bits, this, bits_of_zero n]

theorem bits_inj {n : Nat} {r s : BitVec 32} (h : bits n r = bits n s) : r = s := by
  have h1 : bits n (r ^^^ s) = 0#32 := by rw [bits_xor, h, BitVec.xor_self]
  have h2 := bits_zero h1
  have := congrArg (· ^^^ s) h2
  simpa [BitVec.xor_assoc] using this

theorem bits_add : ∀ (m n : Nat) (r : BitVec 32), bits (m + n) r = bits n (bits m r)
  | 0, n, r => by rw [Nat.zero_add]; rfl
  | m + 1, n, r => by rw [show m + 1 + n = (m + n) + 1 by omega]; exact bits_add m n (bit r)

theorem reg_zeros : ∀ (n : Nat) (r : BitVec 32), reg r (List.replicate n 0#8) = bits (8 * n) r
  | 0, _ => rfl
  | n + 1, r => by
    show reg (bits 8 (r ^^^ (0#8).setWidth 32)) (List.replicate n 0#8) = _
    rw [reg_zeros n, show 8 * (n + 1) = 8 + 8 * n by omega, bits_add 8]
    congr 2
    simp

theorem bits_one : ∀ k : Fin 8, bits 8 ((1#8 <<< k.val).setWidth 32) = bits (8 - k.val) 1#32 := by decide

/-- Bytes of which one bit is set. -/
def ones1 (n i : Nat) : List (BitVec 8) := (List.replicate n 0#8).set (i / 8) (1#8 <<< (i % 8))

theorem ones1_eq {n i : Nat} (h : i < 8 * n) : ones1 n i = List.replicate (i / 8) 0#8 ++ (1#8 <<< (i % 8)) :: List.replicate (n - i / 8 - 1) 0#8 := by
  unfold ones1
  have : List.replicate n 0#8 = List.replicate (i / 8) 0#8 ++ 0#8 :: List.replicate (n - i / 8 - 1) 0#8 := by
    rw [show 0#8 :: List.replicate (n - i / 8 - 1) 0#8 = List.replicate (n - i / 8 - 1 + 1) 0#8 from rfl, List.replicate_append_replicate]
    congr 1; omega
  rw [this, List.set_append_right (h := by simp)]
  simp

theorem reg_ones1 {n i : Nat} (h : i < 8 * n) : reg 0#32 (ones1 n i) = bits (8 * n - i) 1#32 := by
  rw [ones1_eq h]
  unfold reg
  rw [List.foldl_append]
  have e0 : List.foldl (fun r x => bits 8 (r ^^^ BitVec.setWidth 32 x)) 0#32 (List.replicate (i / 8) 0#8) = 0#32 := by
    have := reg_zeros (i / 8) 0#32
    unfold reg at this
    rw [this, bits_of_zero]
  rw [e0, List.foldl_cons]
  have e1 := reg_zeros (n - i / 8 - 1) (bits 8 (0#32 ^^^ (1#8 <<< (i % 8)).setWidth 32))
  unfold reg at e1
  rw [e1, BitVec.zero_xor, bits_one ⟨i % 8, by omega⟩, ← bits_add]
  congr 1
  simp only
  omega

theorem ones1_length (n i : Nat) : (ones1 n i).length = n := by simp [ones1]

/-- A bit is turned. -/
def flip (l : List (BitVec 8)) (i : Nat) : List (BitVec 8) := l.set (i / 8) (l.getD (i / 8) 0#8 ^^^ (1#8 <<< (i % 8)))

theorem flip_length (l : List (BitVec 8)) (i : Nat) : (flip l i).length = l.length := by simp [flip]

theorem flip_eq {l : List (BitVec 8)} {i : Nat} (h : i < 8 * l.length) : flip l i = xors l (ones1 l.length i) := by
  have hp : i / 8 < l.length := by omega
  show l.set (i / 8) (l.getD (i / 8) 0#8 ^^^ (1#8 <<< (i % 8))) = List.zipWith (· ^^^ ·) l ((List.replicate l.length 0#8).set (i / 8) (1#8 <<< (i % 8)))
  apply List.ext_getElem
  · simp
  · intro j h1 h2
    have hj : j < l.length := by simpa using h1
    simp only [List.getElem_set, List.getElem_zipWith, List.getElem_replicate]
    by_cases he : i / 8 = j
    · simp only [he, if_true]
      rw [List.getD_eq_getElem?_getD, List.getElem?_eq_getElem hj]
      rfl
    · simp only [he, if_false]
      simp

theorem reg_flip {l : List (BitVec 8)} {i : Nat} (h : i < 8 * l.length) (r : BitVec 32) : reg r (flip l i) = reg r l ^^^ bits (8 * l.length - i) 1#32 := by
  rw [flip_eq h, ← reg_ones1 h]
  have := reg_xor l (ones1 l.length i) r 0#32 (by rw [ones1_length])
  rw [BitVec.xor_zero] at this
  exact this

theorem xor_ne {a b : BitVec 32} (h : b ≠ 0#32) : a ^^^ b ≠ a := fun he => h (by
  have := congrArg (a ^^^ ·) he
  simpa [← BitVec.xor_assoc] using this)

theorem more_inj {l m : List (BitVec 8)} (h : reg (~~~ 0#32) l ≠ reg (~~~ 0#32) m) : more 0#32 l ≠ more 0#32 m := fun he => h (by
  unfold more at he
  have := congrArg (fun x => ~~~ x) he
  simpa using this)

theorem flip_more {l : List (BitVec 8)} {i : Nat} (h : i < 8 * l.length) : more 0#32 (flip l i) ≠ more 0#32 l := by
  apply more_inj
  rw [reg_flip h]
  exact xor_ne fun h0 => by have := bits_zero h0; simp at this

theorem flip2_more {l : List (BitVec 8)} {i : Nat} (h : i + 1 < 8 * l.length) : more 0#32 (flip (flip l i) (i + 1)) ≠ more 0#32 l := by
  apply more_inj
  rw [reg_flip (by rw [flip_length]; exact h), reg_flip (by omega), flip_length, BitVec.xor_assoc]
  apply xor_ne
  intro h0
  have e : bits (8 * l.length - i) 1#32 = bits (8 * l.length - (i + 1)) 1#32 := by
    have := congrArg (· ^^^ bits (8 * l.length - (i + 1)) 1#32) h0
    simpa [BitVec.xor_assoc] using this
  rw [show 8 * l.length - i = (8 * l.length - (i + 1)) + 1 by omega] at e
  have e2 : bits (8 * l.length - (i + 1)) (bit 1#32) = bits (8 * l.length - (i + 1)) 1#32 := e
  have e3 := bits_inj e2
  have : bit 1#32 ≠ 1#32 := by decide
  exact this e3

/-! ## What was grown is written -/

theorem grown_idx {M : Mem} {x : AV} {n : Nat} {vs : List AV} {b : Nat} (h : Grown 1 M x n vs b) {i : Nat} (hi : i < n) : evIndexAddr tb 22 x (.val (.int .i64 (i : Int))) = some (.ptr b i) := by
  rw [h.1]
  unfold evIndexAddr
  rw [ty22]
  have h0 : decide (0 ≤ (i : Int)) = true := by simp
  simp only [ty5, Int.toNat_natCast, blt_of hi, cond_true, h0, Nat.mul_one, Nat.zero_add]

theorem cells_load {M : Mem} {b i : Nat} {l : List (BitVec 8)} {rw' : Bool} (hg : M.get b = some (.cells (bvs l) rw')) (hi : i < l.length) : evLoad tb 5 (.ptr b i) M = some (bv8 l[i]) := by
  unfold evLoad
  rw [ty5]
  simp only [TI.isAgg, cond_false]
  unfold Mem.cellAt
  rw [hg]
  simp [bvs, hi]

theorem bvs_set (l : List (BitVec 8)) (i : Nat) (v : BitVec 8) : (bvs l).set i (bv8 v) = bvs (l.set i v) := by simp [bvs, List.map_set]

theorem cells_store {M : Mem} {b i : Nat} {l : List (BitVec 8)} (hg : M.get b = some (.cells (bvs l) true)) (hi : i < l.length) (v : BitVec 8) :
    evStore tb 5 (.ptr b i) (bv8 v) M = some (M.put b (.cells (bvs (l.set i v)) true)) := by
  have hc : (bv8 v).cells = [bv8 v] := rfl
  have h1 : ones [bv8 v] = true := rfl
  unfold evStore
  rw [ty5]
  simp only [hc, List.length_singleton, AM.beq_self, cond_true]
  unfold Mem.storeAt
  rw [hg]
  simp only [bvs_length, List.length_singleton, ble_of (show i + 1 ≤ l.length by omega), cond_true, h1, setAt, bvs_set]

theorem shl_one {k : Nat} (hk : k < 8) (xo yo : Operand) (M : Mem) : eBin tb .shl 5 xo yo (.val (.int .u8 1)) (.val (.int .i64 (k : Int))) M = some (bv8 (1#8 <<< k), M) := by
  refine eBin_some ?_
  show (shiftBin .shl .u8 1 (k : Int)).map AV.val = _
  unfold shiftBin
  have h0 : decide ((k : Int) < 0) = false := by simp
  rw [h0, cond_false]
  have : ∀ k : Fin 8, IntKind.u8.wrap (1 * 2 ^ (min ((k.val : Int)).toNat IntKind.u8.bits)) = ((1#8 <<< k.val).toNat : Int) := by decide
  simp only [Option.map_some, bv8]
  rw [this ⟨k, hk⟩]

theorem getD_get {l : List (BitVec 8)} {i : Nat} (h : i < l.length) : l.getD i 0#8 = l[i] := by
  rw [List.getD_eq_getElem?_getD, List.getElem?_eq_getElem h]; rfl

theorem crc_bits (M : Mem) (hw : M.WF) (x : AV) (l : List (BitVec 8)) (at' : Int) (two : Bool) (hx : BytesAt M x l) (hl : l.length ≤ 9223372036854775807) :
    CallA tb.P 5 [x, .val (.int .i64 at'), .val (.bool two)] M fun v _ => v = .val (.bool true) := by
  refine F5_ok ?_
  unfold F5
  simp only [zI_int, zB_bool]
  refine letP_i fun K hK => ?_
  have awake : ∀ b : Bool, b = true → K b := by
    rintro b rfl
    rw [hK]
    simp only [condB_true]
    refine (crc_awake M hw).mono ?_
    rintro y N ⟨rfl, _⟩
    simp only [zB_bool]
  refine bindO_i (eLen_some hx.len) ?_
  simp only [zI_int]
  refine condB_i (fun _ => awake true rfl) (fun hle => ?_)
  have hle : l.length ≤ 300 := by have : ¬ (l.length : Int) > 300 := by simpa using hle
                                  omega
  refine bindO_i (eLen_some hx.len) ?_
  simp only [zI_int]
  by_cases h0 : l.length = 0
  · exact awake _ (by rw [h0]; rfl)
  rw [show ((l.length : Int) == 0) = false from beq_eq_false_iff_ne.2 (by omega), hK]
  clear hK awake
  simp only [condB_false]
  refine bindO_i (eLen_some hx.len) ?_
  have e8 : iMul .i64 8 (l.length : Int) = ((8 * l.length : Nat) : Int) := by
    rw [iMul, wrap_i64' (by omega) (by omega)]; omega
  simp only [zI_int, e8]
  refine (low M at' (8 * l.length) (by omega) (by omega)).mono ?_
  rintro v N ⟨rfl, rfl⟩
  simp only [zI_int]
  have hat := lowOf_lt at' (show 0 < 8 * l.length by omega)
  generalize lowOf at' (8 * l.length) = a at hat ⊢
  obtain ⟨N1, hap, rfl⟩ := append_nil (T := tb) (k := 1) ty22 rfl ty5 rfl hx (by omega) ⟨by simp only; omega, by omega⟩
  refine bindO_i hap ?_
  have hq : ∀ i : Nat, i < 8 * l.length → iQuo .i64 (i : Int) 8 = ((i / 8 : Nat) : Int) := fun i hi => by
    rw [iQuo, Int.tdiv_eq_ediv_of_nonneg (by omega), wrap_i64' (by omega) (by omega)]; omega
  have hr : ∀ i : Nat, Int.tmod (i : Int) 8 = ((i % 8 : Nat) : Int) := fun i => by
    rw [Int.tmod_eq_emod_of_nonneg (by omega)]; omega
  have hg1 : Grown 1 (N.new (.cells (bvs l) true)) (.sl N.next 0 l.length l.length (some 1)) l.length (bvs l) N.next := ⟨rfl, by omega, by simp, by rw [Mem.get_new, if_pos rfl]⟩
  simp only [hq a hat, hr]
  have hp : a / 8 < l.length := by omega
  refine bindO_i (eIA_some (grown_idx hg1 hp)) ?_
  simp only [zP_ptr]
  refine bindO_i (shl_one (by omega) _ _ _) ?_
  simp only [bv8, zI_int]
  refine bindO_i (eLd_some (cells_load hg1.2.2.2 hp)) ?_
  simp only [bv8, zI_int, iXor_u8]
  refine bindO_i (eIA_some (grown_idx hg1 hp)) ?_
  simp only [zP_ptr]
  have hst := cells_store hg1.2.2.2 hp (l[a / 8] ^^^ 1#8 <<< (a % 8))
  have hfl : l.set (a / 8) (l[a / 8] ^^^ 1#8 <<< (a % 8)) = flip l a := by unfold flip; rw [getD_get hp]
  rw [Mem.new_put, hfl] at hst
  refine bindO_i (eSt_some hst) ?_
  refine letP_i fun K hK => ?_
  have fin : ∀ l' : List (BitVec 8), l'.length = l.length → more 0#32 l' ≠ more 0#32 l → K (N.new (.cells (bvs l') true)) := by
    intro l' hl' hne
    rw [hK]
    simp only [letP_eq]
    have hx1 : BytesAt (N.new (.cells (bvs l') true)) x l := SlAt.keep0 hx hw (Keep.new hw _)
    have hg' : Grown 1 (N.new (.cells (bvs l') true)) (.sl N.next 0 l.length l.length (some 1)) l.length (bvs l') N.next := ⟨rfl, by omega, by simp [hl'], by rw [Mem.get_new, if_pos rfl]⟩
    have hx2 : BytesAt (N.new (.cells (bvs l') true)) (.sl N.next 0 l.length l.length (some 1)) l' := by
      unfold BytesAt
      rw [hl']; exact hg'.at
    refine (crc_of _ _ l' hx2 (by omega)).mono ?_
    rintro v P ⟨rfl, rfl⟩
    simp only [zI_int]
    refine (crc_of _ x l hx1 (by omega)).mono ?_
    rintro v P ⟨rfl, rfl⟩
    simp only [zI_int]
    refine condB_i (fun _ => ?_) (fun h => ?_)
    · refine (crc_awake _ (hw.new _)).mono ?_
      rintro v P ⟨rfl, _⟩
      simp only [zB_bool]
    · exfalso
      apply hne
      apply BitVec.eq_of_toNat_eq
      have : ((more 0#32 l').toNat : Int) = (more 0#32 l).toNat := by simpa using h
      omega
  have fin1 : K (N.new (.cells (bvs (flip l a)) true)) := fin _ (flip_length _ _) (flip_more hat)
  refine letP_i fun K2 hK2 => ?_
  have hx1 : BytesAt (N.new (.cells (bvs (flip l a)) true)) x l := SlAt.keep0 hx hw (Keep.new hw _)
  refine condB_i (fun _ => ?_) (fun _ => ?_)
  rotate_left
  · rw [hK2]; exact fin1
  · refine bindO_i (eLen_some hx1.len) ?_
    simp only [zI_int, e8, iInc (show a < 9223372036854775807 by omega), hK2]
    refine condB_i (fun hlt => ?_) (fun _ => fin1)
    have hlt : a + 1 < 8 * l.length := by have : ((a + 1 : Nat) : Int) < ((8 * l.length : Nat) : Int) := by simpa using hlt
                                          omega
    simp only [hq (a + 1) hlt, hr]
    have hp2 : (a + 1) / 8 < l.length := by omega
    have hp2' : (a + 1) / 8 < (flip l a).length := by rw [flip_length]; exact hp2
    have hg2 : Grown 1 (N.new (.cells (bvs (flip l a)) true)) (.sl N.next 0 l.length l.length (some 1)) l.length (bvs (flip l a)) N.next := ⟨rfl, by omega, by simp [flip_length], by rw [Mem.get_new, if_pos rfl]⟩
    refine bindO_i (eIA_some (grown_idx hg2 hp2)) ?_
    simp only [zP_ptr]
    refine bindO_i (shl_one (by omega) _ _ _) ?_
    simp only [bv8, zI_int]
    refine bindO_i (eLd_some (cells_load hg2.2.2.2 hp2')) ?_
    simp only [bv8, zI_int, iXor_u8]
    refine bindO_i (eIA_some (grown_idx hg2 hp2)) ?_
    simp only [zP_ptr]
    have hst2 := cells_store hg2.2.2.2 hp2' ((flip l a)[(a + 1) / 8] ^^^ 1#8 <<< ((a + 1) % 8))
    have hfl2 : (flip l a).set ((a + 1) / 8) ((flip l a)[(a + 1) / 8] ^^^ 1#8 <<< ((a + 1) % 8)) = flip (flip l a) (a + 1) := by
      show _ = (flip l a).set ((a + 1) / 8) ((flip l a).getD ((a + 1) / 8) 0#8 ^^^ (1#8 <<< ((a + 1) % 8)))
      rw [getD_get hp2']
    rw [Mem.new_put, hfl2] at hst2
    refine bindO_i (eSt_some hst2) ?_
    exact fin _ (by rw [flip_length, flip_length]) (flip2_more hlt)

end Go.Proofs.Ytpfifmemkbddjaa
