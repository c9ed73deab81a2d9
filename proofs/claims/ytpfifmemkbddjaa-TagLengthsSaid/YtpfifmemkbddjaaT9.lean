import Derived.Test.YtpfifmemkbddjaaT5
set_option linter.unusedSimpArgs false
set_option linter.unusedVariables false
/- Raw pages, plainly: what was laid is read again; what is read again was laid. -/
namespace Go.Proofs.Ytpfifmemkbddjaa
open Go.AM

theorem byteOf_nat (m s : Nat) : (byteOf (m : Int) s).toNat = m / 256 ^ s % 256 := by
  unfold byteOf
  have e : (2 : Int) ^ (8 * s) = ((256 ^ s : Nat) : Int) := by
    rw [Int.pow_mul, show (2 : Int) ^ 8 = ((256 : Nat) : Int) from rfl, ← Int.natCast_pow]
  rw [e, Int.fdiv_eq_ediv_of_nonneg _ (Int.natCast_nonneg _), ← Int.natCast_ediv, BitVec.toNat_ofInt]
  have e2 : ((2 ^ 8 : Nat) : Int) = ((256 : Nat) : Int) := rfl
  rw [e2, ← Int.natCast_emod, Int.toNat_natCast]

def valFrom (a : Nat) (l : List (BitVec 8)) : Nat := l.foldl (fun n b => n * 256 + b.toNat) a

theorem valFrom_be (m : Nat) : ∀ (s a : Nat), valFrom a (be (m : Int) s) = a * 256 ^ s + m % 256 ^ s
  | 0, a => by simp [valFrom, be, Nat.mod_one]
  | s + 1, a => by
    show valFrom (a * 256 + (byteOf (m : Int) s).toNat) (be (m : Int) s) = _
    rw [valFrom_be m s, byteOf_nat, Nat.add_mul]
    have h1 : 256 ^ (s + 1) = 256 ^ s * 256 := Nat.pow_succ 256 s
    have h2 : m % (256 ^ s * 256) = m % 256 ^ s + 256 ^ s * (m / 256 ^ s % 256) := Nat.mod_mul
    rw [h1, h2, Nat.mul_assoc, Nat.mul_comm 256, Nat.mul_comm (m / 256 ^ s % 256)]
    omega

theorem val_be {m s : Nat} (h : m < 256 ^ s) : val (be (m : Int) s) = m := by
  have := valFrom_be m s 0
  rw [Nat.zero_mul, Nat.zero_add, Nat.mod_eq_of_lt h] at this
  exact this

theorem valFrom_split : ∀ (l : List (BitVec 8)) (a : Nat), valFrom a l = a * 256 ^ l.length + val l
  | [], a => by simp [valFrom, val]
  | b :: l, a => by
    show valFrom (a * 256 + b.toNat) l = a * 256 ^ (l.length + 1) + valFrom (0 * 256 + b.toNat) l
    rw [valFrom_split l, valFrom_split l (0 * 256 + b.toNat), Nat.pow_succ 256, Nat.add_mul, Nat.add_mul, Nat.mul_assoc, Nat.mul_comm 256 (256 ^ l.length)]
    omega

theorem val_bound : ∀ l : List (BitVec 8), val l < 256 ^ l.length := fun l => by
  have := val_lt l l.length (Nat.le_refl _)
  rwa [List.take_length] at this

theorem val_inj : ∀ {l m : List (BitVec 8)}, l.length = m.length → val l = val m → l = m
  | [], [], _, _ => rfl
  | [], _ :: _, h, _ => by simp at h
  | _ :: _, [], h, _ => by simp at h
  | a :: l, b :: m, h, hv => by
    have hl : l.length = m.length := by simpa using h
    have e1 : val (a :: l) = a.toNat * 256 ^ l.length + val l := by
      show valFrom (0 * 256 + a.toNat) l = _
      rw [valFrom_split]; simp
    have e2 : val (b :: m) = b.toNat * 256 ^ l.length + val m := by
      show valFrom (0 * 256 + b.toNat) m = _
      rw [valFrom_split, ← hl]; simp
    rw [e1, e2] at hv
    have h1 := val_bound l
    have h2 := val_bound m
    rw [← hl] at h2
    generalize 256 ^ l.length = q at hv h1 h2
    have hab : a.toNat = b.toNat := by
      rcases Nat.lt_trichotomy a.toNat b.toNat with h3 | h3 | h3
      · have : (a.toNat + 1) * q ≤ b.toNat * q := Nat.mul_le_mul_right q h3
        rw [Nat.add_mul] at this; omega
      · exact h3
      · have : (b.toNat + 1) * q ≤ a.toNat * q := Nat.mul_le_mul_right q h3
        rw [Nat.add_mul] at this; omega
    have hvv : val l = val m := by rw [hab] at hv; omega
    rw [BitVec.eq_of_toNat_eq hab, val_inj hl hvv]

theorem be_val (l : List (BitVec 8)) : be (val l : Int) l.length = l :=
  val_inj (by simp) (val_be (val_bound l))

/-! ## The sixteen bytes behind -/

def tail16 (k p s e : Int) (c : BitVec 32) : List (BitVec 8) := [74#8, BitVec.ofInt 8 k] ++ be p 2 ++ be s 4 ++ be e 3 ++ be (c.toNat : Int) 4 ++ [0#8]
theorem laid_eq (d : List (BitVec 8)) (k p s e : Int) : laid d k p s e = d ++ tail16 k p s e (more 0#32 (body d k p s e)) := by
  simp only [laid, body, tail16, List.append_assoc]
@[simp] theorem tail16_length (k p s e : Int) (c : BitVec 32) : (tail16 k p s e c).length = 16 := by simp [tail16]

theorem laid_drop (d : List (BitVec 8)) (k p s e : Int) : (laid d k p s e).drop ((laid d k p s e).length - 16) = tail16 k p s e (more 0#32 (body d k p s e)) := by
  rw [laid_length, Nat.add_sub_cancel, laid_eq, List.drop_left]
theorem laid_take (d : List (BitVec 8)) (k p s e : Int) : (laid d k p s e).take ((laid d k p s e).length - 16) = d := by
  rw [laid_length, Nat.add_sub_cancel, laid_eq, List.take_left]
theorem laid_body (d : List (BitVec 8)) (k p s e : Int) : (laid d k p s e).take ((laid d k p s e).length - 16 + 11) = body d k p s e := by
  rw [laid_length, Nat.add_sub_cancel]
  unfold laid
  rw [List.append_assoc, List.take_left' (by simp)]

section
variable (k p s e : Int) (c : BitVec 32)
theorem tail16_0 : (tail16 k p s e c).getD 0 0#8 = 74#8 := rfl
theorem tail16_1 : (tail16 k p s e c).getD 1 0#8 = BitVec.ofInt 8 k := rfl
theorem tail16_p : ((tail16 k p s e c).take 4).drop 2 = be p 2 := rfl
theorem tail16_s : ((tail16 k p s e c).take 8).drop 4 = be s 4 := rfl
theorem tail16_e : ((tail16 k p s e c).take 11).drop 8 = be e 3 := rfl
theorem tail16_c : ((tail16 k p s e c).take 15).drop 11 = be (c.toNat : Int) 4 := rfl
theorem tail16_15 : (tail16 k p s e c).getD 15 0#8 = 0#8 := rfl
end

theorem val_be_int {n : Int} {s : Nat} (h0 : 0 ≤ n) (h : n < ((256 ^ s : Nat) : Int)) : (val (be n s) : Int) = n := by
  obtain ⟨m, rfl⟩ : ∃ m : Nat, n = (m : Int) := ⟨n.toNat, by omega⟩
  rw [val_be (Int.ofNat_lt.1 h)]

theorem val_be_crc (c : BitVec 32) : val (be (c.toNat : Int) 4) = c.toNat := val_be (by
  have := c.isLt
  have e : (256 : Nat) ^ 4 = 2 ^ 32 := by decide
  rw [e]; exact this)

/-- What was laid: its fields. -/
theorem tail16_fields {k p s e : Int} {c : BitVec 32} (h : mayT k p s e = true) : fK (tail16 k p s e c) = k ∧ fP (tail16 k p s e c) = p ∧ fS (tail16 k p s e c) = s ∧ fE (tail16 k p s e c) = e := by
  unfold mayT at h
  simp only [decide_eq_true_eq] at h
  obtain ⟨h1, h2, h3, h4, h5, h6, h7, h8, h9⟩ := h
  have e2 : ((256 ^ 2 : Nat) : Int) = 65536 := by decide
  have e4 : ((256 ^ 4 : Nat) : Int) = 4294967296 := by decide
  have e3 : ((256 ^ 3 : Nat) : Int) = 16777216 := by decide
  unfold fK fP fS fE
  rw [tail16_1, tail16_p, tail16_s, tail16_e, val_be_int h3 (by omega), val_be_int h6 (by omega), val_be_int h8 (by omega)]
  refine ⟨?_, rfl, rfl, rfl⟩
  rw [← wrap_ofInt, wrap_u8]
  omega

theorem laid_valid {d : List (BitVec 8)} {k p s e : Int} (h : okL d k p s e = true) : valid (laid d k p s e) = true := by
  unfold okL at h
  rw [Bool.and_eq_true] at h
  obtain ⟨f1, f2, f3, f4⟩ := tail16_fields (c := more 0#32 (body d k p s e)) h.2
  unfold valid
  simp only
  rw [laid_drop, laid_body, f1, f2, f3, f4, h.2, tail16_0, tail16_15, tail16_c, val_be_crc]
  simp

theorem allFF_false {l : List (BitVec 8)} {i : Nat} (hi : i < l.length) (h : l.getD i 0#8 ≠ 255#8) : allFF l = false := by
  unfold allFF
  rw [List.all_eq_false]
  refine ⟨l[i], List.getElem_mem _, ?_⟩
  rw [getD_get hi] at h
  simpa using h

theorem getD_drop (l : List (BitVec 8)) (n i : Nat) : (l.drop n).getD i 0#8 = l.getD (n + i) 0#8 := by
  rw [List.getD_eq_getElem?_getD, List.getD_eq_getElem?_getD, List.getElem?_drop]

theorem valid_noFF {l : List (BitVec 8)} (hl : 16 ≤ l.length) (h : valid l = true) : allFF l = false := by
  unfold valid at h
  simp only [Bool.and_eq_true, decide_eq_true_eq] at h
  have h0 := h.1.1
  rw [getD_drop] at h0
  refine allFF_false (i := l.length - 16 + 0) (by omega) ?_
  rw [h0]; decide

theorem laid_state {d : List (BitVec 8)} {k p s e : Int} (h : okL d k p s e = true) : state (laid d k p s e) = 1 := by
  have hv := laid_valid h
  have hf := valid_noFF (by simp) hv
  unfold okL at h
  rw [Bool.and_eq_true, decide_eq_true_eq] at h
  have hl : lenOk (laid d k p s e) = true := by
    unfold lenOk
    simp only [laid_length, decide_eq_true_eq]
    omega
  unfold state
  rw [hl, hf, hv]; rfl

/-- Pages that are alike hold the same. -/
theorem laid_inj {d d' : List (BitVec 8)} {k p s e k' p' s' e' : Int} (h : okL d k p s e = true) (h' : okL d' k' p' s' e' = true) (he : laid d k p s e = laid d' k' p' s' e') :
    d = d' ∧ k = k' ∧ p = p' ∧ s = s' ∧ e = e' := by
  have h1 := laid_take d k p s e
  have h2 := laid_drop d k p s e
  rw [he, laid_take] at h1
  rw [he, laid_drop] at h2
  unfold okL at h h'
  rw [Bool.and_eq_true] at h h'
  obtain ⟨f1, f2, f3, f4⟩ := tail16_fields (c := more 0#32 (body d k p s e)) h.2
  obtain ⟨g1, g2, g3, g4⟩ := tail16_fields (c := more 0#32 (body d' k' p' s' e')) h'.2
  rw [← h2] at f1 f2 f3 f4
  exact ⟨h1.symm, by omega, by omega, by omega, by omega⟩

/-- What is read as a page was laid so. -/
theorem valid_laid {l : List (BitVec 8)} (hl : 16 ≤ l.length) (h : valid l = true) :
    laid (l.take (l.length - 16)) (fK (l.drop (l.length - 16))) (fP (l.drop (l.length - 16))) (fS (l.drop (l.length - 16))) (fE (l.drop (l.length - 16))) = l := by
  obtain ⟨n, hn⟩ : ∃ n, l.length = n + 16 := ⟨l.length - 16, by omega⟩
  have hn16 : l.length - 16 = n := by omega
  unfold valid at h
  simp only [Bool.and_eq_true, decide_eq_true_eq] at h
  rw [hn16] at h ⊢
  generalize hr : l.drop n = r at h ⊢
  have hrl : r.length = 16 := by rw [← hr]; simp; omega
  obtain ⟨⟨h0, h15, hc⟩, _⟩ := h
  have hpl : l = l.take n ++ r := by rw [← hr, List.take_append_drop]
  -- the sixteen bytes, one by one
  have hsplit : r = [r.getD 0 0#8, r.getD 1 0#8] ++ ((r.take 4).drop 2) ++ ((r.take 8).drop 4) ++ ((r.take 11).drop 8) ++ ((r.take 15).drop 11) ++ [r.getD 15 0#8] := by
    match r, hrl with
    | [a0, a1, a2, a3, a4, a5, a6, a7, a8, a9, a10, a11, a12, a13, a14, a15], _ => rfl
  have eK : BitVec.ofInt 8 (fK r) = r.getD 1 0#8 := by
    unfold fK
    rw [BitVec.ofInt_natCast, BitVec.ofNat_toNat]; simp
  have b2 : be (fP r) 2 = (r.take 4).drop 2 := by
    have := be_val ((r.take 4).drop 2)
    rw [show ((r.take 4).drop 2).length = 2 by simp; omega] at this
    exact this
  have b4 : be (fS r) 4 = (r.take 8).drop 4 := by
    have := be_val ((r.take 8).drop 4)
    rw [show ((r.take 8).drop 4).length = 4 by simp; omega] at this
    exact this
  have b3 : be (fE r) 3 = (r.take 11).drop 8 := by
    have := be_val ((r.take 11).drop 8)
    rw [show ((r.take 11).drop 8).length = 3 by simp; omega] at this
    exact this
  have bc : be ((more 0#32 (l.take (n + 11))).toNat : Int) 4 = (r.take 15).drop 11 := by
    have := be_val ((r.take 15).drop 11)
    rw [show ((r.take 15).drop 11).length = 4 by simp; omega, hc] at this
    exact this
  have hbody : body (l.take n) (fK r) (fP r) (fS r) (fE r) = l.take (n + 11) := by
    unfold body
    rw [eK, b2, b4, b3, ← h0]
    have e1 : l.take (n + 11) = l.take n ++ r.take 11 := by
      rw [List.take_add, hr]
    rw [e1]
    have : r.take 11 = [r.getD 0 0#8, r.getD 1 0#8] ++ ((r.take 4).drop 2) ++ ((r.take 8).drop 4) ++ ((r.take 11).drop 8) := by
      match r, hrl with
      | [a0, a1, a2, a3, a4, a5, a6, a7, a8, a9, a10, a11, a12, a13, a14, a15], _ => rfl
    rw [List.append_assoc, List.append_assoc, List.append_assoc]
    refine congrArg (l.take n ++ ·) ?_
    refine Eq.trans ?_ this.symm
    simp only [List.append_assoc]
  have := laid_eq (l.take n) (fK r) (fP r) (fS r) (fE r)
  rw [this, hbody]
  unfold tail16
  rw [eK, b2, b4, b3, bc, ← h0]
  conv => rhs; rw [hpl, hsplit]
  rw [h15]

theorem okL_of_valid {l : List (BitVec 8)} (hl : lenOk l = true) (h : valid l = true) : okL (l.take (l.length - 16)) (fK (l.drop (l.length - 16))) (fP (l.drop (l.length - 16))) (fS (l.drop (l.length - 16))) (fE (l.drop (l.length - 16))) = true := by
  unfold lenOk at hl
  simp only [decide_eq_true_eq] at hl
  unfold valid at h
  simp only [Bool.and_eq_true, decide_eq_true_eq] at h
  unfold okL
  rw [Bool.and_eq_true, decide_eq_true_eq, List.length_take]
  exact ⟨by omega, h.2⟩

theorem valid_iff {l : List (BitVec 8)} (hl : lenOk l = true) : valid l = (okL (l.take (l.length - 16)) (fK (l.drop (l.length - 16))) (fP (l.drop (l.length - 16))) (fS (l.drop (l.length - 16))) (fE (l.drop (l.length - 16))) &&
    decide (laid (l.take (l.length - 16)) (fK (l.drop (l.length - 16))) (fP (l.drop (l.length - 16))) (fS (l.drop (l.length - 16))) (fE (l.drop (l.length - 16))) = l)) := by
  have hlen : 16 ≤ l.length := by
    unfold lenOk at hl
    simp only [decide_eq_true_eq] at hl
    omega
  rw [Bool.eq_iff_iff, Bool.and_eq_true, decide_eq_true_eq]
  constructor
  · intro h; exact ⟨okL_of_valid hl h, valid_laid hlen h⟩
  · rintro ⟨h1, h2⟩
    have := laid_valid h1
    rwa [h2] at this

end Go.Proofs.Ytpfifmemkbddjaa

/- The document's way to read a raw page. -/
namespace Go.Proofs.Ytpfifmemkbddjaa
open Go.AM

theorem ty9 : tb.ty.get 9 = some ⟨.str, 1, 16, [.string ⟨#[]⟩], none⟩ := by kernel_rfl

def u8sOf (l : List (BitVec 8)) : List UInt8 := l.map fun b => UInt8.ofNat b.toNat

theorem toBytes_bvs : ∀ l : List (BitVec 8), toBytes (bvs l) = some (u8sOf l)
  | [] => rfl
  | b :: l => by
    show (toBytes (bvs l)).map (UInt8.ofNat ((b.toNat : Int)).toNat :: ·) = _
    rw [toBytes_bvs l]
    rfl

theorem u8sOf_inj : ∀ {l m : List (BitVec 8)}, u8sOf l = u8sOf m → l = m
  | [], [], _ => rfl
  | [], _ :: _, h => by simp [u8sOf] at h
  | _ :: _, [], h => by simp [u8sOf] at h
  | a :: l, b :: m, h => by
    simp only [u8sOf, List.map_cons, List.cons.injEq] at h
    have e : a.toNat = b.toNat := by
      have := congrArg UInt8.toNat h.1
      have ha := a.isLt
      have hb := b.isLt
      rw [UInt8.toNat_ofNat', UInt8.toNat_ofNat', Nat.mod_eq_of_lt (by simpa using ha), Nat.mod_eq_of_lt (by simpa using hb)] at this
      exact this
    rw [BitVec.eq_of_toNat_eq e, u8sOf_inj (l := l) (m := m) h.2]

theorem conv_str {M : Mem} {x : AV} {l : List (BitVec 8)} (hx : BytesAt M x l) : evConv tb 22 9 x M = some (.val (.string ⟨⟨u8sOf l⟩⟩), M) := by
  unfold evConv
  rw [ty22, ty9]
  rcases hx.2 with ⟨rfl, h0⟩ | ⟨b, o, c, ex, rfl, h1, h2⟩
  · have : l = [] := List.eq_nil_of_length_eq_zero h0
    subst this
    simp only [ty5]
    rfl
  · by_cases hn : l.length = 0
    · have : l = [] := List.eq_nil_of_length_eq_zero hn
      subst this
      simp only [ty5]
      rfl
    · rcases h2 with h2 | ⟨cs, rw', g1, g2, g3⟩
      · exact absurd h2 hn
      · simp only [ty5, beq_ne hn, cond_false]
        have hc : M.cellsAt b o l.length = some (bvs l) := by
          unfold Mem.cellsAt
          rw [g1]
          simp only
          rw [Nat.mul_one] at g2 g3
          rw [ble_of g2, cond_true, g3]
        rw [hc]
        simp only [toBytes_bvs, Option.map_some]

theorem eq_str (xo yo : Operand) (l m : List (BitVec 8)) (M : Mem) : eBin tb .eql 9 xo yo (.val (.string ⟨⟨u8sOf l⟩⟩)) (.val (.string ⟨⟨u8sOf m⟩⟩)) M = some (.val (.bool (decide (l = m))), M) := by
  refine eBin_some ?_
  show (strBin .eql ⟨⟨u8sOf l⟩⟩ ⟨⟨u8sOf m⟩⟩).map AV.val = _
  simp only [strBin, Option.map_some, beqBytes_eq]
  congr 3
  rw [Bool.eq_iff_iff, beq_iff_eq, decide_eq_true_eq]
  exact ⟨u8sOf_inj, fun h => by rw [h]⟩

theorem t_refread (M : Mem) (hw : M.WF) (x : AV) (l : List (BitVec 8)) (hx : BytesAt M x l) (hl : l.length ≤ 1000000) : CallA tb.P 29 [x] M (ReadPost M l) := by
  refine F29_ok ?_
  unfold F29
  refine letP_i fun M1 hM1 => ?_
  have hM1' : M1 = M.new (.cells [i64 0, i64 0, i64 0, i64 0] true) := hM1
  clear hM1
  have hw1 : M1.WF := by rw [hM1']; exact hw.new _
  have hk1 : Keep M M1 [] := by rw [hM1']; exact Keep.new hw _
  have hg1 : M1.get M.next = some (.cells [i64 0, i64 0, i64 0, i64 0] true) := by rw [hM1', Mem.get_new, if_pos rfl]
  have hn1 : M.next < M1.next := hw1 _ _ hg1
  clear hM1'
  have hx1 : BytesAt M1 x l := SlAt.keep0 hx hw hk1
  refine bindO_i (eLen_some hx1.len) ?_
  have e16 : iSub .i64 (l.length : Int) 16 = (l.length : Int) - 16 := by rw [iSub, wrap_i64' (by omega) (by omega)]
  simp only [zI_int, e16]
  refine letP_i fun K5 hK5 => ?_
  have badl : lenOk l = false → K5 true := fun hno => by
    rw [hK5]
    simp only [condB_true]
    exact read_none 2 (by unfold state; rw [hno]; simp) (by omega) hg1 hw1 hk1
  refine condB_i (fun h => badl (by unfold lenOk; simp only [decide_eq_true_eq, decide_eq_false_iff_not] at h ⊢; omega)) (fun h1 => ?_)
  by_cases h2 : (l.length : Int) - 16 > 64
  · rw [show decide ((l.length : Int) - 16 > 64) = true by simpa using h2]
    exact badl (by unfold lenOk; simp only [decide_eq_false_iff_not]; omega)
  rw [show decide ((l.length : Int) - 16 > 64) = false by simpa using h2, hK5]
  clear hK5 badl
  simp only [condB_false]
  have hlen : 40 ≤ l.length ∧ l.length ≤ 80 := by
    simp only [decide_eq_false_iff_not] at h1
    omega
  have hlok : lenOk l = true := by unfold lenOk; simpa using hlen
  obtain ⟨n, hn⟩ : ∃ n, l.length = n + 16 := ⟨l.length - 16, by omega⟩
  have en : (l.length : Int) - 16 = (n : Int) := by omega
  have hn16 : l.length - 16 = n := by omega
  rw [en]
  obtain ⟨y14, s14, b14⟩ := hx1.slice (lo := some (.val (.int .i64 (n : Int)))) (hi := none) (a := n) (r := l.length) (.inr rfl) (.inl ⟨rfl, rfl⟩) (by omega) (Nat.le_refl _)
  rw [drop_take] at b14
  refine bindO_i (eSl_some s14) ?_
  generalize hr : l.drop n = r at b14
  have hrl : r.length = 16 := by rw [← hr]; simp; omega
  refine letP_i fun M3 hM3 => ?_
  have hget3 : ∀ c, M3.get c = M1.get c := fun c => by rw [hM3]; rfl
  have hw3 : M3.WF := by rw [hM3]; intro b q hb; have := hw1 b q hb; show b < M1.next + 1; omega
  have hn3 : M3.next = M1.next + 1 := by rw [hM3]
  have b3 : BytesAt M3 y14 r := SlAt.rows b14 (by rw [hM3])
  have hx3 : BytesAt M3 x l := SlAt.rows hx1 (by rw [hM3])
  have hg3 : M3.get M.next = some (.cells [i64 0, i64 0, i64 0, i64 0] true) := by rw [hget3]; exact hg1
  have hk13 : ∀ c, c < M.next → M3.get c = M.get c := fun c hc => by rw [hget3]; exact hk1.old c hc (by simp)
  clear hM3
  obtain ⟨p1, o1, ia1, in1, ld1, ld1'⟩ := b3.ld 1 (by omega)
  refine bindO_i (eIA_some ia1) ?_
  simp only [zP_ptr]
  obtain ⟨y2, s2, r2⟩ := b3.slice (lo := some (.val (.int .i64 ((2 : Nat) : Int)))) (hi := some (.val (.int .i64 ((4 : Nat) : Int)))) (a := 2) (r := 4) (.inr rfl) (.inr rfl) (by omega) (by omega)
  obtain ⟨y4, s4, r4⟩ := b3.slice (lo := some (.val (.int .i64 ((4 : Nat) : Int)))) (hi := some (.val (.int .i64 ((8 : Nat) : Int)))) (a := 4) (r := 8) (.inr rfl) (.inr rfl) (by omega) (by omega)
  obtain ⟨y8, s8, r8⟩ := b3.slice (lo := some (.val (.int .i64 ((8 : Nat) : Int)))) (hi := some (.val (.int .i64 ((11 : Nat) : Int)))) (a := 8) (r := 11) (.inr rfl) (.inr rfl) (by omega) (by omega)
  refine bindO_i (eSl_some s2) ?_
  refine bindO_i (eSl_some s4) ?_
  refine bindO_i (eSl_some s8) ?_
  refine bindO_i (eLd_some ld1) ?_
  simp only [zI_int]
  refine (t_get M3 y2 _ r2 (by simp; omega)).mono ?_
  rintro y N4 ⟨rfl, rfl⟩
  simp only [i64, zI_int]
  refine ⟨bindO_i (eLd_some ld1) rfl, ?_⟩
  refine (t_get N4 y4 _ r4 (by simp; omega)).mono ?_
  rintro y N5 ⟨rfl, rfl⟩
  simp only [i64, zI_int]
  refine ⟨bindO_i (eLd_some ld1) rfl, ?_⟩
  refine (t_get N5 y8 _ r8 (by simp; omega)).mono ?_
  rintro y N6 ⟨rfl, rfl⟩
  simp only [i64, zI_int, wrap_i64_u8]
  refine ⟨bindO_i (eLd_some ld1) rfl, ?_⟩
  have ek : (r[1].toNat : Int) = fK r := by unfold fK; rw [getD_get (by omega)]
  rw [ek]
  refine letP_i fun M7 hM7 => ?_
  have hM7' : M7 = N6.put M1.next (.cells [i64 0, i64 0, i64 0, i64 0] true) := hM7
  clear hM7
  have hg7 : M7.get M1.next = some (.cells [i64 0, i64 0, i64 0, i64 0] true) := by rw [hM7', Mem.get_put, if_pos rfl]
  refine bindO_i (eSt_some (st_tag (fK r) (fP r) (fS r) (fE r) hg7 rfl)) ?_
  rw [hM7', Mem.put_put]
  clear hg7 hM7'
  generalize hM8 : N6.put M1.next (.cells [i64 (fK r), i64 (fP r), i64 (fS r), i64 (fE r)] true) = M8
  have hw8 : M8.WF := by rw [← hM8]; exact hw3.put (by omega) _
  have hg8 : M8.get M1.next = some (.cells [i64 (fK r), i64 (fP r), i64 (fS r), i64 (fE r)] true) := by rw [← hM8, Mem.get_put, if_pos rfl]
  have hg8' : M8.get M.next = some (.cells [i64 0, i64 0, i64 0, i64 0] true) := by rw [← hM8, Mem.get_put, if_neg (by omega)]; exact hg3
  have hk8 : Keep M M8 [] := ⟨hw8, by rw [← hM8]; show M.next ≤ N6.next; omega, fun c hc _ => by rw [← hM8, Mem.get_put, if_neg (by omega)]; exact hk13 c hc⟩
  have hold8 : ∀ c, c < M1.next → M8.get c = N6.get c := fun c hc => by rw [← hM8, Mem.get_put, if_neg (by omega)]
  have hx8 : BytesAt M8 x l := SlAt.mono hx3 fun c q hc hq => by
    rw [hold8 c (by have := SlAt.blk_lt hx1 hw1 hc; omega)]; exact hq
  clear hM8
  obtain ⟨yd, sd, rd⟩ := hx8.slice (lo := none) (hi := some (.val (.int .i64 (n : Int)))) (a := 0) (r := n) (.inl ⟨rfl, rfl⟩) (.inr rfl) (by omega) (by omega)
  rw [List.drop_zero] at rd
  refine bindO_i (eSl_some sd) ?_
  obtain ⟨_, _, _, _, la⟩ := tag_ld hg8
  refine bindO_i (eLd_some la) ?_
  refine ⟨fK r, fP r, fS r, fE r, rfl, ?_⟩
  refine (t_reflay M8 hw8 yd (l.take n) (fK r) (fP r) (fS r) (fE r) rd (by simp; omega)).mono ?_
  rintro y N9 ⟨hk9, hy⟩
  have hkM : Keep M N9 [] := hk8.trans0 hk9
  have hx9 : BytesAt N9 x l := SlAt.keep0 hx8 hw8 hk9
  have hg9 := hk9.get hw8 hg8 (by simp)
  have hg9' := hk9.get hw8 hg8' (by simp)
  have hvi : valid l = (okL (l.take n) (fK r) (fP r) (fS r) (fE r) && decide (laid (l.take n) (fK r) (fP r) (fS r) (fE r) = l)) := by
    have := valid_iff hlok
    rw [hn16, hr] at this
    exact this
  -- what comes if it is no page
  have noPage : valid l = false → ∃ J59 : Int → Nat → Mem → Prop, (∃ n60 : Nat, J59 (0 : Int) n60 N9) ∧ ∀ (_ : Nat → Option AV) (z61 : Int) (n62 : Nat) (M63 : Mem), J59 z61 n62 M63 →
      (bindO (eLen tb false 22 x M63) fun y64 => zI .i64 y64.1 fun z65 => condB (decide (z61 < z65)) (bindO (eIA tb 22 x (.val (.int .i64 z61)) M63) fun y66 => zP y66.1 fun p67 o68 => bindO (eLd tb 5 (.ptr p67 o68) M63) fun y69 => zI .u8 y69.1 fun z70 => condB (z70 !=
      (255 : Int)) (bindO (eSt tb 34 (.ptr M.next 0) (.agg [(.val (.int .i64 0)), (.val (.int .i64 0)), (.val (.int .i64 0)), (.val (.int .i64 0))]) M63) fun y71 => bindO (eRes tb [.v (.val (.slice none 0 0)), .c 34 (.ptr M.next 0), .v (.val (.int .i64 2))] y71.2) fun x72 => ReadPost M l x72 y71.2) (∃ k73 : Nat, k73 < n62 ∧
      (J59 (iAdd .i64 z61 1) k73 M63))) (bindO (eSt tb 34 (.ptr M.next 0) (.agg [(.val (.int .i64 0)), (.val (.int .i64 0)), (.val (.int .i64 0)), (.val (.int .i64 0))]) M63) fun y74 => bindO (eRes tb [.v (.val (.slice none 0 0)), .c 34 (.ptr M.next 0), .v (.val (.int .i64 0))] y74.2) fun x75 => ReadPost M l x75 y74.2)) := by
    intro hv
    refine ⟨fun z q P => ∃ i : Nat, z = i ∧ q = l.length - i ∧ i ≤ l.length ∧ P = N9 ∧ ∀ b ∈ l.take i, b = 255#8, ⟨l.length, 0, rfl, rfl, Nat.zero_le _, rfl, by simp⟩, ?_⟩
    rintro _ z q P ⟨i, rfl, rfl, hi, rfl, hall⟩
    refine bindO_i (eLen_some hx9.len) ?_
    simp only [zI_int]
    refine condB_i (fun hlt => ?_) (fun hge => ?_)
    · have hlt : i < l.length := by simpa using hlt
      obtain ⟨b, o, hia, hld⟩ := hx9.at hlt
      refine bindO_i (eIA_some hia) ?_
      refine bindO_i (eLd_some hld) ?_
      simp only [zI_int]
      rw [show ((l[i].toNat : Int) != 255) = decide (l[i] ≠ BitVec.ofNat 8 255) from ne_u8 l[i] 255 (by omega)]
      refine condB_i (fun h => ?_) (fun h => ?_)
      · have hne : l[i] ≠ 255#8 := by simpa using h
        have hff : allFF l = false := allFF_false hlt (by rw [getD_get hlt]; exact hne)
        exact read_none 2 (by unfold state; rw [hlok, hff, hv]; simp) (by omega) hg9' hk9.wf hkM
      · have h : l[i] = 255#8 := by simpa using h
        refine ⟨l.length - (i + 1), by omega, i + 1, iInc (by omega), rfl, hlt, by trivial, fun b hb => ?_⟩
        rw [List.take_succ_eq_append_getElem hlt, List.mem_append] at hb
        rcases hb with hb | hb
        · exact hall b hb
        · simp only [List.mem_singleton] at hb
          rw [hb, h]
    · have hge : i = l.length := by have : ¬ (i : Int) < l.length := by simpa using hge
                                    omega
      subst hge
      rw [List.take_length] at hall
      have hff : allFF l = true := by
        unfold allFF
        rw [List.all_eq_true]
        exact fun b hb => by simpa using hall b hb
      exact read_none 0 (by unfold state; rw [hlok, hff]; simp) (by omega) hg9' hk9.wf hkM
  rcases hy with ⟨hok, u, rfl, hu, hfu⟩ | ⟨hno, rfl⟩
  · refine ⟨u, 0, rfl, ?_⟩
    refine letP_i fun K hK => ?_
    refine condB_i (fun _ => ?_) (fun h => by simp at h)
    refine bindO_i (conv_str hu.at) ?_
    refine bindO_i (conv_str hx9) ?_
    refine bindO_i (eq_str _ _ _ _ _) ?_
    simp only [zB_bool]
    rw [hK]
    by_cases he : laid (l.take n) (fK r) (fP r) (fS r) (fE r) = l
    · have hv : valid l = true := by rw [hvi, hok]; simpa using he
      have hff : allFF l = false := valid_noFF (by omega) hv
      rw [show decide (laid (l.take n) (fK r) (fP r) (fS r) (fE r) = l) = true by simpa using he]
      simp only [condB_true]
      obtain ⟨ye, se, re⟩ := hx9.slice (lo := none) (hi := some (.val (.int .i64 (n : Int)))) (a := 0) (r := n) (.inl ⟨rfl, rfl⟩) (.inr rfl) (by omega) (by omega)
      rw [List.drop_zero] at re
      refine bindO_i (eSl_some se) ?_
      obtain ⟨_, _, _, _, la9⟩ := tag_ld hg9
      refine bindO_i (eLd_some la9) ?_
      refine ⟨fK r, fP r, fS r, fE r, rfl, ?_⟩
      obtain ⟨w, N12, hap, hwg, hgr, hfw⟩ := Gr.grow (l := []) hk9.wf (.inl ⟨rfl, rfl⟩) re (by simp; omega) (by simp; omega)
      rw [List.nil_append] at hwg
      refine bindO_i hap ?_
      have hk12 : Keep N9 N12 [] := ⟨hgr.wf, hgr.nxt, fun c hc _ => hgr.old c hc (fun h => h.elim)⟩
      have hg12 := hk12.get hk9.wf hg9 (by simp)
      have hg12' := hk12.get hk9.wf hg9' (by simp)
      obtain ⟨_, _, _, _, la12⟩ := tag_ld hg12
      refine ⟨bindO_i (eLd_some la12) rfl, ?_⟩
      refine bindO_i (eSt_some (st_tag (fK r) (fP r) (fS r) (fE r) hg12' rfl)) ?_
      refine bindO_i (res3 (by rw [Mem.get_put, if_pos rfl])) ?_
      have hkM2 : Keep M N12 [] := hkM.trans0 hk12
      have hlt := hk9.wf _ _ hg9'
      refine ⟨⟨hk12.wf.put (hk12.wf _ _ hg12') _, hkM2.nxt, fun c hc' _ => by
        show (N12.put M.next _).get c = _
        rw [Mem.get_put, if_neg (by omega)]; exact hkM2.old c hc' (by simp)⟩, .inl ⟨?_, w, ?_, ?_, fun c hc' => ?_⟩⟩
      · unfold state; rw [hlok, hff, hv]; simp
      · rw [hn16, hr]; rfl
      · rw [hn16]
        refine hwg.mono fun c q hc' hq => ?_
        have h1 := hfw c hc'
        show (N12.put M.next _).get c = _
        rw [Mem.get_put, if_neg (by omega)]; exact hq
      · have h1 := hfw c hc'
        omega
    · have hv : valid l = false := by rw [hvi, hok]; simpa using he
      rw [show decide (laid (l.take n) (fK r) (fP r) (fS r) (fE r) = l) = false by simpa using he]
      simp only [condB_false]
      exact noPage hv
  · refine ⟨.val (.slice none 0 0), 2, rfl, ?_⟩
    refine letP_i fun K hK => ?_
    refine condB_i (fun h => by simp at h) (fun _ => ?_)
    rw [hK]
    simp only [condB_false]
    exact noPage (by rw [hvi, hno]; simp)

end Go.Proofs.Ytpfifmemkbddjaa

/- The tag laws awake; TagUnlike, TagLays, TagReads. -/
namespace Go.Proofs.Ytpfifmemkbddjaa
open Go.AM

theorem eqA_int (n : Nat) (a b : Int) : eqA tb (n + 1) 3 (i64 a) (i64 b) = some (a == b) := by
  unfold eqA
  rw [ty3]
  rfl

theorem eqA_tag (n : Nat) (k p s e k' p' s' e' : Int) : eqA tb (n + 2) 34 (tagA k p s e) (tagA k' p' s' e') = some (decide (k = k' ∧ p = p' ∧ s = s' ∧ e = e')) := by
  show (match tb.ty.get 34 with | none => none | some ti => _) = _
  rw [ty34]
  show eqFs (eqA tb (n + 1)) [(0, 1, false), (1, 1, false), (2, 1, false), (3, 1, false)] [3, 3, 3, 3] [i64 k, i64 p, i64 s, i64 e] [i64 k', i64 p', i64 s', i64 e'] = _
  have h0 : partA (0, 1, false) [i64 k, i64 p, i64 s, i64 e] = some (i64 k) := rfl
  have h1 : partA (1, 1, false) [i64 k, i64 p, i64 s, i64 e] = some (i64 p) := rfl
  have h2 : partA (2, 1, false) [i64 k, i64 p, i64 s, i64 e] = some (i64 s) := rfl
  have h3 : partA (3, 1, false) [i64 k, i64 p, i64 s, i64 e] = some (i64 e) := rfl
  have g0 : partA (0, 1, false) [i64 k', i64 p', i64 s', i64 e'] = some (i64 k') := rfl
  have g1 : partA (1, 1, false) [i64 k', i64 p', i64 s', i64 e'] = some (i64 p') := rfl
  have g2 : partA (2, 1, false) [i64 k', i64 p', i64 s', i64 e'] = some (i64 s') := rfl
  have g3 : partA (3, 1, false) [i64 k', i64 p', i64 s', i64 e'] = some (i64 e') := rfl
  simp only [eqFs, h0, h1, h2, h3, g0, g1, g2, g3, eqA_int]
  by_cases q0 : k = k'
  · rw [show (k == k') = true by simpa using q0]
    by_cases q1 : p = p'
    · rw [show (p == p') = true by simpa using q1]
      by_cases q2 : s = s'
      · rw [show (s == s') = true by simpa using q2]
        by_cases q3 : e = e'
        · rw [show (e == e') = true by simpa using q3]
          simp [q0, q1, q2, q3]
        · rw [show (e == e') = false by simpa using q3]
          simp [q3]
      · rw [show (s == s') = false by simpa using q2]
        simp [q2]
    · rw [show (p == p') = false by simpa using q1]
      simp [q1]
  · rw [show (k == k') = false by simpa using q0]
    simp [q0]

theorem eq_tag (xo yo : Operand) (k p s e k' p' s' e' : Int) (M : Mem) : eBin tb .eql 34 xo yo (tagA k p s e) (tagA k' p' s' e') M = some (.val (.bool (decide (k = k' ∧ p = p' ∧ s = s' ∧ e = e'))), M) := by
  refine eBin_some ?_
  show (match tb.ty.get 34 with | some ti => (match ti.eqf with | some _ => eqRes .eql (eqA tb 60 34 (tagA k p s e) (tagA k' p' s' e')) | none => none) | none => none) = _
  rw [ty34]
  simp only [eqA_tag]
  rfl
theorem ne_tag (xo yo : Operand) (k p s e k' p' s' e' : Int) (M : Mem) : eBin tb .neq 34 xo yo (tagA k p s e) (tagA k' p' s' e') M = some (.val (.bool (!decide (k = k' ∧ p = p' ∧ s = s' ∧ e = e'))), M) := by
  refine eBin_some ?_
  show (match tb.ty.get 34 with | some ti => (match ti.eqf with | some _ => eqRes .neq (eqA tb 60 34 (tagA k p s e) (tagA k' p' s' e')) | none => none) | none => none) = _
  rw [ty34]
  simp only [eqA_tag]
  rfl

theorem t_one (M : Mem) (hw : M.WF) : CallA tb.P 30 [] M fun y N => y = tagA 1 3 5 2 ∧ Keep M N [] := by
  refine F30_ok ?_
  unfold F30
  refine letP_i fun M1 hM1 => ?_
  have hM1' : M1 = M.new (.cells [i64 0, i64 0, i64 0, i64 0] true) := hM1
  subst hM1'
  refine bindO_i (eSt_some (st_tag 1 3 5 2 (by rw [Mem.get_new, if_pos rfl]) rfl)) ?_
  rw [Mem.new_put]
  have hg : (M.new (.cells [i64 1, i64 3, i64 5, i64 2] true)).get M.next = some (.cells [i64 1, i64 3, i64 5, i64 2] true) := by rw [Mem.get_new, if_pos rfl]
  obtain ⟨_, _, _, _, la⟩ := tag_ld hg
  refine bindO_i (x := tagA 1 3 5 2) ?_ ⟨rfl, Keep.new hw _⟩
  unfold eRes resC resC
  simp only [la]

def bump (M : Mem) : Mem := ⟨M.next + 1, M.rows⟩
theorem bump_get (M : Mem) (c : Nat) : (bump M).get c = M.get c := rfl
theorem bump_wf {M : Mem} (h : M.WF) : (bump M).WF := fun b r hb => by have := h b r hb; show b < M.next + 1; omega
theorem bump_keep {M : Mem} (h : M.WF) : Keep M (bump M) [] := ⟨bump_wf h, Nat.le_succ _, fun _ _ _ => rfl⟩

def zeros (n : Nat) : List (BitVec 8) := List.replicate n 0#8
theorem bvs_zeros (n : Nat) : bvs (zeros n) = List.replicate n (.val (.int .u8 0)) := by
  unfold bvs zeros
  rw [List.map_replicate]; rfl

/-- The box of a tag that was answered. -/
theorem box_tag {M : Mem} (hw : M.WF) (k p s e : Int) {K : AV × Mem → Prop} (h : ∀ N, N = M.new (.cells [i64 k, i64 p, i64 s, i64 e] true) → K (undefA, N)) :
    letP (M.new (.cells [(.val (.int .i64 0)), (.val (.int .i64 0)), (.val (.int .i64 0)), (.val (.int .i64 0))] true)) fun M21 => bindO (eSt tb 34 (.ptr M.next 0) (.agg [(.val (.int .i64 k)), (.val (.int .i64 p)), (.val (.int .i64 s)), (.val (.int .i64 e))]) M21) K := by
  refine letP_i fun M1 hM1 => ?_
  have hM1' : M1 = M.new (.cells [i64 0, i64 0, i64 0, i64 0] true) := hM1
  subst hM1'
  refine bindO_i (eSt_some (st_tag k p s e (by rw [Mem.get_new, if_pos rfl]) rfl)) ?_
  rw [Mem.new_put]
  exact h _ rfl

set_option maxRecDepth 4000 in
theorem tag_awake (M : Mem) (hw : M.WF) : CallA tb.P 20 [] M fun y N => y = .val (.bool true) ∧ Keep M N [] := by
  refine F20_ok ?_
  unfold F20
  refine letP_i fun M1 hM1 => ?_
  have hM1' : M1 = bump M := hM1
  subst hM1'
  refine (t_one (bump M) (bump_wf hw)).mono ?_
  rintro y M3 ⟨rfl, hk3⟩
  refine ⟨1, 3, 5, 2, rfl, ?_⟩
  have hmk : evMakeFl tb 22 (.val (.int .i64 24)) (.val (.int .i64 24)) M.next = some (.sl M.next 0 24 24 none, .cells (bvs (zeros 24)) true) := by
    rw [bvs_zeros]
    unfold evMakeFl
    rw [ty22]
    simp only [ty5]
    rfl
  refine bindO_i hmk ?_
  have hlt : M.next < M3.next := by have := hk3.nxt; exact this
  have hw4 : (M3.put M.next (.cells (bvs (zeros 24)) true)).WF := hk3.wf.put hlt _
  have hd : BytesAt (M3.put M.next (.cells (bvs (zeros 24)) true)) (.sl M.next 0 24 24 none) (zeros 24) :=
    ⟨rfl, .inr ⟨M.next, 0, 24, none, rfl, ⟨Nat.le_refl _, .inl rfl⟩, .inr ⟨_, _, by rw [Mem.get_put, if_pos rfl], by simp [zeros], rfl⟩⟩⟩
  have hkM4 : Keep M (M3.put M.next (.cells (bvs (zeros 24)) true)) [] := ⟨hw4, Nat.le_of_lt hlt, fun c hc _ => by
    rw [Mem.get_put, if_neg (by omega), hk3.old c (by show c < M.next + 1; omega) (by simp)]; rfl⟩
  refine (t_lay _ hw4 _ (zeros 24) 1 3 5 2 hd (by simp [zeros])).mono ?_
  rintro y M10 ⟨hk10, hy⟩
  have hok : okL (zeros 24) 1 3 5 2 = true := by decide
  rcases hy with ⟨_, x11, rfl, hx11, hf11⟩ | ⟨hno, _⟩
  rotate_left
  · rw [hok] at hno; cases hno
  refine ⟨x11, 0, rfl, ?_⟩
  have hll : (laid (zeros 24) 1 3 5 2).length = 40 := by simp [zeros]
  refine (t_read M10 hk10.wf x11 _ hx11.at (by rw [hll]; omega)).mono ?_
  rintro y M14 ⟨hk14, hy⟩
  rcases hy with ⟨_, x15, rfl, hx15, hf15⟩ | ⟨hno, _⟩
  rotate_left
  · exact absurd (laid_state hok) hno
  rw [laid_drop, laid_take] at *
  obtain ⟨f1, f2, f3, f4⟩ := tail16_fields (c := more 0#32 (body (zeros 24) 1 3 5 2)) (k := 1) (p := 3) (s := 5) (e := 2) (by decide)
  rw [f1, f2, f3, f4]
  refine ⟨x15, 1, 3, 5, 2, 1, rfl, ?_⟩
  refine box_tag hk14.wf 1 3 5 2 fun M22 hM22 => ?_
  have hw22 : M22.WF := by rw [hM22]; exact hk14.wf.new _
  have hk22 : Keep M14 M22 [] := by rw [hM22]; exact Keep.new hk14.wf _
  have hg22 : M22.get M14.next = some (.cells [i64 1, i64 3, i64 5, i64 2] true) := by rw [hM22, Mem.get_new, if_pos rfl]
  clear hM22
  refine (t_read M22 hw22 (.val (.slice none 0 0)) [] SlAt.nil (by simp)).mono ?_
  rintro y M24 ⟨hk24, hy⟩
  rcases hy with ⟨hno, _⟩ | ⟨_, rfl⟩
  · have : state [] = 2 := rfl
    rw [this] at hno; cases hno
  refine ⟨.val (.slice none 0 0), 0, 0, 0, 0, 2, rfl, ?_⟩
  refine box_tag hk24.wf 0 0 0 0 fun M32 hM32 => ?_
  have hw32 : M32.WF := by rw [hM32]; exact hk24.wf.new _
  have hk32 : Keep M24 M32 [] := by rw [hM32]; exact Keep.new hk24.wf _
  clear hM32
  have hx11' : BytesAt M32 x11 (laid (zeros 24) 1 3 5 2) := SlAt.keep0 (SlAt.keep0 (SlAt.keep0 (SlAt.keep0 hx11.at hk10.wf hk14) hk14.wf hk22) hw22 hk24) hk24.wf hk32
  have hx15' : BytesAt M32 x15 (zeros 24) := SlAt.keep0 (SlAt.keep0 (SlAt.keep0 hx15.at hk14.wf hk22) hw22 hk24) hk24.wf hk32
  have hg32 : M32.get M14.next = some (.cells [i64 1, i64 3, i64 5, i64 2] true) := hk32.get hk24.wf (hk24.get hw22 hg22 (by simp)) (by simp)
  have hkM : Keep M M32 [] := ((((hkM4.trans0 hk10).trans0 hk14).trans0 hk22).trans0 hk24).trans0 hk32
  refine letP_i fun K hK => ?_
  refine condB_i (fun _ => ?_) (fun h => by simp at h)
  refine bindO_i (eLen_some hx11'.len) ?_
  simp only [hll, zI_int]
  refine condB_i (fun _ => ?_) (fun h => by simp at h)
  obtain ⟨b24, o24, ia24, ld24⟩ := hx11'.at (i := 24) (by rw [hll]; omega)
  refine bindO_i (eIA_some ia24) ?_
  simp only [zP_ptr]
  refine bindO_i (eLd_some ld24) ?_
  have e24 : (laid (zeros 24) 1 3 5 2)[24]'(by rw [hll]; omega) = 74#8 := by
    have := laid_eq (zeros 24) 1 3 5 2
    have h2 : (laid (zeros 24) 1 3 5 2).getD 24 0#8 = 74#8 := by rw [this]; rfl
    rwa [getD_get (by rw [hll]; omega)] at h2
  have e39 : (laid (zeros 24) 1 3 5 2)[39]'(by rw [hll]; omega) = 0#8 := by
    have := laid_eq (zeros 24) 1 3 5 2
    have h2 : (laid (zeros 24) 1 3 5 2).getD 39 0#8 = 0#8 := by rw [this]; rfl
    rwa [getD_get (by rw [hll]; omega)] at h2
  rw [e24]
  simp only [zI_int]
  refine condB_i (fun _ => ?_) (fun h => by simp at h)
  obtain ⟨b39, o39, ia39, ld39⟩ := hx11'.at (i := 39) (by rw [hll]; omega)
  refine bindO_i (eIA_some ia39) ?_
  simp only [zP_ptr]
  refine bindO_i (eLd_some ld39) ?_
  rw [e39]
  simp only [zI_int]
  refine condB_i (fun _ => ?_) (fun h => by simp at h)
  refine bindO_i (eLen_some hx15'.len) ?_
  simp only [zI_int]
  refine condB_i (fun _ => ?_) (fun h => by simp [zeros] at h)
  obtain ⟨_, _, _, _, la⟩ := tag_ld hg32
  refine bindO_i (eLd_some la) ?_
  refine ⟨1, 3, 5, 2, rfl, ?_⟩
  refine (t_one M32 hw32).mono ?_
  rintro y M53 ⟨rfl, hk53⟩
  refine ⟨1, 3, 5, 2, rfl, ?_⟩
  obtain ⟨_, _, _, _, la53⟩ := tag_ld (hk53.get hw32 hg32 (by simp))
  refine ⟨bindO_i (eLd_some la53) rfl, ?_⟩
  refine bindO_i (eq_tag _ _ 1 3 5 2 1 3 5 2 _) ?_
  simp only [zB_bool]
  refine condB_i (fun _ => ?_) (fun h => by simp at h)
  refine condB_i (fun _ => ?_) (fun h => by simp at h)
  refine condB_i (fun _ => ?_) (fun h => by simp at h)
  refine (t_one M53 hk53.wf).mono ?_
  rintro y M62 ⟨rfl, hk62⟩
  refine ⟨1, 3, 5, 2, rfl, ?_⟩
  refine (t_may M62 hk62.wf 1 3 5 2).mono ?_
  rintro y M68 ⟨rfl, hk68⟩
  simp only [zB_bool]
  rw [hK]
  exact ⟨rfl, ((hkM.trans0 hk53).trans0 hk62).trans0 hk68⟩

theorem t_num' (M : Mem) (z : Int) : CallA tb.P 24 [i64 z] M fun y N => y = i64 z ∧ N = M := by
  refine F24_ok ?_
  unfold F24
  simp only [i64, zI_int, and_self]

end Go.Proofs.Ytpfifmemkbddjaa

/- TagUnlike. -/
namespace Go.Proofs.Ytpfifmemkbddjaa
open Go.AM

/-- A tag that came as an argument lies in a box. -/
theorem tag_box (M : Mem) (hw : M.WF) (k p s e : Int) : let N := M.new (.cells [i64 k, i64 p, i64 s, i64 e] true)
    N.WF ∧ Keep M N [] ∧ N.get M.next = some (.cells [i64 k, i64 p, i64 s, i64 e] true) :=
  ⟨hw.new _, Keep.new hw _, by rw [Mem.get_new, if_pos rfl]⟩

theorem tag_unlike (M : Mem) (hw : M.WF) (x : AV) (a : List (BitVec 8)) (hx : BytesAt M x a) (hal : a.length ≤ 9223372036854775807) (k p s e : Int) (y : AV) (b : List (BitVec 8)) (hy : BytesAt M y b) (hbl : b.length ≤ 9223372036854775807) (k' p' s' e' : Int) :
    CallA tb.P 10 [x, tagA k p s e, y, tagA k' p' s' e'] M fun v _ => v = .val (.bool true) := by
  refine F10_ok ?_
  unfold F10
  refine ⟨k, p, s, e, rfl, k', p', s', e', rfl, ?_⟩
  refine letP_i fun M9 hM9 => ?_
  have hM9' : M9 = M.new (.cells [i64 k, i64 p, i64 s, i64 e] true) := hM9
  obtain ⟨hw9, hk9, hg9⟩ := tag_box M hw k p s e
  rw [← hM9'] at hw9 hk9 hg9
  clear hM9 hM9'
  refine letP_i fun M10 hM10 => ?_
  have hM10' : M10 = M9.new (.cells [i64 k', i64 p', i64 s', i64 e'] true) := hM10
  obtain ⟨hw10, hk10, hg10⟩ := tag_box M9 hw9 k' p' s' e'
  rw [← hM10'] at hw10 hk10 hg10
  clear hM10 hM10'
  have hg10a : M10.get M.next = some (.cells [i64 k, i64 p, i64 s, i64 e] true) := hk10.get hw9 hg9 (by simp)
  have hx10 : BytesAt M10 x a := SlAt.keep0 (SlAt.keep0 hx hw hk9) hw9 hk10
  have hy10 : BytesAt M10 y b := SlAt.keep0 (SlAt.keep0 hy hw hk9) hw9 hk10
  have awake : ∀ N : Mem, N.WF → CallA tb.P 20 [] N fun y _ => y = .val (.bool true) := fun N hN => (tag_awake N hN).mono fun _ _ h => h.1
  refine letP_i fun K16 hK16 => ?_
  have aw16 : ∀ b : Bool, b = true → K16 b := by
    rintro b rfl
    rw [hK16]
    simp only [condB_true]
    refine (awake M10 hw10).mono ?_
    rintro y N rfl
    simp only [zB_bool]
  refine bindO_i (eLen_some hx10.len) ?_
  simp only [zI_int]
  refine condB_i (fun _ => aw16 true rfl) (fun ha => ?_)
  have ha : a.length ≤ 100 := by have : ¬ (a.length : Int) > 100 := by simpa using ha
                                 omega
  refine bindO_i (eLen_some hy10.len) ?_
  simp only [zI_int]
  by_cases hb : (b.length : Int) > 100
  · exact aw16 _ (by simpa using hb)
  have hb' : b.length ≤ 100 := by omega
  rw [show decide ((b.length : Int) > 100) = false by simpa using hb, hK16]
  clear aw16 hK16 hb
  simp only [condB_false]
  obtain ⟨_, _, _, _, la⟩ := tag_ld hg10a
  refine bindO_i (eLd_some la) ?_
  refine ⟨k, p, s, e, rfl, ?_⟩
  refine (t_lay M10 hw10 x a k p s e hx10 (by omega)).mono ?_
  rintro v M26 ⟨hk26, hv⟩
  have hg26 := hk26.get hw10 hg10 (by simp)
  have hg26a := hk26.get hw10 hg10a (by simp)
  have hx26 : BytesAt M26 x a := SlAt.keep0 hx10 hw10 hk26
  have hy26 : BytesAt M26 y b := SlAt.keep0 hy10 hw10 hk26
  -- what comes behind the first page
  have rest : ∀ (x27 : AV) (z28 : Int), ((okL a k p s e = true ∧ z28 = 0 ∧ Gr M26 x27 (laid a k p s e)) ∨ (okL a k p s e = false ∧ z28 = 2 ∧ x27 = .val (.slice none 0 0))) →
      (bindO (eLd tb 34 (.ptr M9.next 0) M26) fun y29 => ∃ (z30 : Int) (z31 : Int) (z32 : Int) (z33 : Int), y29.1 =
  (.agg [(.val (.int .i64 z30)), (.val (.int .i64 z31)), (.val (.int .i64 z32)), (.val (.int .i64 z33))]) ∧
  (CallA tb.P 21 [y, (.agg [(.val (.int .i64 z30)), (.val (.int .i64 z31)), (.val (.int .i64 z32)), (.val (.int .i64 z33))])] M26 fun y34 M35 => ∃ (x36 : AV) (z37 : Int), y34 =
  (.tup [x36, (.val (.int .i64 z37))]) ∧ (letP (fun (b38 : Bool) => condB (b38) (letP (fun (b58 : Bool) (M59 : Mem) => AV.val (.bool b58) = .val (.bool true)) fun K60 => condB (z28 == (0 : Int)) (condB (z37 ==
  (0 : Int)) (CallA tb.P 20 [] M35 fun y40 M41 => zB y40 fun b42 => K60 b42 M41) (bindO (eLen tb false 22 x36 M35) fun y43 => zI .i64 y43.1 fun z44 => condB (z44 ==
  (0 : Int)) (CallA tb.P 20 [] M35 fun y45 M46 => zB y45 fun b47 => K60 b47 M46) (K60 false M35))) (bindO (eLen tb false 22 x27 M35) fun y48 => zI .i64 y48.1 fun z49 => condB (z49 ==
  (0 : Int)) (condB (z37 == (0 : Int)) (CallA tb.P 20 [] M35 fun y50 M51 => zB y50 fun b52 => K60 b52 M51) (bindO (eLen tb false 22 x36 M35) fun y53 => zI .i64 y53.1 fun z54 => condB (z54 ==
  (0 : Int)) (CallA tb.P 20 [] M35 fun y55 M56 => zB y55 fun b57 => K60 b57 M56) (K60 false M35))) (K60 false M35))) (letP (fun (b89 : Bool) (M90 : Mem) => AV.val (.bool b89) = .val (.bool true)) fun K91 => CallA tb.P 23 [x27, x36] M35 fun y61 M62 => zB y61 fun b63 => CallA tb.P 23 [x, y] M62 fun y64 M65 => zB y64 fun b66 => condB (b66) (bindO (eLd tb 34 (.ptr M.next 0) M65) fun y67 => ∃ (z68 : Int) (z69 : Int) (z70 : Int) (z71 : Int), y67.1 =
  (.agg [(.val (.int .i64 z68)), (.val (.int .i64 z69)), (.val (.int .i64 z70)), (.val (.int .i64 z71))]) ∧
  (bindO (eLd tb 34 (.ptr M9.next 0) M65) fun y72 => ∃ (z73 : Int) (z74 : Int) (z75 : Int) (z76 : Int), y72.1 =
  (.agg [(.val (.int .i64 z73)), (.val (.int .i64 z74)), (.val (.int .i64 z75)), (.val (.int .i64 z76))]) ∧
  (bindO (eBin tb .eql 34 (.tmp 66) (.tmp 67) (.agg [(.val (.int .i64 z68)), (.val (.int .i64 z69)), (.val (.int .i64 z70)), (.val (.int .i64 z71))]) (.agg [(.val (.int .i64 z73)), (.val (.int .i64 z74)), (.val (.int .i64 z75)), (.val (.int .i64 z76))]) M65) fun y77 => zB y77.1 fun b78 => bindO (eBin tb .eql 4 (.tmp 61) (.tmp 69) (.val (.bool b63)) (.val (.bool b78)) M65) fun y79 => zB y79.1 fun b80 => condB (b80) (CallA tb.P 20 [] M65 fun y81 M82 => zB y81 fun b83 => K91 b83 M82) (K91 false M65)))) (bindO (eBin tb .eql 4 (.tmp 61) (.tmp 69) (.val (.bool b63)) (.val (.bool false)) M65) fun y84 => zB y84.1 fun b85 => condB (b85) (CallA tb.P 20 [] M65 fun y86 M87 => zB y86 fun b88 => K91 b88 M87) (K91 false M65)))) fun K39 => condB (z28 !=
  (0 : Int)) (K39 true) (K39 (z37 !=
  (0 : Int)))))) := by
    intro x27 z28 h27
    obtain ⟨_, _, _, _, lb⟩ := tag_ld hg26
    refine bindO_i (eLd_some lb) ?_
    refine ⟨k', p', s', e', rfl, ?_⟩
    refine (t_lay M26 hk26.wf y b k' p' s' e' hy26 (by omega)).mono ?_
    rintro v M35 ⟨hk35, hv2⟩
    obtain ⟨x36, z37, rfl, h36⟩ : ∃ (x36 : AV) (z37 : Int), v = .tup [x36, i64 z37] ∧ ((okL b k' p' s' e' = true ∧ z37 = 0 ∧ Gr M35 x36 (laid b k' p' s' e')) ∨ (okL b k' p' s' e' = false ∧ z37 = 2 ∧ x36 = .val (.slice none 0 0))) := by
      rcases hv2 with ⟨h1, x36, rfl, h2, _⟩ | ⟨h1, rfl⟩
      · exact ⟨x36, 0, rfl, .inl ⟨h1, rfl, h2⟩⟩
      · exact ⟨_, 2, rfl, .inr ⟨h1, rfl, rfl⟩⟩
    refine ⟨x36, z37, rfl, ?_⟩
    have aw : ∀ {K : Bool → Mem → Prop}, (∀ N, K true N) → CallA tb.P 20 [] M35 fun y45 M46 => zB y45 fun b47 => K b47 M46 := fun {K} hK => by
      refine (awake M35 hk35.wf).mono ?_
      rintro y N rfl
      exact hK N
    have nil_len : ∀ N, eLen tb false 22 (.val (.slice none 0 0)) N = some (.val (.int .i64 ((0 : Nat) : Int)), N) := fun N => eLen_some (BytesAt.len (M := N) (l := []) SlAt.nil)
    refine letP_i fun K39 hK39 => ?_
    rcases h27 with ⟨ok1, rfl, hx27⟩ | ⟨ok1, rfl, rfl⟩
    · refine condB_i (fun h => by simp at h) (fun _ => ?_)
      rcases h36 with ⟨ok2, rfl, hx36⟩ | ⟨ok2, rfl, rfl⟩
      · rw [hK39]
        simp only [bne_self_eq_false, condB_false, letP_eq]
        have hx27' : BytesAt M35 x27 (laid a k p s e) := SlAt.keep0 hx27.at hk26.wf hk35
        refine (same_bytes M35 x27 x36 _ _ hx27' hx36.at (by simp; omega)).mono ?_
        rintro v N ⟨rfl, rfl⟩
        simp only [zB_bool]
        refine (same_bytes N x y _ _ (SlAt.keep0 hx26 hk26.wf hk35) (SlAt.keep0 hy26 hk26.wf hk35) (by omega)).mono ?_
        rintro v N' ⟨rfl, rfl⟩
        simp only [zB_bool]
        have hg35 := hk35.get hk26.wf hg26 (by simp)
        have hg35a := hk35.get hk26.wf hg26a (by simp)
        obtain ⟨_, _, _, _, l1⟩ := tag_ld hg35a
        obtain ⟨_, _, _, _, l2⟩ := tag_ld hg35
        refine condB_i (fun hab => ?_) (fun hab => ?_)
        · have hab : a = b := by simpa using hab
          refine bindO_i (eLd_some l1) ?_
          refine ⟨k, p, s, e, rfl, ?_⟩
          refine bindO_i (eLd_some l2) ?_
          refine ⟨k', p', s', e', rfl, ?_⟩
          refine bindO_i (eq_tag _ _ k p s e k' p' s' e' _) ?_
          simp only [zB_bool]
          have hiff : decide (laid a k p s e = laid b k' p' s' e') = decide (k = k' ∧ p = p' ∧ s = s' ∧ e = e') := by
            rw [Bool.eq_iff_iff, decide_eq_true_eq, decide_eq_true_eq]
            constructor
            · intro h; exact (laid_inj ok1 ok2 h).2
            · rintro ⟨rfl, rfl, rfl, rfl⟩; rw [hab]
          rw [hiff]
          generalize decide (k = k' ∧ p = p' ∧ s = s' ∧ e = e') = q
          have heq : eBin tb .eql 4 (.tmp 61) (.tmp 69) (.val (.bool q)) (.val (.bool q)) N' = some (.val (.bool true), N') := by
            refine eBin_some ?_
            cases q <;> kernel_rfl
          refine bindO_i heq ?_
          simp only [zB_bool, condB_true]
          exact aw fun N => rfl
        · have hab : a ≠ b := by simpa using hab
          have hne : decide (laid a k p s e = laid b k' p' s' e') = false := by
            rw [decide_eq_false_iff_not]
            exact fun h => hab (laid_inj ok1 ok2 h).1
          rw [hne]
          have heq : eBin tb .eql 4 (.tmp 61) (.tmp 69) (.val (.bool false)) (.val (.bool false)) N' = some (.val (.bool true), N') := by
            refine eBin_some ?_
            kernel_rfl
          refine bindO_i heq ?_
          simp only [zB_bool, condB_true]
          exact aw fun N => rfl
      · rw [hK39, show ((2 : Int) != 0) = true from rfl]
        simp only [condB_true, letP_eq]
        refine condB_i (fun _ => ?_) (fun h => by simp at h)
        refine condB_i (fun h => by simp at h) (fun _ => ?_)
        refine bindO_i (nil_len M35) ?_
        simp only [zI_int]
        refine condB_i (fun _ => aw fun N => rfl) (fun h => by simp at h)
    · refine condB_i (fun _ => ?_) (fun h => by simp at h)
      rw [hK39]
      simp only [condB_true, letP_eq]
      refine condB_i (fun h => by simp at h) (fun _ => ?_)
      refine bindO_i (nil_len M35) ?_
      simp only [zI_int]
      refine condB_i (fun _ => ?_) (fun h => by simp at h)
      rcases h36 with ⟨ok2, rfl, hx36⟩ | ⟨ok2, rfl, rfl⟩
      · refine condB_i (fun _ => aw fun N => rfl) (fun h => by simp at h)
      · refine condB_i (fun h => by simp at h) (fun _ => ?_)
        refine bindO_i (nil_len M35) ?_
        simp only [zI_int]
        refine condB_i (fun _ => aw fun N => rfl) (fun h => by simp at h)
  rcases hv with ⟨h1, x27, rfl, h2, _⟩ | ⟨h1, rfl⟩
  · exact ⟨x27, 0, rfl, rest x27 0 (.inl ⟨h1, rfl, h2⟩)⟩
  · exact ⟨_, 2, rfl, rest _ 2 (.inr ⟨h1, rfl, rfl⟩)⟩

end Go.Proofs.Ytpfifmemkbddjaa
