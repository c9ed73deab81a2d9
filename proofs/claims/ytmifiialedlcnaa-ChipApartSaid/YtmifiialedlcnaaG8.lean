import Derived.Test.YtmifiialedlcnaaG7
set_option linter.unusedSimpArgs false
set_option linter.unusedVariables false
/- What is told of a chip; a page; Read. -/
namespace Go.Proofs.Ytmifiialedlcnaa
open Go.AM

/-! ## What is told -/

theorem c_on (M : Mem) (hw : M.WF) (p : Nat) (C : Chip) (h : ChipAt M p C) : CallA tb.P 27 [.ptr p 0] M fun y N => y = .val (.bool (!C.off)) ∧ N = M := by
  refine F27_ok ?_
  unfold F27
  simp only [letP_eq, nil_ne, bindO_some, zB_bool, condB_true, eNil_ptr, fa3, zP_ptr, ld_off h, and_self]

theorem c_ops (M : Mem) (hw : M.WF) (p : Nat) (C : Chip) (h : ChipAt M p C) : CallA tb.P 28 [.ptr p 0] M fun y N => y = i64 C.ops ∧ N = M := by
  refine F28_ok ?_
  unfold F28
  simp only [letP_eq, nil_eq, bindO_some, zB_bool, condB_false, eNil_ptr, fa4, zP_ptr, ld_ops h, i64, zI_int, and_self]

theorem c_cuts (M : Mem) (hw : M.WF) (p : Nat) (C : Chip) (h : ChipAt M p C) : CallA tb.P 30 [.ptr p 0] M fun y N => y = i64 C.cuts ∧ N = M := by
  refine F30_ok ?_
  unfold F30
  simp only [letP_eq, nil_eq, bindO_some, zB_bool, condB_false, eNil_ptr, fa5, zP_ptr, ld_cuts h, i64, zI_int, and_self]

theorem c_badOf (M : Mem) (hw : M.WF) (p : Nat) (C : Chip) (h : ChipAt M p C) (b : Int) : CallA tb.P 32 [.ptr p 0, i64 b] M fun y N => y = .val (.bool (badF C.fs b)) ∧ Keep M N [] := by
  refine F32_ok ?_
  unfold F32
  simp only [letP_eq, nil_ne, bindO_some, zB_bool, condB_true, eNil_ptr, fa1, zP_ptr, ld_fs h, i64, zI_int]
  refine (c_bad M hw _ _ h.flt (by have := h.fsl; omega) b).mono ?_
  rintro y N ⟨rfl, hk⟩
  simp only [zB_bool]
  exact ⟨by trivial, hk⟩

def failed (C : Chip) (b : Int) : Bool := decide (0 ≤ b) && match C.bs[b.toNat]? with
  | some B => failsF C.fs b B.done
  | none => false

theorem c_failed (M : Mem) (hw : M.WF) (p : Nat) (C : Chip) (h : ChipAt M p C) (b : Int) : CallA tb.P 31 [.ptr p 0, i64 b] M fun y N => y = .val (.bool (failed C b)) ∧ Keep M N [] := by
  refine F31_ok ?_
  unfold F31
  simp only [letP_eq, nil_ne, bindO_some, zB_bool, condB_true, eNil_ptr, fa1, fa2, zP_ptr, ld_fs h, ld_bs h, len_bs h, i64, zI_int]
  unfold failed
  refine condB_i (fun q => ?_) (fun q => ?_)
  rotate_left
  · have q : ¬ 0 ≤ b := by simpa using q
    exact ⟨by rw [decide_eq_false q]; rfl, Keep.refl hw⟩
  have q : 0 ≤ b := by simpa using q
  obtain ⟨i, rfl⟩ : ∃ i : Nat, b = (i : Int) := ⟨b.toNat, by omega⟩
  rw [decide_eq_true q, Bool.true_and, Int.toNat_natCast]
  refine condB_i (fun q => ?_) (fun q => ?_)
  rotate_left
  · have q : ¬ i < C.bs.length := by simpa using q
    exact ⟨by rw [List.getElem?_eq_none (by omega)], Keep.refl hw⟩
  have hi : i < C.bs.length := by simpa using q
  rw [List.getElem?_eq_getElem hi]
  simp only [ia_bs h hi, bindO_some, zP_ptr, ld_done h hi, i64, zI_int]
  refine (c_fails M hw _ _ h.flt (by have := h.fsl; omega) _ _).mono ?_
  rintro y N ⟨rfl, hk⟩
  simp only [zB_bool]
  exact ⟨by trivial, hk⟩

def blk0 : List AV := [.val (.slice none 0 0), i64 0, i64 0, i64 0]
theorem blk_st {M : Mem} {b : Nat} {cs vs : List AV} (hg : M.get b = some (.cells cs true)) (hl : cs.length = 4) (hv : vs.length = 4) (hone : ∀ v ∈ vs, v.one = true) : eSt tb 117 (.ptr b 0) (.agg vs) M = some (undefA, M.put b (.cells vs true)) :=
  eSt_some (st_all ty117 (by rw [hv]) hg (by rw [hl, hv]) hone)
theorem blk_res {M : Mem} {b : Nat} {vs : List AV} (hg : M.get b = some (.cells vs true)) (hv : vs.length = 4) : eRes tb [.c 117 (.ptr b 0)] M = some (.agg vs) := by
  have l := ld_agg (T := tb) (n := 4) (o := 0) ty117 rfl rfl hg (by omega)
  rw [List.drop_zero, List.take_of_length_le (by omega)] at l
  unfold eRes resC resC
  simp only [l, Option.map_some]

/-- A block of a chip, as its cells; none, if there is no such one. -/
def atC (C : Chip) (b : Int) : List AV := if 0 ≤ b then (match C.bs[b.toNat]? with | some B => blkC B | none => blk0) else blk0

theorem c_at (M : Mem) (hw : M.WF) (p : Nat) (C : Chip) (h : ChipAt M p C) (b : Int) : CallA tb.P 73 [.ptr p 0, i64 b] M fun y N => y = .agg (atC C b) ∧ Keep M N [] := by
  refine F73_ok ?_
  unfold F73
  simp only [i64, zI_int]
  refine letP_i fun M2 hM2 => ?_
  have hM2' : M2 = M.new (.cells blk0 true) := hM2
  subst hM2'
  have hK := Keep.new hw (.cells blk0 true)
  have hg := get_new M (.cells blk0 true)
  have h1 := h.keep hw hK
  have fin : ∀ vs : List AV, Keep M ((M.new (.cells blk0 true)).put M.next (.cells vs true)) [] := fun vs => by
    rw [Mem.new_put]; exact Keep.new hw _
  refine letP_i fun K hK1 => ?_
  have no : atC C b = blk0 → K true := fun ha => by
    rw [hK1]
    simp only [condB_true]
    refine bindO_i (blk_st hg rfl rfl (by intro v hv; simp only [List.mem_cons, List.not_mem_nil, or_false] at hv; rcases hv with rfl | rfl | rfl | rfl <;> rfl)) ?_
    refine bindO_i (blk_res (vs := blk0) (by rw [Mem.get_put, if_pos rfl]; rfl) rfl) ?_
    exact ⟨by rw [ha], fin _⟩
  simp only [nil_eq, bindO_some, zB_bool, condB_false, eNil_ptr, fa2, zP_ptr, ld_bs h1, len_bs h1, i64, zI_int]
  refine condB_i (fun q => no ?_) (fun q => ?_)
  · have q : b < 0 := by simpa using q
    unfold atC
    rw [if_neg (by omega)]
  have q : 0 ≤ b := by have : ¬ b < 0 := by simpa using q
                       omega
  obtain ⟨i, rfl⟩ : ∃ i : Nat, b = (i : Int) := ⟨b.toNat, by omega⟩
  by_cases hi : i < C.bs.length
  rotate_left
  · rw [show decide ((i : Int) ≥ (C.bs.length : Int)) = true by simpa using hi]
    refine no ?_
    unfold atC
    rw [if_pos q, Int.toNat_natCast, List.getElem?_eq_none (by omega)]
  rw [show decide ((i : Int) ≥ (C.bs.length : Int)) = false by simpa using hi, hK1]
  have ha : atC C (i : Int) = blkC C.bs[i] := by
    unfold atC
    rw [if_pos q, Int.toNat_natCast, List.getElem?_eq_getElem hi]
  simp only [condB_false, eNil_ptr, bindO_some, fa2, zP_ptr, ld_bs h1, ia_bs h1 hi, ld_blk h1 hi]
  refine ⟨_, _, _, _, rfl, ?_⟩
  refine bindO_i (blk_st (vs := blkC C.bs[i]) hg rfl rfl (by intro v hv; simp only [blkC, List.mem_cons, List.not_mem_nil, or_false] at hv; rcases hv with rfl | rfl | rfl | rfl <;> rfl)) ?_
  refine bindO_i (blk_res (vs := blkC C.bs[i]) (by rw [Mem.get_put, if_pos rfl]) rfl) ?_
  exact ⟨by rw [ha], fin _⟩

def wearOf (C : Chip) (b : Int) : Int := if 0 ≤ b then (match C.bs[b.toNat]? with | some B => B.wear | none => 0) else 0
def usedOf (C : Chip) (b : Int) : Int := if 0 ≤ b then (match C.bs[b.toNat]? with | some B => B.next | none => 0) else 0

theorem atC_is (C : Chip) (b : Int) : ∃ x d, atC C b = [x, i64 (usedOf C b), i64 (wearOf C b), i64 d] := by
  unfold atC usedOf wearOf
  split
  · split
    · exact ⟨_, _, rfl⟩
    · exact ⟨_, _, rfl⟩
  · exact ⟨_, _, rfl⟩

theorem c_wear (M : Mem) (hw : M.WF) (p : Nat) (C : Chip) (h : ChipAt M p C) (b : Int) : CallA tb.P 25 [.ptr p 0, i64 b] M fun y N => y = i64 (wearOf C b) ∧ Keep M N [] := by
  refine F25_ok ?_
  unfold F25
  simp only [i64, zI_int]
  refine (c_at M hw p C h b).mono ?_
  rintro y N ⟨rfl, hk⟩
  obtain ⟨x, d, e⟩ := atC_is C b
  rw [e]
  exact ⟨_, _, _, _, rfl, rfl, hk⟩

theorem c_used (M : Mem) (hw : M.WF) (p : Nat) (C : Chip) (h : ChipAt M p C) (b : Int) : CallA tb.P 23 [.ptr p 0, i64 b] M fun y N => y = i64 (usedOf C b) ∧ Keep M N [] := by
  refine F23_ok ?_
  unfold F23
  simp only [i64, zI_int]
  refine (c_at M hw p C h b).mono ?_
  rintro y N ⟨rfl, hk⟩
  obtain ⟨x, d, e⟩ := atC_is C b
  rw [e]
  exact ⟨_, _, _, _, rfl, rfl, hk⟩

/-! ## A page -/

theorem isG_iff {g : Geo} {b k : Int} : isG g b k = true ↔ (0 ≤ b ∧ b ≤ g.bl - 1) ∧ 0 ≤ k ∧ k ≤ g.pg - 1 := by
  unfold isG inB
  simp only [Bool.and_eq_true, decide_eq_true_eq]

/-- A place that is there, in numbers. -/
theorem ChipAt.place {M : Mem} {p : Nat} {C : Chip} (h : ChipAt M p C) {b k : Int} (hp : isG C.g b k = true) :
    ∃ (i j : Nat) (hi : i < C.bs.length), b = (i : Int) ∧ k = (j : Int) ∧ j < C.g.pg.toNat ∧ C.g.pg.toNat ≤ 8 ∧ 40 ≤ rawN C.g ∧ rawN C.g ≤ 80 ∧ C.bs[i].by'.length = C.g.pg.toNat * rawN C.g ∧ (j + 1) * rawN C.g ≤ C.bs[i].by'.length ∧ C.bs[i].by'.length ≤ 640 := by
  obtain ⟨⟨h1, h2⟩, h3, h4⟩ := isG_iff.1 hp
  have hm := mayG_iff.1 h.may
  have hi : b.toNat < C.bs.length := by rw [h.len]; omega
  have hf := h.ful _ (List.getElem_mem hi)
  have hr : 40 ≤ rawN C.g ∧ rawN C.g ≤ 80 := by unfold rawN; omega
  have hpg : C.g.pg.toNat ≤ 8 := by omega
  have hj : k.toNat + 1 ≤ C.g.pg.toNat := by omega
  refine ⟨b.toNat, k.toNat, hi, by omega, by omega, by omega, hpg, hr.1, hr.2, hf, ?_, ?_⟩
  · rw [hf]; exact Nat.mul_le_mul_right _ hj
  · rw [hf]
    have : C.g.pg.toNat * rawN C.g ≤ 8 * 80 := Nat.mul_le_mul hpg hr.2
    omega

def pageB (B : Blk) (raw j : Nat) : List (BitVec 8) := (B.by'.drop (j * raw)).take raw

theorem c_page (M : Mem) (hw : M.WF) (p : Nat) (C : Chip) (h : ChipAt M p C) {i j : Nat} (hi : i < C.bs.length) (hp : isG C.g i j = true) :
    CallA tb.P 71 [.ptr p 0, placeA i j] M fun y N => y = .sl C.bs[i].b (j * rawN C.g) (rawN C.g) (C.bs[i].by'.length - j * rawN C.g) none ∧ Keep M N [] := by
  obtain ⟨i', j', hi', e1, e2, hj, hpg, hr1, hr2, hf, hle, hmax⟩ := h.place hp
  have e1 : i' = i := by omega
  have e2 : j' = j := by omega
  subst e1 e2
  refine F71_ok ?_
  unfold F71
  refine ⟨_, _, rfl, ?_⟩
  refine letP_i fun M3 hM3 => ?_
  have hM3' : M3 = M.new (.cells [i64 (i' : Int), i64 (j' : Int)] true) := hM3
  have hK : Keep M M3 [] := by rw [hM3']; exact Keep.new hw _
  have hpl : M3.get M.next = some (.cells [i64 (i' : Int), i64 (j' : Int)] true) := by rw [hM3']; exact get_new _ _
  clear hM3 hM3'
  have h1 := h.keep hw hK
  simp only [eNil_ptr, bindO_some, fa0, zP_ptr, ld_g h1]
  refine ⟨_, _, _, _, _, rfl, ?_⟩
  refine (c_raw _ hK.wf C.g h.may).mono ?_
  rintro y N ⟨rfl, hk⟩
  have h2 := h1.keep hK.wf hk
  obtain ⟨p0, p1, _⟩ := place_ld (hk.get hK.wf hpl (by simp))
  have hb1 : j' * rawN C.g ≤ 640 := by
    have : (j' + 1) * rawN C.g = j' * rawN C.g + rawN C.g := by rw [Nat.add_mul, Nat.one_mul]
    omega
  have m1 : iMul .i64 (j' : Int) (rawN C.g : Int) = ((j' * rawN C.g : Nat) : Int) := by
    rw [iMul, ← Int.natCast_mul, wrap_i64' (by omega) (by omega)]
  have m2 : iMul .i64 (iAdd .i64 (j' : Int) 1) (rawN C.g : Int) = (((j' + 1) * rawN C.g : Nat) : Int) := by
    rw [iInc (by omega), iMul, ← Int.natCast_mul, wrap_i64' (by omega) (by omega)]
  simp only [i64, zI_int, eNil_ptr, bindO_some, fa2, zP_ptr, ld_bs h2, eLd_some p0, eLd_some p1, ia_bs h2 hi, ld_by h2 hi, m1, m2]
  have hsl := slice_both (T := tb) ty33 ty5 (b := C.bs[i'].b) (o := 0) (n := C.bs[i'].by'.length) (c := C.bs[i'].by'.length) (l := j' * rawN C.g) (h := (j' + 1) * rawN C.g) (Nat.mul_le_mul_right _ (by omega)) hle (k1 := .i64) (k2 := .i64)
  have hd : (j' + 1) * rawN C.g - j' * rawN C.g = rawN C.g := by rw [Nat.add_mul, Nat.one_mul]; omega
  rw [AM.beq_false (show C.bs[i'].by'.length ≠ j' * rawN C.g by
    have : (j' + 1) * rawN C.g = j' * rawN C.g + rawN C.g := by rw [Nat.add_mul, Nat.one_mul]
    omega), cond_false, Nat.zero_add, hd] at hsl
  refine bindO_i (eSl_some hsl) ?_
  exact ⟨rfl, hK.trans0 hk⟩

/-- A page reads as its bytes. -/
theorem page_at {M : Mem} {p : Nat} {C : Chip} (h : ChipAt M p C) {i j : Nat} (hi : i < C.bs.length) (hp : isG C.g i j = true) :
    BytesAt M (.sl C.bs[i].b (j * rawN C.g) (rawN C.g) (C.bs[i].by'.length - j * rawN C.g) none) (pageB C.bs[i] (rawN C.g) j) ∧ (pageB C.bs[i] (rawN C.g) j).length = rawN C.g := by
  obtain ⟨i', j', hi', e1, e2, hj, hpg, hr1, hr2, hf, hle, hmax⟩ := h.place hp
  have e1 : i' = i := by omega
  have e2 : j' = j := by omega
  subst e1 e2
  have hs : (j' + 1) * rawN C.g = j' * rawN C.g + rawN C.g := by rw [Nat.add_mul, Nat.one_mul]
  have hl : (pageB C.bs[i'] (rawN C.g) j').length = rawN C.g := by
    unfold pageB
    rw [List.length_take, List.length_drop]; omega
  refine ⟨⟨by simp, .inr ⟨_, _, _, none, by rw [hl], ⟨by rw [hl]; omega, .inl rfl⟩, .inr ⟨_, _, h.dat _ (List.getElem_mem hi), by rw [hl, bvs_length]; omega, ?_⟩⟩⟩, hl⟩
  rw [hl, Nat.mul_one]
  unfold pageB bvs
  rw [List.map_take, List.map_drop]

/-! ## Read -/

def rdE (C : Chip) (b k : Int) : Int := if askd C b k = 0 then (if bgn C = true then 9 else 0) else askd C b k
def rdC (C : Chip) (b k : Int) : Chip := if askd C b k = 0 then bgC C else C
def rdB (C : Chip) (b k : Int) : List (BitVec 8) := if rdE C b k = 0 then (match C.bs[b.toNat]? with | some B => pageB B (rawN C.g) k.toNat | none => []) else []

theorem askd_zero {C : Chip} {b k : Int} (h : askd C b k = 0) : C.off = false ∧ isG C.g b k = true := by
  unfold askd at h
  split at h
  · omega
  · rename_i h1
    split at h
    · rename_i h2; exact ⟨by simpa using h1, h2⟩
    · omega

theorem bgC_bs (C : Chip) : (bgC C).bs = C.bs ∧ (bgC C).g = C.g ∧ (bgC C).fs = C.fs ∧ (bgC C).cby = C.cby ∧ (bgC C).cf = C.cf := by
  unfold bgC
  split <;> exact ⟨rfl, rfl, rfl, rfl, rfl⟩

theorem c_read (M : Mem) (hw : M.WF) (p : Nat) (C : Chip) (h : ChipAt M p C) (b k : Int) :
    CallA tb.P 21 [.ptr p 0, placeA b k] M fun y N => ∃ u, y = .tup [u, i64 (rdE C b k)] ∧ Gr N u (rdB C b k) ∧ (∀ c, inBlk u c → M.next ≤ c) ∧ Step M N p C (rdC C b k) := by
  refine F21_ok ?_
  unfold F21
  refine ⟨_, _, rfl, ?_⟩
  refine letP_i fun M3 hM3 => ?_
  have hM3' : M3 = M.new (.cells [i64 b, i64 k] true) := hM3
  have hK : Keep M M3 [] := by rw [hM3']; exact Keep.new hw _
  have hpl : M3.get M.next = some (.cells [i64 b, i64 k] true) := by rw [hM3']; exact get_new _ _
  clear hM3 hM3'
  have h1 := h.keep hw hK
  have hpn : M.next < M3.next := hK.wf _ _ hpl
  obtain ⟨_, _, l2⟩ := place_ld hpl
  refine bindO_i (eLd_some l2) ?_
  refine ⟨_, _, rfl, ?_⟩
  refine (c_asked _ hK.wf p C h1 b k).mono ?_
  rintro y N ⟨rfl, hk⟩
  have h2 := h1.keep hK.wf hk
  have hKN := hK.trans0 hk
  simp only [i64, zI_int]
  refine condB_i (fun q => ?_) (fun q => ?_)
  · have q : ¬ askd C b k = 0 := by simpa using q
    have e1 : rdE C b k = askd C b k := by unfold rdE; rw [if_neg q]
    refine ⟨.val (.slice none 0 0), by rw [e1], ?_, fun c hc => hc.elim, ?_⟩
    · unfold rdB
      rw [if_neg (by rw [e1]; exact q)]
      exact .inl ⟨rfl, rfl⟩
    · unfold rdC
      rw [if_neg q]
      exact Step.of0 hw h hKN
  have q : askd C b k = 0 := by simpa using q
  obtain ⟨hoff, hp⟩ := askd_zero q
  refine (c_begin N hk.wf p C h2).mono ?_
  rintro y N2 ⟨rfl, hs⟩
  simp only [zB_bool]
  refine condB_i (fun q2 => ?_) (fun q2 => ?_)
  · have e1 : rdE C b k = 9 := by unfold rdE; rw [if_pos q, if_pos q2]
    refine ⟨.val (.slice none 0 0), by rw [e1], ?_, fun c hc => hc.elim, ?_⟩
    · unfold rdB
      rw [if_neg (by rw [e1]; decide)]
      exact .inl ⟨rfl, rfl⟩
    · unfold rdC
      rw [if_pos q]
      exact hs.pre hKN
  have e1 : rdE C b k = 0 := by unfold rdE; rw [if_pos q, q2]; rfl
  have hplN : N2.get M.next = some (.cells [i64 b, i64 k] true) := hs.keep.get hk.wf (hk.get hK.wf hpl (by simp)) (fun hm => by
    -- the place lies apart
    have hlt : ∀ c ∈ foot p C, c < M.next := by
      intro c hc
      simp only [foot, List.mem_cons, List.mem_map] at hc
      rcases hc with rfl | rfl | ⟨B, hB, rfl⟩
      · exact hw _ _ h.main
      · exact hw _ _ h.tab
      · exact hw _ _ (h.dat B hB)
    have := hlt _ hm
    omega)
  obtain ⟨_, _, l3⟩ := place_ld hplN
  refine bindO_i (eLd_some l3) ?_
  refine ⟨_, _, rfl, ?_⟩
  have h3 := hs.at'
  obtain ⟨i, j, hi, rfl, rfl, _⟩ := h.place hp
  have hbb := bgC_bs C
  have hi3 : i < (bgC C).bs.length := by rw [hbb.1]; exact hi
  have hp3 : isG (bgC C).g i j = true := by rw [hbb.2.1]; exact hp
  refine (c_page N2 hs.wf p (bgC C) h3 hi3 hp3).mono ?_
  rintro y N3 ⟨rfl, hk3⟩
  have h4 := h3.keep hs.wf hk3
  obtain ⟨hpa, hpl⟩ := page_at h4 hi3 hp3
  have hm := mayG_iff.1 h4.may
  have hr : 40 ≤ rawN (bgC C).g ∧ rawN (bgC C).g ≤ 80 := by unfold rawN; omega
  refine (t_clone N3 hk3.wf _ _ hpa (by rw [hpl]; omega) (by rw [hpl]; omega)).mono ?_
  rintro y N4 ⟨hg, hk4, hfr⟩
  refine ⟨y, by rw [e1], ?_, fun c hc => Nat.le_trans hKN.nxt (Nat.le_trans hs.keep.nxt (Nat.le_trans hk3.nxt (hfr c hc))), ?_⟩
  · unfold rdB
    rw [if_pos e1, Int.toNat_natCast, Int.toNat_natCast, List.getElem?_eq_getElem hi]
    have : pageB (bgC C).bs[i] (rawN (bgC C).g) j = pageB C.bs[i] (rawN C.g) j := by simp only [hbb.1, hbb.2.1]
    rw [this] at hg
    exact hg
  · unfold rdC
    rw [if_pos q]
    exact (hs.pre hKN).post (hk3.trans0 hk4)

end Go.Proofs.Ytmifiialedlcnaa
