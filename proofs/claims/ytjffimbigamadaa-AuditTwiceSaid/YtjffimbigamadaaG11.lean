import Derived.Test.YtjffimbigamadaaG7
set_option linter.unusedSimpArgs false
set_option linter.unusedVariables false
set_option linter.unusedSectionVars false
/- What is told of a chip; a page; Read. -/
namespace Go.Proofs.Ytjffimbigamadaa
open Go.AM

/-! ## What is told -/

theorem c_on (M : Mem) (hw : M.WF) (p : Nat) (C : Chip) (h : ChipAt M p C) : CallA tb.P 27 [.ptr p 0] M fun y N => y = .val (.bool (!C.off)) ∧ N = M := by
  refine F27_ok ?_
  unfold F27
  simp only [letP_eq, nil_ne, bindO_some, zB_bool, condB_true, eNil_ptr, fa3, zP_ptr, ld_off h, and_self]

theorem c_cuts (M : Mem) (hw : M.WF) (p : Nat) (C : Chip) (h : ChipAt M p C) : CallA tb.P 30 [.ptr p 0] M fun y N => y = i64 C.cuts ∧ N = M := by
  refine F30_ok ?_
  unfold F30
  simp only [letP_eq, nil_eq, bindO_some, zB_bool, condB_false, eNil_ptr, fa5, zP_ptr, ld_cuts h, i64, zI_int, and_self]

theorem c_badOf (M : Mem) (hw : M.WF) (p : Nat) (C : Chip) (h : ChipAt M p C) (b : Int) : CallA tb.P 32 [.ptr p 0, i64 b] M fun y N => y = .val (.bool (badF C.fs b)) ∧ Keep M N [] := by
  refine F32_ok ?_
  unfold F32
  simp only [letP_eq, nil_ne, bindO_some, zB_bool, condB_true, eNil_ptr, fa1, zP_ptr, ld_fs h, i64, zI_int]
  refine (c_bad M hw _ _ h.flt (by have := h.fsl; omega) b).mono ?_
  rintro y N ⟨rfl, hk⟩
  simp only [zB_bool]
  exact ⟨by trivial, hk⟩

def failed (C : Chip) (b : Int) : Bool := decide (0 ≤ b) && match C.bs[b.toNat]? with
  | some B => failsF C.fs b B.done
  | none => false

theorem c_failed (M : Mem) (hw : M.WF) (p : Nat) (C : Chip) (h : ChipAt M p C) (b : Int) : CallA tb.P 31 [.ptr p 0, i64 b] M fun y N => y = .val (.bool (failed C b)) ∧ Keep M N [] := by
  refine F31_ok ?_
  unfold F31
  simp only [letP_eq, nil_ne, bindO_some, zB_bool, condB_true, eNil_ptr, fa1, fa2, zP_ptr, ld_fs h, ld_bs h, len_bs h, i64, zI_int]
  unfold failed
  refine condB_i (fun q => ?_) (fun q => ?_)
  rotate_left
  · have q : ¬ 0 ≤ b := by simpa using q
    exact ⟨by rw [decide_eq_false q]; rfl, Keep.refl hw⟩
  have q : 0 ≤ b := by simpa using q
  obtain ⟨i, rfl⟩ : ∃ i : Nat, b = (i : Int) := ⟨b.toNat, by omega⟩
  rw [decide_eq_true q, Bool.true_and, Int.toNat_natCast]
  refine condB_i (fun q => ?_) (fun q => ?_)
  rotate_left
  · have q : ¬ i < C.bs.length := by simpa using q
    exact ⟨by rw [List.getElem?_eq_none (by omega)], Keep.refl hw⟩
  have hi : i < C.bs.length := by simpa using q
  rw [List.getElem?_eq_getElem hi]
  simp only [ia_bs h hi, bindO_some, zP_ptr, ld_done h hi, i64, zI_int]
  refine (c_fails M hw _ _ h.flt (by have := h.fsl; omega) _ _).mono ?_
  rintro y N ⟨rfl, hk⟩
  simp only [zB_bool]
  exact ⟨by trivial, hk⟩

def blk0 : List AV := [.val (.slice none 0 0), i64 0, i64 0, i64 0]
theorem blk_st {M : Mem} {b : Nat} {cs vs : List AV} (hg : M.get b = some (.cells cs true)) (hl : cs.length = 4) (hv : vs.length = 4) (hone : ∀ v ∈ vs, v.one = true) : eSt tb 117 (.ptr b 0) (.agg vs) M = some (undefA, M.put b (.cells vs true)) :=
  eSt_some (st_all ty117 (by rw [hv]) hg (by rw [hl, hv]) hone)
theorem blk_res {M : Mem} {b : Nat} {vs : List AV} (hg : M.get b = some (.cells vs true)) (hv : vs.length = 4) : eRes tb [.c 117 (.ptr b 0)] M = some (.agg vs) := by
  have l := ld_agg (T := tb) (n := 4) (o := 0) ty117 rfl rfl hg (by omega)
  rw [List.drop_zero, List.take_of_length_le (by omega)] at l
  unfold eRes resC resC
  simp only [l, Option.map_some]

/-- A block of a chip, as its cells; none, if there is no such one. -/
def atC (C : Chip) (b : Int) : List AV := if 0 ≤ b then (match C.bs[b.toNat]? with | some B => blkC B | none => blk0) else blk0

theorem c_at (M : Mem) (hw : M.WF) (p : Nat) (C : Chip) (h : ChipAt M p C) (b : Int) : CallA tb.P 73 [.ptr p 0, i64 b] M fun y N => y = .agg (atC C b) ∧ Keep M N [] := by
  refine F73_ok ?_
  unfold F73
  simp only [i64, zI_int]
  refine letP_i fun M2 hM2 => ?_
  have hM2' : M2 = M.new (.cells blk0 true) := hM2
  subst hM2'
  have hK := Keep.new hw (.cells blk0 true)
  have hg := get_new M (.cells blk0 true)
  have h1 := h.keep hw hK
  have fin : ∀ vs : List AV, Keep M ((M.new (.cells blk0 true)).put M.next (.cells vs true)) [] := fun vs => by
    rw [Mem.new_put]; exact Keep.new hw _
  refine letP_i fun K hK1 => ?_
  have no : atC C b = blk0 → K true := fun ha => by
    rw [hK1]
    simp only [condB_true]
    refine bindO_i (blk_st hg rfl rfl (by intro v hv; simp only [List.mem_cons, List.not_mem_nil, or_false] at hv; rcases hv with rfl | rfl | rfl | rfl <;> rfl)) ?_
    refine bindO_i (blk_res (vs := blk0) (by rw [Mem.get_put, if_pos rfl]; rfl) rfl) ?_
    exact ⟨by rw [ha], fin _⟩
  simp only [nil_eq, bindO_some, zB_bool, condB_false, eNil_ptr, fa2, zP_ptr, ld_bs h1, len_bs h1, i64, zI_int]
  refine condB_i (fun q => no ?_) (fun q => ?_)
  · have q : b < 0 := by simpa using q
    unfold atC
    rw [if_neg (by omega)]
  have q : 0 ≤ b := by have : ¬ b < 0 := by simpa using q
                       omega
  obtain ⟨i, rfl⟩ : ∃ i : Nat, b = (i : Int) := ⟨b.toNat, by omega⟩
  by_cases hi : i < C.bs.length
  rotate_left
  · rw [show decide ((i : Int) ≥ (C.bs.length : Int)) = true by simpa using hi]
    refine no ?_
    unfold atC
    rw [if_pos q, Int.toNat_natCast, List.getElem?_eq_none (by omega)]
  rw [show decide ((i : Int) ≥ (C.bs.length : Int)) = false by simpa using hi, hK1]
  have ha : atC C (i : Int) = blkC C.bs[i] := by
    unfold atC
    rw [if_pos q, Int.toNat_natCast, List.getElem?_eq_getElem hi]
  simp only [condB_false, eNil_ptr, bindO_some, fa2, zP_ptr, ld_bs h1, ia_bs h1 hi, ld_blk h1 hi]
  refine ⟨_, _, _, _, rfl, ?_⟩
  refine bindO_i (blk_st (vs := blkC C.bs[i]) hg rfl rfl (by intro v hv; simp only [blkC, List.mem_cons, List.not_mem_nil, or_false] at hv; rcases hv with rfl | rfl | rfl | rfl <;> rfl)) ?_
  refine bindO_i (blk_res (vs := blkC C.bs[i]) (by rw [Mem.get_put, if_pos rfl]) rfl) ?_
  exact ⟨by rw [ha], fin _⟩

def wearOf (C : Chip) (b : Int) : Int := if 0 ≤ b then (match C.bs[b.toNat]? with | some B => B.wear | none => 0) else 0
def usedOf (C : Chip) (b : Int) : Int := if 0 ≤ b then (match C.bs[b.toNat]? with | some B => B.next | none => 0) else 0

theorem atC_is (C : Chip) (b : Int) : ∃ x d, atC C b = [x, i64 (usedOf C b), i64 (wearOf C b), i64 d] := by
  unfold atC usedOf wearOf
  split
  · split
    · exact ⟨_, _, rfl⟩
    · exact ⟨_, _, rfl⟩
  · exact ⟨_, _, rfl⟩

theorem c_wear (M : Mem) (hw : M.WF) (p : Nat) (C : Chip) (h : ChipAt M p C) (b : Int) : CallA tb.P 25 [.ptr p 0, i64 b] M fun y N => y = i64 (wearOf C b) ∧ Keep M N [] := by
  refine F25_ok ?_
  unfold F25
  simp only [i64, zI_int]
  refine (c_at M hw p C h b).mono ?_
  rintro y N ⟨rfl, hk⟩
  obtain ⟨x, d, e⟩ := atC_is C b
  rw [e]
  exact ⟨_, _, _, _, rfl, rfl, hk⟩

/-! ## A page -/

theorem isG_iff {g : Geo} {b k : Int} : isG g b k = true ↔ (0 ≤ b ∧ b ≤ g.bl - 1) ∧ 0 ≤ k ∧ k ≤ g.pg - 1 := by
  unfold isG inB
  simp only [Bool.and_eq_true, decide_eq_true_eq]

/-- A place that is there, in numbers. -/
theorem ChipAt.place {M : Mem} {p : Nat} {C : Chip} (h : ChipAt M p C) {b k : Int} (hp : isG C.g b k = true) :
    ∃ (i j : Nat) (hi : i < C.bs.length), b = (i : Int) ∧ k = (j : Int) ∧ j < C.g.pg.toNat ∧ C.g.pg.toNat ≤ 8 ∧ 40 ≤ rawN C.g ∧ rawN C.g ≤ 80 ∧ C.bs[i].by'.length = C.g.pg.toNat * rawN C.g ∧ (j + 1) * rawN C.g ≤ C.bs[i].by'.length ∧ C.bs[i].by'.length ≤ 640 := by
  obtain ⟨⟨h1, h2⟩, h3, h4⟩ := isG_iff.1 hp
  have hm := mayG_iff.1 h.may
  have hi : b.toNat < C.bs.length := by rw [h.len]; omega
  have hf := h.ful _ (List.getElem_mem hi)
  have hr : 40 ≤ rawN C.g ∧ rawN C.g ≤ 80 := by unfold rawN; omega
  have hpg : C.g.pg.toNat ≤ 8 := by omega
  have hj : k.toNat + 1 ≤ C.g.pg.toNat := by omega
  refine ⟨b.toNat, k.toNat, hi, by omega, by omega, by omega, hpg, hr.1, hr.2, hf, ?_, ?_⟩
  · rw [hf]; exact Nat.mul_le_mul_right _ hj
  · rw [hf]
    have : C.g.pg.toNat * rawN C.g ≤ 8 * 80 := Nat.mul_le_mul hpg hr.2
    omega

def pageB (B : Blk) (raw j : Nat) : List (BitVec 8) := (B.by'.drop (j * raw)).take raw

theorem c_page (M : Mem) (hw : M.WF) (p : Nat) (C : Chip) (h : ChipAt M p C) {i j : Nat} (hi : i < C.bs.length) (hp : isG C.g i j = true) :
    CallA tb.P 71 [.ptr p 0, placeA i j] M fun y N => y = .sl C.bs[i].b (j * rawN C.g) (rawN C.g) (C.bs[i].by'.length - j * rawN C.g) none ∧ Keep M N [] := by
  obtain ⟨i', j', hi', e1, e2, hj, hpg, hr1, hr2, hf, hle, hmax⟩ := h.place hp
  have e1 : i' = i := by omega
  have e2 : j' = j := by omega
  subst e1 e2
  refine F71_ok ?_
  unfold F71
  refine ⟨_, _, rfl, ?_⟩
  refine letP_i fun M3 hM3 => ?_
  have hM3' : M3 = M.new (.cells [i64 (i' : Int), i64 (j' : Int)] true) := hM3
  have hK : Keep M M3 [] := by rw [hM3']; exact Keep.new hw _
  have hpl : M3.get M.next = some (.cells [i64 (i' : Int), i64 (j' : Int)] true) := by rw [hM3']; exact get_new _ _
  clear hM3 hM3'
  have h1 := h.keep hw hK
  simp only [eNil_ptr, bindO_some, fa0, zP_ptr, ld_g h1]
  refine ⟨_, _, _, _, _, rfl, ?_⟩
  refine (c_raw _ hK.wf C.g h.may).mono ?_
  rintro y N ⟨rfl, hk⟩
  have h2 := h1.keep hK.wf hk
  obtain ⟨p0, p1, _⟩ := place_ld (hk.get hK.wf hpl (by simp))
  have hb1 : j' * rawN C.g ≤ 640 := by
    have : (j' + 1) * rawN C.g = j' * rawN C.g + rawN C.g := by rw [Nat.add_mul, Nat.one_mul]
    omega
  have m1 : iMul .i64 (j' : Int) (rawN C.g : Int) = ((j' * rawN C.g : Nat) : Int) := by
    rw [iMul, ← Int.natCast_mul, wrap_i64' (by omega) (by omega)]
  have m2 : iMul .i64 (iAdd .i64 (j' : Int) 1) (rawN C.g : Int) = (((j' + 1) * rawN C.g : Nat) : Int) := by
    rw [iInc (by omega), iMul, ← Int.natCast_mul, wrap_i64' (by omega) (by omega)]
  simp only [i64, zI_int, eNil_ptr, bindO_some, fa2, zP_ptr, ld_bs h2, eLd_some p0, eLd_some p1, ia_bs h2 hi, ld_by h2 hi, m1, m2]
  have hsl := slice_both (T := tb) ty33 ty5 (b := C.bs[i'].b) (o := 0) (n := C.bs[i'].by'.length) (c := C.bs[i'].by'.length) (l := j' * rawN C.g) (h := (j' + 1) * rawN C.g) (Nat.mul_le_mul_right _ (by omega)) hle (k1 := .i64) (k2 := .i64)
  have hd : (j' + 1) * rawN C.g - j' * rawN C.g = rawN C.g := by rw [Nat.add_mul, Nat.one_mul]; omega
  rw [AM.beq_false (show C.bs[i'].by'.length ≠ j' * rawN C.g by
    have : (j' + 1) * rawN C.g = j' * rawN C.g + rawN C.g := by rw [Nat.add_mul, Nat.one_mul]
    omega), cond_false, Nat.zero_add, hd] at hsl
  refine bindO_i (eSl_some hsl) ?_
  exact ⟨rfl, hK.trans0 hk⟩

/-- A page reads as its bytes. -/
theorem page_at {M : Mem} {p : Nat} {C : Chip} (h : ChipAt M p C) {i j : Nat} (hi : i < C.bs.length) (hp : isG C.g i j = true) :
    BytesAt M (.sl C.bs[i].b (j * rawN C.g) (rawN C.g) (C.bs[i].by'.length - j * rawN C.g) none) (pageB C.bs[i] (rawN C.g) j) ∧ (pageB C.bs[i] (rawN C.g) j).length = rawN C.g := by
  obtain ⟨i', j', hi', e1, e2, hj, hpg, hr1, hr2, hf, hle, hmax⟩ := h.place hp
  have e1 : i' = i := by omega
  have e2 : j' = j := by omega
  subst e1 e2
  have hs : (j' + 1) * rawN C.g = j' * rawN C.g + rawN C.g := by rw [Nat.add_mul, Nat.one_mul]
  have hl : (pageB C.bs[i'] (rawN C.g) j').length = rawN C.g := by
    unfold pageB
    rw [List.length_take, List.length_drop]; omega
  refine ⟨⟨by simp, .inr ⟨_, _, _, none, by rw [hl], ⟨by rw [hl]; omega, .inl rfl⟩, .inr ⟨_, _, h.dat _ (List.getElem_mem hi), by rw [hl, bvs_length]; omega, ?_⟩⟩⟩, hl⟩
  rw [hl, Nat.mul_one]
  unfold pageB bvs
  rw [List.map_take, List.map_drop]

/-! ## Read -/

def rdE (C : Chip) (b k : Int) : Int := if askd C b k = 0 then (if bgn C = true then 9 else 0) else askd C b k
def rdC (C : Chip) (b k : Int) : Chip := if askd C b k = 0 then bgC C else C
def rdB (C : Chip) (b k : Int) : List (BitVec 8) := if rdE C b k = 0 then (match C.bs[b.toNat]? with | some B => pageB B (rawN C.g) k.toNat | none => []) else []

theorem askd_zero {C : Chip} {b k : Int} (h : askd C b k = 0) : C.off = false ∧ isG C.g b k = true := by
  unfold askd at h
  split at h
  · omega
  · rename_i h1
    split at h
    · rename_i h2; exact ⟨by simpa using h1, h2⟩
    · omega

theorem bgC_bs (C : Chip) : (bgC C).bs = C.bs ∧ (bgC C).g = C.g ∧ (bgC C).fs = C.fs ∧ (bgC C).cby = C.cby ∧ (bgC C).cf = C.cf := by
  unfold bgC
  split <;> exact ⟨rfl, rfl, rfl, rfl, rfl⟩

theorem c_read (M : Mem) (hw : M.WF) (p : Nat) (C : Chip) (h : ChipAt M p C) (b k : Int) :
    CallA tb.P 21 [.ptr p 0, placeA b k] M fun y N => ∃ u, y = .tup [u, i64 (rdE C b k)] ∧ Gr N u (rdB C b k) ∧ (∀ c, inBlk u c → M.next ≤ c) ∧ Step M N p C (rdC C b k) := by
  refine F21_ok ?_
  unfold F21
  refine ⟨_, _, rfl, ?_⟩
  refine letP_i fun M3 hM3 => ?_
  have hM3' : M3 = M.new (.cells [i64 b, i64 k] true) := hM3
  have hK : Keep M M3 [] := by rw [hM3']; exact Keep.new hw _
  have hpl : M3.get M.next = some (.cells [i64 b, i64 k] true) := by rw [hM3']; exact get_new _ _
  clear hM3 hM3'
  have h1 := h.keep hw hK
  have hpn : M.next < M3.next := hK.wf _ _ hpl
  obtain ⟨_, _, l2⟩ := place_ld hpl
  refine bindO_i (eLd_some l2) ?_
  refine ⟨_, _, rfl, ?_⟩
  refine (c_asked _ hK.wf p C h1 b k).mono ?_
  rintro y N ⟨rfl, hk⟩
  have h2 := h1.keep hK.wf hk
  have hKN := hK.trans0 hk
  simp only [i64, zI_int]
  refine condB_i (fun q => ?_) (fun q => ?_)
  · have q : ¬ askd C b k = 0 := by simpa using q
    have e1 : rdE C b k = askd C b k := by unfold rdE; rw [if_neg q]
    refine ⟨.val (.slice none 0 0), by rw [e1], ?_, fun c hc => hc.elim, ?_⟩
    · unfold rdB
      rw [if_neg (by rw [e1]; exact q)]
      exact .inl ⟨rfl, rfl⟩
    · unfold rdC
      rw [if_neg q]
      exact Step.of0 hw h hKN
  have q : askd C b k = 0 := by simpa using q
  obtain ⟨hoff, hp⟩ := askd_zero q
  refine (c_begin N hk.wf p C h2).mono ?_
  rintro y N2 ⟨rfl, hs⟩
  simp only [zB_bool]
  refine condB_i (fun q2 => ?_) (fun q2 => ?_)
  · have e1 : rdE C b k = 9 := by unfold rdE; rw [if_pos q, if_pos q2]
    refine ⟨.val (.slice none 0 0), by rw [e1], ?_, fun c hc => hc.elim, ?_⟩
    · unfold rdB
      rw [if_neg (by rw [e1]; decide)]
      exact .inl ⟨rfl, rfl⟩
    · unfold rdC
      rw [if_pos q]
      exact hs.pre hKN
  have e1 : rdE C b k = 0 := by unfold rdE; rw [if_pos q, q2]; rfl
  have hplN : N2.get M.next = some (.cells [i64 b, i64 k] true) := hs.keep.get hk.wf (hk.get hK.wf hpl (by simp)) (fun hm => by
    -- the place lies apart
    have hlt : ∀ c ∈ foot p C, c < M.next := by
      intro c hc
      simp only [foot, List.mem_cons, List.mem_map] at hc
      rcases hc with rfl | rfl | ⟨B, hB, rfl⟩
      · exact hw _ _ h.main
      · exact hw _ _ h.tab
      · exact hw _ _ (h.dat B hB)
    have := hlt _ hm
    omega)
  obtain ⟨_, _, l3⟩ := place_ld hplN
  refine bindO_i (eLd_some l3) ?_
  refine ⟨_, _, rfl, ?_⟩
  have h3 := hs.at'
  obtain ⟨i, j, hi, rfl, rfl, _⟩ := h.place hp
  have hbb := bgC_bs C
  have hi3 : i < (bgC C).bs.length := by rw [hbb.1]; exact hi
  have hp3 : isG (bgC C).g i j = true := by rw [hbb.2.1]; exact hp
  refine (c_page N2 hs.wf p (bgC C) h3 hi3 hp3).mono ?_
  rintro y N3 ⟨rfl, hk3⟩
  have h4 := h3.keep hs.wf hk3
  obtain ⟨hpa, hpl⟩ := page_at h4 hi3 hp3
  have hm := mayG_iff.1 h4.may
  have hr : 40 ≤ rawN (bgC C).g ∧ rawN (bgC C).g ≤ 80 := by unfold rawN; omega
  refine (t_clone N3 hk3.wf _ _ hpa (by rw [hpl]; omega) (by rw [hpl]; omega)).mono ?_
  rintro y N4 ⟨hg, hk4, hfr⟩
  refine ⟨y, by rw [e1], ?_, fun c hc => Nat.le_trans hKN.nxt (Nat.le_trans hs.keep.nxt (Nat.le_trans hk3.nxt (hfr c hc))), ?_⟩
  · unfold rdB
    rw [if_pos e1, Int.toNat_natCast, Int.toNat_natCast, List.getElem?_eq_getElem hi]
    have : pageB (bgC C).bs[i] (rawN (bgC C).g) j = pageB C.bs[i] (rawN C.g) j := by simp only [hbb.1, hbb.2.1]
    rw [this] at hg
    exact hg
  · unfold rdC
    rw [if_pos q]
    exact (hs.pre hKN).post (hk3.trans0 hk4)

end Go.Proofs.Ytjffimbigamadaa

/- Program, Erase, Arm, Boot. -/
namespace Go.Proofs.Ytjffimbigamadaa
open Go.AM

theorem ChipAt.lt {M : Mem} {p : Nat} {C : Chip} (h : ChipAt M p C) (hw : M.WF) : ∀ c ∈ foot p C, c < M.next := by
  intro c hc
  simp only [foot, List.mem_cons, List.mem_map] at hc
  rcases hc with rfl | rfl | ⟨B, hB, rfl⟩
  · exact hw _ _ h.main
  · exact hw _ _ h.tab
  · exact hw _ _ (h.dat B hB)
theorem step_get {M N : Mem} {p : Nat} {C C' : Chip} (s : Step M N p C C') (hw : M.WF) {c : Nat} {r : Row} (hg : M.get c = some r) (hc : c ∉ foot p C) : N.get c = some r := s.keep.get hw hg hc

def Chip.upB (C : Chip) (i : Nat) (B : Blk) : Chip := { C with bs := C.bs.set i B }
theorem upB_len (C : Chip) (i : Nat) (B : Blk) : (C.upB i B).bs.length = C.bs.length := by simp [Chip.upB]
theorem upB_get {C : Chip} {i : Nat} {B : Blk} (h : i < (C.upB i B).bs.length) : (C.upB i B).bs[i] = B := by simp [Chip.upB]
theorem upB_upB (C : Chip) (i : Nat) (B B' : Blk) : (C.upB i B).upB i B' = C.upB i B' := by simp [Chip.upB]

section
variable {M : Mem} {p : Nat} {C : Chip} (h : ChipAt M p C) (hw : M.WF) {i : Nat} (hi : i < C.bs.length)
include h hw
theorem set_next (z : Int) : ∃ N, eSt tb 3 (.ptr C.bb (i * 4 + 1)) (.val (.int .i64 z)) M = some (undefA, N) ∧ Step M N p C (C.upB i { C.bs[i] with next := z }) :=
  ⟨_, st_blk h hi (z := z) { C.bs[i] with next := z } (j := 1) (by omega) rfl, h.setB hw hi _ rfl rfl⟩
theorem set_done (z : Int) : ∃ N, eSt tb 3 (.ptr C.bb (i * 4 + 3)) (.val (.int .i64 z)) M = some (undefA, N) ∧ Step M N p C (C.upB i { C.bs[i] with done := z }) :=
  ⟨_, st_blk h hi (z := z) { C.bs[i] with done := z } (j := 3) (by omega) rfl, h.setB hw hi _ rfl rfl⟩
end

/-! ## Bytes written over -/

def over (l : List (BitVec 8)) (o : Nat) (m : List (BitVec 8)) : List (BitVec 8) := l.take o ++ m ++ l.drop (o + m.length)
theorem over_length {l : List (BitVec 8)} {o : Nat} {m : List (BitVec 8)} (h : o + m.length ≤ l.length) : (over l o m).length = l.length := by
  unfold over
  simp only [List.length_append, List.length_take, List.length_drop]; omega
theorem over_nil' (l : List (BitVec 8)) (o : Nat) : over l o [] = l := by simp [over]
theorem setAt_bvs {l : List (BitVec 8)} {o : Nat} {m : List (BitVec 8)} (h : o + m.length ≤ l.length) : setAt (bvs l) o (bvs m) = bvs (over l o m) := by
  have h1 : bvs l = bvs (l.take o) ++ bvs ((l.drop o).take m.length) ++ bvs (l.drop (o + m.length)) := by
    rw [← bvs_append, ← bvs_append]
    congr 1
    conv => lhs; rw [← List.take_append_drop o l, ← List.take_append_drop m.length (l.drop o)]
    rw [List.drop_drop, List.append_assoc]
  have h2 := setAt_mid (bvs m) (bvs (l.take o)) (bvs (l.drop (o + m.length))) (bvs ((l.drop o).take m.length)) (by simp; omega)
  rw [bvs_length, List.length_take, Nat.min_eq_left (by omega)] at h2
  rw [h1, h2]
  unfold over
  rw [bvs_append, bvs_append]

/-- A copy onto a page. -/
theorem copy_page {M : Mem} {p : Nat} {C : Chip} (h : ChipAt M p C) (hw : M.WF) {i j : Nat} (hi : i < C.bs.length) (hp : isG C.g i j = true) {x : AV} {m : List (BitVec 8)} (hx : BytesAt M x m) (hm : m.length ≤ rawN C.g) :
    ∃ N, evCopy tb 33 (.sl C.bs[i].b (j * rawN C.g) (rawN C.g) (C.bs[i].by'.length - j * rawN C.g) none) x M = some (i64 (m.length : Int), N) ∧
      Step M N p C (C.upB i { C.bs[i] with by' := over C.bs[i].by' (j * rawN C.g) m }) := by
  obtain ⟨i', j', hi', e1, e2, hj, hpg, hr1, hr2, hf, hle, hmax⟩ := h.place hp
  have e1 : i' = i := by omega
  have e2 : j' = j := by omega
  subst e1 e2
  have hs : (j' + 1) * rawN C.g = j' * rawN C.g + rawN C.g := by rw [Nat.add_mul, Nat.one_mul]
  have hfit : j' * rawN C.g + m.length ≤ C.bs[i'].by'.length := by omega
  have hmin : Nat.min m.length (rawN C.g) = m.length := Nat.min_eq_left hm
  unfold evCopy
  rw [ty33]
  simp only [ty5]
  have he1 : evLen (.sl C.bs[i'].b (j' * rawN C.g) (rawN C.g) (C.bs[i'].by'.length - j' * rawN C.g) none) = some (rawN C.g) := rfl
  rw [he1, SlAt.evLen hx]
  simp only [hmin, SlAt.evFirst hx]
  by_cases h0 : m.length = 0
  · have hnil : m = [] := List.eq_nil_of_length_eq_zero h0
    subst hnil
    refine ⟨M, rfl, ?_⟩
    have : C.upB i' { C.bs[i'] with by' := over C.bs[i'].by' (j' * rawN C.g) [] } = C := by
      rw [over_nil']
      unfold Chip.upB
      rw [show ({ C.bs[i'] with by' := C.bs[i'].by' } : Blk) = C.bs[i'] from rfl, List.set_getElem_self]
    rw [this]
    exact Step.refl hw h
  · have hb : Nat.beq m.length 0 = false := AM.beq_ne h0
    rw [hb, cond_false]
    have hst : M.storeAt C.bs[i'].b (j' * rawN C.g) (bvs m) = some (M.put C.bs[i'].b (.cells (bvs (over C.bs[i'].by' (j' * rawN C.g) m)) true)) := by
      unfold Mem.storeAt
      rw [h.dat _ (List.getElem_mem hi)]
      simp only [bvs_length, AM.ble_of hfit, cond_true, ones_of (bvs_one m), setAt_bvs hfit]
    rw [hst]
    exact ⟨_, rfl, h.setD hw hi _ (over_length hfit)⟩

/-! ## Program -/

def pgS (C : Chip) (cut : Bool) (i j : Nat) (d : List (BitVec 8)) : Chip × Int :=
  match C.bs[i]? with
  | none => (C, 0)
  | some B =>
    if failsF C.fs i B.done = true then (C, 10)
    else if (j : Int) ≠ B.next then (C, 11)
    else if cut = true then (C.upB i { B with by' := over B.by' (j * rawN C.g) (d.take (min C.cby.toNat d.length)), next := iAdd .i64 B.next 1 }, 0)
    else (C.upB i { B with by' := over B.by' (j * rawN C.g) d, next := iAdd .i64 B.next 1, done := iAdd .i64 B.done 1 }, 0)
def pgR (C : Chip) (b k : Int) (d : List (BitVec 8)) : Chip × Int :=
  if askd C b k = 0 then
    (if d.length = rawN C.g then ((pgS (bgC C) (bgn C) b.toNat k.toNat d).1, if bgn C = true then 9 else (pgS (bgC C) (bgn C) b.toNat k.toNat d).2) else (C, 2))
  else (C, askd C b k)

theorem c_program (M : Mem) (hw : M.WF) (p : Nat) (C : Chip) (h : ChipAt M p C) (b k : Int) (x : AV) (d : List (BitVec 8)) (hx : BytesAt M x d) (hd : d.length ≤ 9223372036854775807) (hxf : ∀ c, inBlk x c → c ∉ foot p C) :
    CallA tb.P 19 [.ptr p 0, placeA b k, x] M fun y N => y = i64 (pgR C b k d).2 ∧ Step M N p C (pgR C b k d).1 := by
  refine F19_ok ?_
  unfold F19
  refine ⟨_, _, rfl, ?_⟩
  refine letP_i fun M3 hM3 => ?_
  have hM3' : M3 = M.new (.cells [i64 b, i64 k] true) := hM3
  have hK : Keep M M3 [] := by rw [hM3']; exact Keep.new hw _
  have hpl : M3.get M.next = some (.cells [i64 b, i64 k] true) := by rw [hM3']; exact get_new _ _
  clear hM3 hM3'
  have h1 := h.keep hw hK
  have hpn : M.next ∉ foot p C := fun hm => by have := h.lt hw _ hm; omega
  obtain ⟨_, _, l2⟩ := place_ld hpl
  refine bindO_i (eLd_some l2) ?_
  refine ⟨_, _, rfl, ?_⟩
  refine (c_asked _ hK.wf p C h1 b k).mono ?_
  rintro y M8 ⟨rfl, hk8⟩
  have h8 := h1.keep hK.wf hk8
  have hK8 := hK.trans0 hk8
  simp only [i64, zI_int]
  refine condB_i (fun q => ?_) (fun q => ?_)
  · have q : ¬ askd C b k = 0 := by simpa using q
    unfold pgR
    rw [if_neg q]
    exact ⟨rfl, Step.of0 hw h hK8⟩
  have q : askd C b k = 0 := by simpa using q
  have hpg := (askd_zero q).2
  have hx8 : BytesAt M8 x d := SlAt.keep0 hx hw hK8
  refine bindO_i (eLen_some hx8.len) ?_
  simp only [zI_int, eNil_ptr, bindO_some, fa0, zP_ptr, ld_g h8]
  refine ⟨_, _, _, _, _, rfl, ?_⟩
  refine (c_raw _ hk8.wf C.g h.may).mono ?_
  rintro y M23 ⟨rfl, hk23⟩
  have h23 := h8.keep hk8.wf hk23
  have hK23 := hK8.trans0 hk23
  simp only [i64, zI_int]
  refine condB_i (fun q2 => ?_) (fun q2 => ?_)
  · have q2 : ¬ d.length = rawN C.g := fun e => by rw [e] at q2; simp at q2
    unfold pgR
    rw [if_pos q, if_neg q2]
    exact ⟨rfl, Step.of0 hw h hK23⟩
  have q2 : d.length = rawN C.g := by
    have : (d.length : Int) = rawN C.g := by simpa using q2
    omega
  unfold pgR
  rw [if_pos q, if_pos q2]
  obtain ⟨i, j, hi, rfl, rfl, hj, hpg8, hr1, hr2, hf, hle, hmax⟩ := h.place hpg
  simp only [Int.toNat_natCast]
  have hplN : M23.get M.next = some (.cells [i64 (i : Int), i64 (j : Int)] true) := (hk8.trans0 hk23).get hK.wf hpl (by simp)
  obtain ⟨a0, _, _⟩ := place_ld hplN
  simp only [eNil_ptr, bindO_some, fa2, zP_ptr, ld_bs h23, eLd_some a0, i64, zI_int, ia_bs h23 hi]
  refine (c_begin M23 hk23.wf p C h23).mono ?_
  rintro y M36 ⟨rfl, hs⟩
  simp only [zB_bool]
  have hbb := bgC_bs C
  have hft : foot p (bgC C) = foot p C := hs.foot
  have hS36 := hs.pre hK23
  have h36 := hs.at'
  have hpl36 := step_get hs hk23.wf hplN hpn
  generalize hC1 : bgC C = C1 at *
  have hi1 : i < C1.bs.length := by rw [hbb.1]; exact hi
  have hp1 : isG C1.g i j = true := by rw [hbb.2.1]; exact hpg
  have hrw : rawN C1.g = rawN C.g := by rw [hbb.2.1]
  have hx36 : BytesAt M36 x d := SlAt.keep hx hw hS36.keep hxf
  have hbbe : C1.bb = C.bb := by rw [← hC1]; unfold bgC; split <;> rfl
  generalize bgn C = cut at *
  refine letP_i fun K hK85 => ?_
  have kk : ∀ (z : Int) (N : Mem) (C2 : Chip), pgS C1 cut i j d = (C2, z) → Step M36 N p C1 C2 → K z N := by
    intro z N C2 e s
    rw [hK85, e]
    refine condB_i (fun hc => ⟨by rw [hc]; rfl, hS36.trans s⟩) (fun hc => ⟨by rw [hc]; rfl, hS36.trans s⟩)
  obtain ⟨b0, _, _⟩ := place_ld hpl36
  refine bindO_i (eLd_some b0) ?_
  simp only [i64, zI_int]
  refine (c_failed M36 hs.wf p C1 h36 (i : Int)).mono ?_
  rintro y M41 ⟨rfl, hk41⟩
  have h41 := h36.keep hs.wf hk41
  have hs41 := Step.of0 hs.wf h36 hk41
  have hfl : failed C1 (i : Int) = failsF C1.fs i C1.bs[i].done := by
    unfold failed
    rw [Int.toNat_natCast, List.getElem?_eq_getElem hi1, decide_eq_true (by omega), Bool.true_and]
  have hpgS : ∀ r, (if failsF C1.fs i C1.bs[i].done = true then (C1, 10)
      else if (j : Int) ≠ C1.bs[i].next then (C1, 11)
      else if cut = true then (C1.upB i { C1.bs[i] with by' := over C1.bs[i].by' (j * rawN C1.g) (d.take (min C1.cby.toNat d.length)), next := iAdd .i64 C1.bs[i].next 1 }, 0)
      else (C1.upB i { C1.bs[i] with by' := over C1.bs[i].by' (j * rawN C1.g) d, next := iAdd .i64 C1.bs[i].next 1, done := iAdd .i64 C1.bs[i].done 1 }, (0 : Int))) = r → pgS C1 cut i j d = r := fun r hr => by
    unfold pgS
    rw [List.getElem?_eq_getElem hi1]
    exact hr
  simp only [zB_bool]
  rw [hfl]
  refine condB_i (fun q3 => kk 10 M41 C1 (hpgS _ (by rw [if_pos q3])) hs41) (fun q3 => ?_)
  have q3' : ¬ failsF C1.fs i C1.bs[i].done = true := by rw [q3]; simp
  have hpl41 := hk41.get hs.wf hpl36 (by simp)
  obtain ⟨_, c1, c2⟩ := place_ld hpl41
  have hnx := ld_next h41 hi1
  rw [hbbe] at hnx
  simp only [eLd_some c1, bindO_some, i64, zI_int, hnx]
  refine condB_i (fun q4 => kk 11 M41 C1 (hpgS _ (by rw [if_neg q3', if_pos (by simpa using q4)])) hs41) (fun q4 => ?_)
  have q4 : ¬ (j : Int) ≠ C1.bs[i].next := by simpa using q4
  have hx41 : BytesAt M41 x d := SlAt.keep0 hx36 hs.wf hk41
  refine condB_i (fun hc => ?_) (fun hc => ?_)
  · -- the cut
    have hcb := ld_cby h41
    simp only [eNil_ptr, bindO_some, fa6, zP_ptr, eLd_some c2]
    refine ⟨_, _, rfl, ?_⟩
    simp only [Nat.reduceAdd, hcb, bindO_some, i64, zI_int]
    refine bindO_i (eLen_some hx41.len) ?_
    simp only [zI_int]
    have hcby := h41.cby0
    have hmin : eMin tb #[3, 3] 3 [.int .i64 C1.cby, .int .i64 (d.length : Int)] M41 = some (.val (.int .i64 ((min C1.cby.toNat d.length : Nat) : Int)), M41) := by
      have : eMin tb #[3, 3] 3 [.int .i64 C1.cby, .int .i64 (d.length : Int)] M41 = some (.val (.int .i64 (if (d.length : Int) < C1.cby then (d.length : Int) else C1.cby)), M41) := rfl
      rw [this]
      congr 4
      split <;> omega
    refine bindO_i hmin ?_
    simp only [zI_int]
    obtain ⟨y60, hsl, hy60⟩ := hx41.slice (lo := none) (hi := some (.val (.int .i64 ((min C1.cby.toNat d.length : Nat) : Int)))) (a := 0) (r := min C1.cby.toNat d.length) (.inl ⟨rfl, rfl⟩) (.inr rfl) (by omega) (by omega)
    rw [List.drop_zero] at hy60
    refine bindO_i (eSl_some hsl) ?_
    refine (c_page M41 hk41.wf p C1 h41 hi1 hp1).mono ?_
    rintro y M62 ⟨rfl, hk62⟩
    have h62 := h41.keep hk41.wf hk62
    have hx62 : BytesAt M62 x d := SlAt.keep0 hx41 hk41.wf hk62
    refine ⟨bindO_i (ld_cby h62) rfl, bindO_i (eLen_some hx62.len) rfl, ?_⟩
    have hy62 : BytesAt M62 y60 (d.take (min C1.cby.toNat d.length)) := SlAt.keep0 hy60 hk41.wf hk62
    obtain ⟨N, hcp, hsN⟩ := copy_page h62 hk62.wf hi1 hp1 hy62 (by rw [List.length_take]; omega)
    refine bindO_i hcp ?_
    simp only [i64, zI_int]
    have hiN : i < (C1.upB i { C1.bs[i] with by' := over C1.bs[i].by' (j * rawN C1.g) (d.take (min C1.cby.toNat d.length)) }).bs.length := by rw [upB_len]; exact hi1
    have hn1 := ld_next hsN.at' hiN
    rw [upB_get] at hn1
    have hbN : (C1.upB i { C1.bs[i] with by' := over C1.bs[i].by' (j * rawN C1.g) (d.take (min C1.cby.toNat d.length)) }).bb = C.bb := hbbe
    rw [hbN] at hn1
    simp only [hn1, bindO_some, i64, zI_int]
    obtain ⟨N2, hst, hs2⟩ := set_next hsN.at' hsN.wf hiN (iAdd .i64 C1.bs[i].next 1)
    rw [hbN] at hst
    refine bindO_i hst ?_
    rw [upB_upB] at hs2
    simp only [upB_get] at hs2
    refine kk 0 N2 _ (hpgS _ (by rw [if_neg q3', if_neg q4, if_pos hc])) (hs41.trans (Step.pre hk62 (hsN.trans hs2)))
  · have hc' : ¬ cut = true := by rw [hc]; simp
    simp only [eLd_some c2, bindO_some]
    refine ⟨_, _, rfl, ?_⟩
    refine (c_page M41 hk41.wf p C1 h41 hi1 hp1).mono ?_
    rintro y M74 ⟨rfl, hk74⟩
    have h74 := h41.keep hk41.wf hk74
    have hx74 : BytesAt M74 x d := SlAt.keep0 hx41 hk41.wf hk74
    obtain ⟨N, hcp, hsN⟩ := copy_page h74 hk74.wf hi1 hp1 hx74 (by rw [q2, hrw]; exact Nat.le_refl _)
    refine bindO_i hcp ?_
    simp only [i64, zI_int]
    have hiN : i < (C1.upB i { C1.bs[i] with by' := over C1.bs[i].by' (j * rawN C1.g) d }).bs.length := by rw [upB_len]; exact hi1
    have hn1 := ld_next hsN.at' hiN
    rw [upB_get] at hn1
    have hbN : (C1.upB i { C1.bs[i] with by' := over C1.bs[i].by' (j * rawN C1.g) d }).bb = C.bb := hbbe
    rw [hbN] at hn1
    simp only [hn1, bindO_some, i64, zI_int]
    obtain ⟨N2, hst, hs2⟩ := set_next hsN.at' hsN.wf hiN (iAdd .i64 C1.bs[i].next 1)
    rw [hbN] at hst
    refine bindO_i hst ?_
    rw [upB_upB] at hs2
    simp only [upB_get] at hs2
    have hi2 : i < (C1.upB i { C1.bs[i] with by' := over C1.bs[i].by' (j * rawN C1.g) d, next := iAdd .i64 C1.bs[i].next 1 }).bs.length := by rw [upB_len]; exact hi1
    have hd1 := ld_done hs2.at' hi2
    rw [upB_get] at hd1
    have hb2 : (C1.upB i { C1.bs[i] with by' := over C1.bs[i].by' (j * rawN C1.g) d, next := iAdd .i64 C1.bs[i].next 1 }).bb = C.bb := hbbe
    rw [hb2] at hd1
    simp only [hd1, bindO_some, i64, zI_int]
    obtain ⟨N3, hst3, hs3⟩ := set_done hs2.at' hs2.wf hi2 (iAdd .i64 C1.bs[i].done 1)
    rw [hb2] at hst3
    refine bindO_i hst3 ?_
    rw [upB_upB] at hs3
    simp only [upB_get] at hs3
    refine kk 0 N3 _ (hpgS _ (by rw [if_neg q3', if_neg q4, if_neg hc'])) (hs41.trans (Step.pre hk74 (hsN.trans (hs2.trans hs3))))

end Go.Proofs.Ytjffimbigamadaa

/- Erase, Arm, Boot. -/
namespace Go.Proofs.Ytjffimbigamadaa
open Go.AM
/-! ## Arm, Boot -/

def cutA (op by' : Int) (f : BitVec 8) : AV := .agg [i64 op, i64 by', bv8 f]
def armR (C : Chip) (op by' : Int) (f : BitVec 8) : Chip × Int :=
  if C.off = true then (C, 9)
  else if op < 1 ∨ op > 1073741824 ∨ by' < 0 ∨ by' > 1073741824 then (C, 2)
  else ({ C with cop := op, cby := by', cf := f, turn := iAdd .i64 C.ops op }, 0)

theorem c_arm (M : Mem) (hw : M.WF) (p : Nat) (C : Chip) (h : ChipAt M p C) (op by' : Int) (f : BitVec 8) :
    CallA tb.P 26 [.ptr p 0, cutA op by' f] M fun y N => y = i64 (armR C op by' f).2 ∧ Step M N p C (armR C op by' f).1 := by
  refine F26_ok ?_
  unfold F26
  refine ⟨_, _, _, rfl, ?_⟩
  refine letP_i fun M4 hM4 => ?_
  have hM4' : M4 = M.new (.cells [i64 op, i64 by', bv8 f] true) := hM4
  have hK : Keep M M4 [] := by rw [hM4']; exact Keep.new hw _
  have hbx : M4.get M.next = some (.cells [i64 op, i64 by', bv8 f] true) := by rw [hM4']; exact get_new _ _
  clear hM4 hM4'
  have h1 := h.keep hw hK
  have s0 := Step.of0 hw h hK
  have hpn : M.next ∉ foot p C := fun hm => by have := h.lt hw _ hm; omega
  have k0 : eLd tb 3 (.ptr M.next 0) M4 = some (i64 op, M4) := eLd_some (ld_cell ty3 rfl hbx rfl)
  have k1 : eLd tb 3 (.ptr M.next 1) M4 = some (i64 by', M4) := eLd_some (ld_cell ty3 rfl hbx rfl)
  have kA : eLd tb 42 (.ptr M.next 0) M4 = some (cutA op by' f, M4) := eLd_some (ld_agg (n := 3) ty42 rfl rfl hbx (by simp))
  simp only [nil_eq, bindO_some, zB_bool, condB_false, eNil_ptr, fa3, zP_ptr, ld_off h1]
  unfold armR
  refine condB_i (fun q => ⟨by rw [if_pos q]; rfl, by rw [if_pos q]; exact s0⟩) (fun q => ?_)
  rw [if_neg (by rw [q]; simp)]
  refine letP_i fun K hKK => ?_
  have bad : (op < 1 ∨ op > 1073741824 ∨ by' < 0 ∨ by' > 1073741824) → K true := fun hb => by
    rw [hKK]
    simp only [condB_true]
    rw [if_pos hb]
    exact ⟨rfl, s0⟩
  have good : ¬ (op < 1 ∨ op > 1073741824 ∨ by' < 0 ∨ by' > 1073741824) → K false := fun hb => by
    rw [hKK]
    simp only [condB_false]
    rw [if_neg hb]
    simp only [eNil_ptr, bindO_some, fa4, zP_ptr, kA]
    refine ⟨_, _, _, rfl, ?_⟩
    simp only [ld_ops h1, bindO_some, i64, zI_int, eNil_ptr, fa6, zP_ptr]
    simp only [i64] at k0
    simp only [k0, bindO_some, zI_int]
    have hset : setAt (chipC C) 10 [i64 op, i64 by', bv8 f] = chipC { C with cop := op, cby := by', cf := f } := rfl
    have hst : evStore tb 42 (.ptr p 10) (cutA op by' f) M4 = some (M4.put p (.cells (chipC { C with cop := op, cby := by', cf := f }) true)) := by
      have := st_any (T := tb) (x := cutA op by' f) (n := 3) (o := 10) ty42 rfl rfl h1.main (by simp [chipC]) (by intro v hv; simp only [cutA, AV.cells, List.mem_cons, List.not_mem_nil, or_false] at hv; rcases hv with rfl | rfl | rfl <;> rfl)
      rw [this]; rfl
    have s1 := h1.set hK.wf { C with cop := op, cby := by', cf := f } rfl rfl rfl rfl rfl (by show 0 ≤ by'; omega)
    refine bindO_i (eSt_some hst) ?_
    have hbx2 := step_get s1 hK.wf hbx hpn
    generalize M4.put p (.cells (chipC { C with cop := op, cby := by', cf := f }) true) = N1 at *
    refine ⟨bindO_i (eLd_some (ld_cell ty3 rfl hbx2 rfl)) rfl, ?_⟩
    simp only [eNil_ptr, bindO_some, fa7, zP_ptr]
    have h2 := s1.at'
    have s2 := h2.set s1.wf { C with cop := op, cby := by', cf := f, turn := iAdd .i64 C.ops op } rfl rfl rfl rfl rfl h2.cby0
    have t2 := st_chip h2 { C with cop := op, cby := by', cf := f, turn := iAdd .i64 C.ops op } (o := 13) (v := i64 (iAdd .i64 C.ops op)) ty3 rfl rfl (by omega) rfl
    refine bindO_i t2 ?_
    exact ⟨by trivial, s0.trans (s1.trans s2)⟩
  simp only [i64] at k0 k1
  simp only [k0, k1, bindO_some, zI_int]
  refine condB_i (fun q => bad (.inl (by simpa using q))) (fun q1 => ?_)
  refine condB_i (fun q => bad (.inr (.inl (by simpa using q)))) (fun q2 => ?_)
  refine condB_i (fun q => bad (.inr (.inr (.inl (by simpa using q))))) (fun q3 => ?_)
  have q1 : ¬ op < 1 := by simpa using q1
  have q2 : ¬ op > 1073741824 := by simpa using q2
  have q3 : ¬ by' < 0 := by simpa using q3
  by_cases q4 : by' > 1073741824
  · rw [decide_eq_true q4]; exact bad (.inr (.inr (.inr q4)))
  · rw [decide_eq_false q4]; exact good (by omega)

end Go.Proofs.Ytjffimbigamadaa

/- What New calls: Clone, Mul, Repeat; bytes. -/
namespace Go.Proofs.Ytjffimbigamadaa
open Go.AM

/-! ## Clone -/

theorem nil_nil54 (M : Mem) : eBin tb .eql 54 (.tmp 3) (.const (.slice none 0 0)) (.val (.slice none 0 0)) (.val (.slice none 0 0)) M = some (.val (.bool true), M) := eBin_some (by kernel_rfl)
theorem nil_sl54 (M : Mem) (b o n c : Nat) (ex : Option Nat) : eBin tb .eql 54 (.tmp 3) (.const (.slice none 0 0)) (.sl b o n c ex) (.val (.slice none 0 0)) M = some (.val (.bool false), M) := by
  refine eBin_some ?_
  show (eqRes .eql (addrEq tb 54 (.sl b o n c ex) (.val (.slice none 0 0)))) = _
  unfold addrEq
  rw [ty54]
  rfl

theorem c_cloneF (M : Mem) (hw : M.WF) (x : AV) (fs : List Flt) (hx : FltsAt M x fs) (hl : fs.length ≤ 1000) :
    CallA tb.P 63 [x] M fun y N => FltsAt N y fs ∧ Keep M N [] ∧ (∀ c, inBlk y c → M.next ≤ c) ∧ (y = .val (.slice none 0 0) ∨ ∃ b o n c ex, y = .sl b o n c ex) := by
  refine F63_ok ?_
  unfold F63
  rcases hx.2 with ⟨rfl, h0⟩ | ⟨b, o, cp, ex, rfl, _⟩
  · rw [nil_nil54, bindO_some]
    simp only [zB_bool, condB_true]
    exact ⟨hx, Keep.refl hw, fun c h => h.elim, .inl (by trivial)⟩
  refine bindO_i (nil_sl54 _ _ _ _ _ _) ?_
  simp only [zB_bool, condB_false]
  refine letP_i fun M3 hM3 => ?_
  subst hM3
  have hw3 := hw.new (.cells [] true)
  have hx3 : FltsAt (M.new (.cells [] true)) (.sl b o fs.length cp ex) fs := SlAt.keep0 hx hw (Keep.new hw _)
  by_cases h0 : fs.length = 0
  · have hnil : fs = [] := List.eq_nil_of_length_eq_zero h0
    subst hnil
    have hs : SlAt 3 (M.new (.cells [] true)) (.sl M.next 0 0 0 none) 0 [] := ⟨rfl, .inr ⟨_, _, _, _, rfl, ⟨by omega, .inl rfl⟩, .inl rfl⟩⟩
    refine bindO_i (append_zero (T := tb) (k := 3) ty54 rfl ty53 rfl hs hx3) ?_
    exact ⟨hs, Keep.new hw _, fun c hc => by exact absurd rfl hc.1, .inr ⟨_, _, _, _, _, rfl⟩⟩
  · have hfl : (fs.flatMap fltC).length = fs.length * 3 := flat_length fltC_len fs
    have hap : evAppend tb 54 54 (.sl M.next 0 0 0 none) (.sl b o fs.length cp ex) (M.new (.cells [] true)) = some (.sl (M.next + 1) 0 fs.length fs.length (some 3), (M.new (.cells [] true)).new (.cells (fs.flatMap fltC) true)) := by
      unfold evAppend isInt
      rw [ty54]
      simp only [ty53, SlAt.evLen hx3, SlAt.evFirst hx3, hfl, AM.beq_self, cond_true, Nat.zero_add, ble_not (show ¬ fs.length ≤ 0 by omega), cond_false]
      unfold evGrow roomy
      simp only [Nat.zero_add, ble_of (show (3 * fs.length + 4096) * 24 ≤ 281474976710656 by omega), ble_of (show fs.length ≤ 1152921504606846976 by omega), cond_true]
      rfl
    refine bindO_i hap ?_
    refine ⟨⟨hfl, .inr ⟨_, _, _, _, rfl, ⟨Nat.le_refl _, .inr rfl⟩, .inr ⟨fs.flatMap fltC, true, get_new (M.new (.cells [] true)) _, by omega, by rw [List.drop_zero, List.take_of_length_le (by omega)]⟩⟩⟩, (Keep.new hw _).trans0 (Keep.new hw3 _), fun c hc => by have := hc.2; omega, .inr ⟨_, _, _, _, _, rfl⟩⟩

/-! ## Mul, Repeat -/

theorem mul_fin : ∀ n : Fin 1000, (iAdd .u64 (iAdd .u64 (iMul .u64 (iShr .u64 1 32) (iShr .u64 (n.val : Int) 32)) (iShr .u64 (iAdd .u64 (iMul .u64 (iShr .u64 1 32) (iAnd .u64 (n.val : Int) 4294967295)) (iShr .u64 (iMul .u64 (iAnd .u64 1 4294967295) (iAnd .u64 (n.val : Int) 4294967295)) 32)) 32)) (iShr .u64 (iAdd .u64 (iAnd .u64 (iAdd .u64 (iMul .u64 (iShr .u64 1 32) (iAnd .u64 (n.val : Int) 4294967295)) (iShr .u64 (iMul .u64 (iAnd .u64 1 4294967295) (iAnd .u64 (n.val : Int) 4294967295)) 32)) 4294967295) (iMul .u64 (iAnd .u64 1 4294967295) (iShr .u64 (n.val : Int) 32))) 32)) = 0 ∧ iMul .u64 1 (n.val : Int) = n.val := by decide +kernel

theorem c_mul (M : Mem) (n : Nat) (hn : n < 1000) : CallA tb.P 109 [.val (.int .u64 1), .val (.int .u64 (n : Int))] M fun y N => y = .tup [.val (.int .u64 0), .val (.int .u64 (n : Int))] ∧ N = M := by
  refine F109_ok ?_
  unfold F109
  simp only [zI_int]
  have h126 : CallA tb.P 126 [.val (.int .u64 1), .val (.int .u64 (n : Int))] M fun y N => y = .tup [.val (.int .u64 0), .val (.int .u64 (n : Int))] ∧ N = M := by
    refine F126_ok ?_
    unfold F126
    simp only [zI_int]
    obtain ⟨h1, h2⟩ := mul_fin ⟨n, hn⟩
    simp only at h1 h2
    exact ⟨by rw [h1, h2], by trivial⟩
  refine h126.mono ?_
  rintro y N ⟨rfl, rfl⟩
  exact ⟨_, _, rfl, rfl, rfl⟩

/-- The beginning of a slice. -/
theorem first_some {M : Mem} {b o n c m : Nat} {ex : Option Nat} {cs : List AV} {rw' : Bool} (hg : M.get b = some (.cells cs rw')) (hm : m ≤ n) (h0 : m ≠ 0) (hle : o + m ≤ cs.length) : evFirst 1 m (.sl b o n c ex) M = some ((cs.drop o).take m) := by
  unfold evFirst
  simp only [ble_of hm, cond_true, AM.beq_ne h0, cond_false]
  unfold Mem.cellsAt
  rw [hg]
  simp only [Nat.mul_one, ble_of hle, cond_true]

theorem c_repeat (M : Mem) (hw : M.WF) (x : AV) (v : BitVec 8) (hx : BytesAt M x [v]) (n : Nat) (h1 : 1 ≤ n) (hn : n < 1000) :
    CallA tb.P 64 [x, i64 (n : Int)] M fun y N => y = .sl M.next 0 n n none ∧ N = M.new (.cells (bvs (List.replicate n v)) true) := by
  refine F64_ok ?_
  unfold F64
  simp only [i64, zI_int]
  refine condB_i (fun h => by exfalso; simp at h; omega) (fun _ => ?_)
  refine bindO_i (eLen_some hx.len) ?_
  simp only [zI_int]
  have w1 : IntKind.wrap .u64 (([v].length : Nat) : Int) = 1 := rfl
  have w2 : IntKind.wrap .u64 (n : Int) = (n : Int) := by rw [wrap_u64]; omega
  rw [w1, w2]
  refine (c_mul M n hn).mono ?_
  rintro y N ⟨rfl, rfl⟩
  refine ⟨_, _, rfl, ?_⟩
  refine letP_i fun K hK => ?_
  refine condB_i (fun h => by simp at h) (fun _ => ?_)
  rw [show decide ((n : Int) > 9223372036854775807) = false by rw [decide_eq_false_iff_not]; omega, hK]
  simp only [condB_false]
  have w3 : IntKind.wrap .i64 (n : Int) = (n : Int) := wrap_i64' (by omega) (by omega)
  rw [w3]
  have hmk := make_sl (T := tb) (M := N) ty33 rfl ty5 (l := n) (c := n) (by omega) (by simp only; omega) (by omega) (k1 := .i64) (k2 := .i64)
  simp only [ofVs, ofV, repA_one'] at hmk
  have hz : List.replicate n (AV.val (.int .u8 0)) = bvs (List.replicate n 0#8) := by simp [bvs, bv8]
  rw [hz] at hmk
  refine bindO_i hmk ?_
  have hx1 : BytesAt (N.new (.cells (bvs (List.replicate n 0#8)) true)) x [v] := SlAt.keep0 hx hw (Keep.new hw _)
  have hcp : evCopy tb 33 (.sl N.next 0 n n none) x (N.new (.cells (bvs (List.replicate n 0#8)) true)) = some (.val (.int .i64 1), N.new (.cells (bvs (List.replicate 1 v ++ List.replicate (n - 1) 0#8)) true)) := by
    unfold evCopy
    rw [ty33]
    simp only [ty5]
    have he1 : evLen (.sl N.next 0 n n none) = some n := rfl
    have hm : Nat.min [v].length n = [v].length := Nat.min_eq_left h1
    rw [he1, SlAt.evLen hx1]
    simp only [hm, SlAt.evFirst hx1]
    have hst : (N.new (.cells (bvs (List.replicate n 0#8)) true)).storeAt N.next 0 (bvs [v]) = some (N.new (.cells (bvs (List.replicate 1 v ++ List.replicate (n - 1) 0#8)) true)) := by
      unfold Mem.storeAt
      rw [Mem.get_new, if_pos rfl]
      simp only [bvs_length, List.length_replicate, List.length_cons, List.length_nil, ble_of (show 0 + (0 + 1) ≤ n by omega), cond_true, ones_of (bvs_one [v]), setAt_bvs (show 0 + [v].length ≤ (List.replicate n 0#8).length by simp; omega), Mem.new_put]
      unfold over
      simp
    rw [hst]
    rfl
  refine bindO_i hcp ?_
  simp only [zI_int]
  refine ⟨fun z q P => ∃ k : Nat, z = k ∧ q = n - k ∧ 1 ≤ k ∧ k ≤ n ∧ P = N.new (.cells (bvs (List.replicate k v ++ List.replicate (n - k) 0#8)) true), ⟨n - 1, 1, rfl, rfl, Nat.le_refl _, h1, rfl⟩, ?_⟩
  rintro _ z q P ⟨k, rfl, rfl, hk1, hk, rfl⟩
  have hlen : ∀ P : Mem, evLenCap tb false 33 (.sl N.next 0 n n none) P = some n := fun P => by unfold evLenCap; rw [ty33]; rfl
  refine bindO_i (eLen_some (hlen _)) ?_
  simp only [zI_int]
  refine condB_i (fun hlt => ?_) (fun hge => ?_)
  rotate_left
  · have hge : k = n := by have : ¬ (k : Int) < n := by simpa using hge
                           omega
    subst hge
    refine ⟨by trivial, ?_⟩
    rw [Nat.sub_self, List.replicate_zero, List.append_nil]
  have hlt : k < n := by simpa using hlt
  have hs1 : evSliceAt tb 33 (.sl N.next 0 n n none) (some (.val (.int .i64 (k : Int)))) none none = some (.sl N.next k (n - k) (n - k) none) := by
    unfold evSliceAt evSlice
    rw [ty33]
    simp only [ty5, sliceB, bndV_nat hk, Nat.mul_one, AM.beq_ne (show n ≠ k by omega), cond_false, Nat.zero_add]
  have hs2 : evSliceAt tb 33 (.sl N.next 0 n n none) none (some (.val (.int .i64 (k : Int)))) none = some (.sl N.next 0 k n none) := by
    unfold evSliceAt evSlice
    rw [ty33]
    simp only [ty5, sliceB, bndV_nat hk, Nat.mul_one, AM.beq_ne (show n ≠ 0 by omega), cond_false, Nat.zero_add, Nat.sub_zero, Nat.zero_mul]
  refine bindO_i (eSl_some hs1) ?_
  refine bindO_i (eSl_some hs2) ?_
  have hg : (N.new (.cells (bvs (List.replicate k v ++ List.replicate (n - k) 0#8)) true)).get N.next = some (.cells (bvs (List.replicate k v ++ List.replicate (n - k) 0#8)) true) := get_new _ _
  have hcl : (bvs (List.replicate k v ++ List.replicate (n - k) 0#8)).length = n := by simp; omega
  obtain ⟨m, hm⟩ : ∃ m, m = Nat.min k (n - k) := ⟨_, rfl⟩
  have hmk' : m ≤ k := by rw [hm]; exact Nat.min_le_left _ _
  have hmn : m ≤ n - k := by rw [hm]; exact Nat.min_le_right _ _
  have hm0 : m ≠ 0 := by rw [hm]; have : Nat.min k (n - k) = min k (n - k) := rfl; omega
  have hcp2 : evCopy tb 33 (.sl N.next k (n - k) (n - k) none) (.sl N.next 0 k n none) (N.new (.cells (bvs (List.replicate k v ++ List.replicate (n - k) 0#8)) true)) = some (.val (.int .i64 (m : Int)), N.new (.cells (bvs (List.replicate (k + m) v ++ List.replicate (n - (k + m)) 0#8)) true)) := by
    unfold evCopy
    rw [ty33]
    simp only [ty5]
    have he1 : evLen (.sl N.next k (n - k) (n - k) none) = some (n - k) := rfl
    have he2 : evLen (.sl N.next 0 k n none) = some k := rfl
    rw [he1, he2]
    simp only [← hm]
    rw [first_some hg hmk' hm0 (by rw [hcl]; omega)]
    simp only [AM.beq_ne hm0, cond_false]
    have hfirst : ((bvs (List.replicate k v ++ List.replicate (n - k) 0#8)).drop 0).take m = bvs (List.replicate m v) := by
      rw [List.drop_zero, bvs_append, List.take_append_of_le_length (by simp; omega)]
      unfold bvs
      rw [← List.map_take, List.take_replicate, Nat.min_eq_left hmk']
    rw [hfirst]
    have hst : (N.new (.cells (bvs (List.replicate k v ++ List.replicate (n - k) 0#8)) true)).storeAt N.next k (bvs (List.replicate m v)) = some (N.new (.cells (bvs (List.replicate (k + m) v ++ List.replicate (n - (k + m)) 0#8)) true)) := by
      unfold Mem.storeAt
      rw [hg]
      have hov : over (List.replicate k v ++ List.replicate (n - k) 0#8) k (List.replicate m v) = List.replicate (k + m) v ++ List.replicate (n - (k + m)) 0#8 := by
        unfold over
        rw [List.take_left' (by simp), List.length_replicate, ← List.drop_drop, List.drop_left' (by simp), List.drop_replicate, List.replicate_append_replicate]
        congr 2; omega
      simp only [hcl, bvs_length, List.length_replicate, ble_of (show k + m ≤ n by omega), cond_true, ones_of (bvs_one _), setAt_bvs (show k + (List.replicate m v).length ≤ (List.replicate k v ++ List.replicate (n - k) 0#8).length by simp; omega), Mem.new_put, hov]
    rw [hst]
    rfl
  refine bindO_i hcp2 ?_
  simp only [zI_int]
  refine ⟨n - (k + m), by omega, k + m, ?_, rfl, by omega, by omega, rfl⟩
  rw [iAdd, wrap_i64' (by omega) (by omega)]
  omega

/-! ## bytes -/

def pat (v : BitVec 8) (n : Nat) : List (BitVec 8) := (List.range n).map fun i => v + BitVec.ofNat 8 (i * 7)
@[simp] theorem pat_length (v : BitVec 8) (n : Nat) : (pat v n).length = n := by simp [pat]

end Go.Proofs.Ytjffimbigamadaa
