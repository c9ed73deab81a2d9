import Derived.Test.YtjffimbigamadaaG7
set_option linter.unusedSimpArgs false
set_option linter.unusedVariables false
set_option linter.unusedSectionVars false
/- What is told of a chip; a page; Read. -/
namespace Go.Proofs.Ytjffimbigamadaa
open Go.AM

/-! ## What is told -/

theorem c_on (M : Mem) (hw : M.WF) (p : Nat) (C : Chip) (h : ChipAt M p C) : CallA tb.P 27 [.ptr p 0] M fun y N => y = .val (.bool (!C.off)) ∧ N = M := by
  refine F27_ok ?_
  unfold F27
  simp only [letP_eq, nil_ne, bindO_some, zB_bool, condB_true, eNil_ptr, fa3, zP_ptr, ld_off h, and_self]

theorem c_cuts (M : Mem) (hw : M.WF) (p : Nat) (C : Chip) (h : ChipAt M p C) : CallA tb.P 30 [.ptr p 0] M fun y N => y = i64 C.cuts ∧ N = M := by
  refine F30_ok ?_
  unfold F30
  simp only [letP_eq, nil_eq, bindO_some, zB_bool, condB_false, eNil_ptr, fa5, zP_ptr, ld_cuts h, i64, zI_int, and_self]

theorem c_badOf (M : Mem) (hw : M.WF) (p : Nat) (C : Chip) (h : ChipAt M p C) (b : Int) : CallA tb.P 32 [.ptr p 0, i64 b] M fun y N => y = .val (.bool (badF C.fs b)) ∧ Keep M N [] := by
  refine F32_ok ?_
  unfold F32
  simp only [letP_eq, nil_ne, bindO_some, zB_bool, condB_true, eNil_ptr, fa1, zP_ptr, ld_fs h, i64, zI_int]
  refine (c_bad M hw _ _ h.flt (by have := h.fsl; omega) b).mono ?_
  rintro y N ⟨rfl, hk⟩
  simp only [zB_bool]
  exact ⟨by trivial, hk⟩

def failed (C : Chip) (b : Int) : Bool := decide (0 ≤ b) && match C.bs[b.toNat]? with
  | some B => failsF C.fs b B.done
  | none => false

theorem c_failed (M : Mem) (hw : M.WF) (p : Nat) (C : Chip) (h : ChipAt M p C) (b : Int) : CallA tb.P 31 [.ptr p 0, i64 b] M fun y N => y = .val (.bool (failed C b)) ∧ Keep M N [] := by
  refine F31_ok ?_
  unfold F31
  simp only [letP_eq, nil_ne, bindO_some, zB_bool, condB_true, eNil_ptr, fa1, fa2, zP_ptr, ld_fs h, ld_bs h, len_bs h, i64, zI_int]
  unfold failed
  refine condB_i (fun q => ?_) (fun q => ?_)
  rotate_left
  · have q : ¬ 0 ≤ b := by simpa using q
    exact ⟨by rw [decide_eq_false q]; rfl, Keep.refl hw⟩
  have q : 0 ≤ b := by simpa using q
  obtain ⟨i, rfl⟩ : ∃ i : Nat, b = (i : Int) := ⟨b.toNat, by omega⟩
  rw [decide_eq_true q, Bool.true_and, Int.toNat_natCast]
  refine condB_i (fun q => ?_) (fun q => ?_)
  rotate_left
  · have q : ¬ i < C.bs.length := by simpa using q
    exact ⟨by rw [List.getElem?_eq_none (by omega)], Keep.refl hw⟩
  have hi : i < C.bs.length := by simpa using q
  rw [List.getElem?_eq_getElem hi]
  simp only [ia_bs h hi, bindO_some, zP_ptr, ld_done h hi, i64, zI_int]
  refine (c_fails M hw _ _ h.flt (by have := h.fsl; omega) _ _).mono ?_
  rintro y N ⟨rfl, hk⟩
  simp only [zB_bool]
  exact ⟨by trivial, hk⟩

def blk0 : List AV := [.val (.slice none 0 0), i64 0, i64 0, i64 0]
theorem blk_st {M : Mem} {b : Nat} {cs vs : List AV} (hg : M.get b = some (.cells cs true)) (hl : cs.length = 4) (hv : vs.length = 4) (hone : ∀ v ∈ vs, v.one = true) : eSt tb 117 (.ptr b 0) (.agg vs) M = some (undefA, M.put b (.cells vs true)) :=
  eSt_some (st_all ty117 (by rw [hv]) hg (by rw [hl, hv]) hone)
theorem blk_res {M : Mem} {b : Nat} {vs : List AV} (hg : M.get b = some (.cells vs true)) (hv : vs.length = 4) : eRes tb [.c 117 (.ptr b 0)] M = some (.agg vs) := by
  have l := ld_agg (T := tb) (n := 4) (o := 0) ty117 rfl rfl hg (by omega)
  rw [List.drop_zero, List.take_of_length_le (by omega)] at l
  unfold eRes resC resC
  simp only [l, Option.map_some]

/-- A block of a chip, as its cells; none, if there is no such one. -/
def atC (C : Chip) (b : Int) : List AV := if 0 ≤ b then (match C.bs[b.toNat]? with | some B => blkC B | none => blk0) else blk0

theorem c_at (M : Mem) (hw : M.WF) (p : Nat) (C : Chip) (h : ChipAt M p C) (b : Int) : CallA tb.P 73 [.ptr p 0, i64 b] M fun y N => y = .agg (atC C b) ∧ Keep M N [] := by
  refine F73_ok ?_
  unfold F73
  simp only [i64, zI_int]
  refine letP_i fun M2 hM2 => ?_
  have hM2' : M2 = M.new (.cells blk0 true) := hM2
  subst hM2'
  have hK := Keep.new hw (.cells blk0 true)
  have hg := get_new M (.cells blk0 true)
  have h1 := h.keep hw hK
  have fin : ∀ vs : List AV, Keep M ((M.new (.cells blk0 true)).put M.next (.cells vs true)) [] := fun vs => by
    rw [Mem.new_put]; exact Keep.new hw _
  refine letP_i fun K hK1 => ?_
  have no : atC C b = blk0 → K true := fun ha => by
    rw [hK1]
    simp only [condB_true]
    refine bindO_i (blk_st hg rfl rfl (by intro v hv; simp only [List.mem_cons, List.not_mem_nil, or_false] at hv; rcases hv with rfl | rfl | rfl | rfl <;> rfl)) ?_
    refine bindO_i (blk_res (vs := blk0) (by rw [Mem.get_put, if_pos rfl]; rfl) rfl) ?_
    exact ⟨by rw [ha], fin _⟩
  simp only [nil_eq, bindO_some, zB_bool, condB_false, eNil_ptr, fa2, zP_ptr, ld_bs h1, len_bs h1, i64, zI_int]
  refine condB_i (fun q => no ?_) (fun q => ?_)
  · have q : b < 0 := by simpa using q
    unfold atC
    rw [if_neg (by omega)]
  have q : 0 ≤ b := by have : ¬ b < 0 := by simpa using q
                       omega
  obtain ⟨i, rfl⟩ : ∃ i : Nat, b = (i : Int) := ⟨b.toNat, by omega⟩
  by_cases hi : i < C.bs.length
  rotate_left
  · rw [show decide ((i : Int) ≥ (C.bs.length : Int)) = true by simpa using hi]
    refine no ?_
    unfold atC
    rw [if_pos q, Int.toNat_natCast, List.getElem?_eq_none (by omega)]
  rw [show decide ((i : Int) ≥ (C.bs.length : Int)) = false by simpa using hi, hK1]
  have ha : atC C (i : Int) = blkC C.bs[i] := by
    unfold atC
    rw [if_pos q, Int.toNat_natCast, List.getElem?_eq_getElem hi]
  simp only [condB_false, eNil_ptr, bindO_some, fa2, zP_ptr, ld_bs h1, ia_bs h1 hi, ld_blk h1 hi]
  refine ⟨_, _, _, _, rfl, ?_⟩
  refine bindO_i (blk_st (vs := blkC C.bs[i]) hg rfl rfl (by intro v hv; simp only [blkC, List.mem_cons, List.not_mem_nil, or_false] at hv; rcases hv with rfl | rfl | rfl | rfl <;> rfl)) ?_
  refine bindO_i (blk_res (vs := blkC C.bs[i]) (by rw [Mem.get_put, if_pos rfl]) rfl) ?_
  exact ⟨by rw [ha], fin _⟩

def wearOf (C : Chip) (b : Int) : Int := if 0 ≤ b then (match C.bs[b.toNat]? with | some B => B.wear | none => 0) else 0
def usedOf (C : Chip) (b : Int) : Int := if 0 ≤ b then (match C.bs[b.toNat]? with | some B => B.next | none => 0) else 0

theorem atC_is (C : Chip) (b : Int) : ∃ x d, atC C b = [x, i64 (usedOf C b), i64 (wearOf C b), i64 d] := by
  unfold atC usedOf wearOf
  split
  · split
    · exact ⟨_, _, rfl⟩
    · exact ⟨_, _, rfl⟩
  · exact ⟨_, _, rfl⟩

theorem c_wear (M : Mem) (hw : M.WF) (p : Nat) (C : Chip) (h : ChipAt M p C) (b : Int) : CallA tb.P 25 [.ptr p 0, i64 b] M fun y N => y = i64 (wearOf C b) ∧ Keep M N [] := by
  refine F25_ok ?_
  unfold F25
  simp only [i64, zI_int]
  refine (c_at M hw p C h b).mono ?_
  rintro y N ⟨rfl, hk⟩
  obtain ⟨x, d, e⟩ := atC_is C b
  rw [e]
  exact ⟨_, _, _, _, rfl, rfl, hk⟩

/-! ## A page -/

theorem isG_iff {g : Geo} {b k : Int} : isG g b k = true ↔ (0 ≤ b ∧ b ≤ g.bl - 1) ∧ 0 ≤ k ∧ k ≤ g.pg - 1 := by
  unfold isG inB
  simp only [Bool.and_eq_true, decide_eq_true_eq]

/-- A place that is there, in numbers. -/
theorem ChipAt.place {M : Mem} {p : Nat} {C : Chip} (h : ChipAt M p C) {b k : Int} (hp : isG C.g b k = true) :
    ∃ (i j : Nat) (hi : i < C.bs.length), b = (i : Int) ∧ k = (j : Int) ∧ j < C.g.pg.toNat ∧ C.g.pg.toNat ≤ 8 ∧ 40 ≤ rawN C.g ∧ rawN C.g ≤ 80 ∧ C.bs[i].by'.length = C.g.pg.toNat * rawN C.g ∧ (j + 1) * rawN C.g ≤ C.bs[i].by'.length ∧ C.bs[i].by'.length ≤ 640 := by
  obtain ⟨⟨h1, h2⟩, h3, h4⟩ := isG_iff.1 hp
  have hm := mayG_iff.1 h.may
  have hi : b.toNat < C.bs.length := by rw [h.len]; omega
  have hf := h.ful _ (List.getElem_mem hi)
  have hr : 40 ≤ rawN C.g ∧ rawN C.g ≤ 80 := by unfold rawN; omega
  have hpg : C.g.pg.toNat ≤ 8 := by omega
  have hj : k.toNat + 1 ≤ C.g.pg.toNat := by omega
  refine ⟨b.toNat, k.toNat, hi, by omega, by omega, by omega, hpg, hr.1, hr.2, hf, ?_, ?_⟩
  · rw [hf]; exact Nat.mul_le_mul_right _ hj
  · rw [hf]
    have : C.g.pg.toNat * rawN C.g ≤ 8 * 80 := Nat.mul_le_mul hpg hr.2
    omega

def pageB (B : Blk) (raw j : Nat) : List (BitVec 8) := (B.by'.drop (j * raw)).take raw

theorem c_page (M : Mem) (hw : M.WF) (p : Nat) (C : Chip) (h : ChipAt M p C) {i j : Nat} (hi : i < C.bs.length) (hp : isG C.g i j = true) :
    CallA tb.P 71 [.ptr p 0, placeA i j] M fun y N => y = .sl C.bs[i].b (j * rawN C.g) (rawN C.g) (C.bs[i].by'.length - j * rawN C.g) none ∧ Keep M N [] := by
  obtain ⟨i', j', hi', e1, e2, hj, hpg, hr1, hr2, hf, hle, hmax⟩ := h.place hp
  have e1 : i' = i := by omega
  have e2 : j' = j := by omega
  subst e1 e2
  refine F71_ok ?_
  unfold F71
  refine ⟨_, _, rfl, ?_⟩
  refine letP_i fun M3 hM3 => ?_
  have hM3' : M3 = M.new (.cells [i64 (i' : Int), i64 (j' : Int)] true) := hM3
  have hK : Keep M M3 [] := by rw [hM3']; exact Keep.new hw _
  have hpl : M3.get M.next = some (.cells [i64 (i' : Int), i64 (j' : Int)] true) := by rw [hM3']; exact get_new _ _
  clear hM3 hM3'
  have h1 := h.keep hw hK
  simp only [eNil_ptr, bindO_some, fa0, zP_ptr, ld_g h1]
  refine ⟨_, _, _, _, _, rfl, ?_⟩
  refine (c_raw _ hK.wf C.g h.may).mono ?_
  rintro y N ⟨rfl, hk⟩
  have h2 := h1.keep hK.wf hk
  obtain ⟨p0, p1, _⟩ := place_ld (hk.get hK.wf hpl (by simp))
  have hb1 : j' * rawN C.g ≤ 640 := by
    have : (j' + 1) * rawN C.g = j' * rawN C.g + rawN C.g := by rw [Nat.add_mul, Nat.one_mul]
    omega
  have m1 : iMul .i64 (j' : Int) (rawN C.g : Int) = ((j' * rawN C.g : Nat) : Int) := by
    rw [iMul, ← Int.natCast_mul, wrap_i64' (by omega) (by omega)]
  have m2 : iMul .i64 (iAdd .i64 (j' : Int) 1) (rawN C.g : Int) = (((j' + 1) * rawN C.g : Nat) : Int) := by
    rw [iInc (by omega), iMul, ← Int.natCast_mul, wrap_i64' (by omega) (by omega)]
  simp only [i64, zI_int, eNil_ptr, bindO_some, fa2, zP_ptr, ld_bs h2, eLd_some p0, eLd_some p1, ia_bs h2 hi, ld_by h2 hi, m1, m2]
  have hsl := slice_both (T := tb) ty33 ty5 (b := C.bs[i'].b) (o := 0) (n := C.bs[i'].by'.length) (c := C.bs[i'].by'.length) (l := j' * rawN C.g) (h := (j' + 1) * rawN C.g) (Nat.mul_le_mul_right _ (by omega)) hle (k1 := .i64) (k2 := .i64)
  have hd : (j' + 1) * rawN C.g - j' * rawN C.g = rawN C.g := by rw [Nat.add_mul, Nat.one_mul]; omega
  rw [AM.beq_false (show C.bs[i'].by'.length ≠ j' * rawN C.g by
    have : (j' + 1) * rawN C.g = j' * rawN C.g + rawN C.g := by rw [Nat.add_mul, Nat.one_mul]
    omega), cond_false, Nat.zero_add, hd] at hsl
  refine bindO_i (eSl_some hsl) ?_
  exact ⟨rfl, hK.trans0 hk⟩

/-- A page reads as its bytes. -/
theorem page_at {M : Mem} {p : Nat} {C : Chip} (h : ChipAt M p C) {i j : Nat} (hi : i < C.bs.length) (hp : isG C.g i j = true) :
    BytesAt M (.sl C.bs[i].b (j * rawN C.g) (rawN C.g) (C.bs[i].by'.length - j * rawN C.g) none) (pageB C.bs[i] (rawN C.g) j) ∧ (pageB C.bs[i] (rawN C.g) j).length = rawN C.g := by
  obtain ⟨i', j', hi', e1, e2, hj, hpg, hr1, hr2, hf, hle, hmax⟩ := h.place hp
  have e1 : i' = i := by omega
  have e2 : j' = j := by omega
  subst e1 e2
  have hs : (j' + 1) * rawN C.g = j' * rawN C.g + rawN C.g := by rw [Nat.add_mul, Nat.one_mul]
  have hl : (pageB C.bs[i'] (rawN C.g) j').length = rawN C.g := by
    unfold pageB
    rw [List.length_take, List.length_drop]; omega
  refine ⟨⟨by simp, .inr ⟨_, _, _, none, by rw [hl], ⟨by rw [hl]; omega, .inl rfl⟩, .inr ⟨_, _, h.dat _ (List.getElem_mem hi), by rw [hl, bvs_length]; omega, ?_⟩⟩⟩, hl⟩
  rw [hl, Nat.mul_one]
  unfold pageB bvs
  rw [List.map_take, List.map_drop]

/-! ## Read -/

def rdE (C : Chip) (b k : Int) : Int := if askd C b k = 0 then (if bgn C = true then 9 else 0) else askd C b k
def rdC (C : Chip) (b k : Int) : Chip := if askd C b k = 0 then bgC C else C
def rdB (C : Chip) (b k : Int) : List (BitVec 8) := if rdE C b k = 0 then (match C.bs[b.toNat]? with | some B => pageB B (rawN C.g) k.toNat | none => []) else []

theorem askd_zero {C : Chip} {b k : Int} (h : askd C b k = 0) : C.off = false ∧ isG C.g b k = true := by
  unfold askd at h
  split at h
  · omega
  · rename_i h1
    split at h
    · rename_i h2; exact ⟨by simpa using h1, h2⟩
    · omega

theorem bgC_bs (C : Chip) : (bgC C).bs = C.bs ∧ (bgC C).g = C.g ∧ (bgC C).fs = C.fs ∧ (bgC C).cby = C.cby ∧ (bgC C).cf = C.cf := by
  unfold bgC
  split <;> exact ⟨rfl, rfl, rfl, rfl, rfl⟩

theorem c_read (M : Mem) (hw : M.WF) (p : Nat) (C : Chip) (h : ChipAt M p C) (b k : Int) :
    CallA tb.P 21 [.ptr p 0, placeA b k] M fun y N => ∃ u, y = .tup [u, i64 (rdE C b k)] ∧ Gr N u (rdB C b k) ∧ (∀ c, inBlk u c → M.next ≤ c) ∧ Step M N p C (rdC C b k) := by
  refine F21_ok ?_
  unfold F21
  refine ⟨_, _, rfl, ?_⟩
  refine letP_i fun M3 hM3 => ?_
  have hM3' : M3 = M.new (.cells [i64 b, i64 k] true) := hM3
  have hK : Keep M M3 [] := by rw [hM3']; exact Keep.new hw _
  have hpl : M3.get M.next = some (.cells [i64 b, i64 k] true) := by rw [hM3']; exact get_new _ _
  clear hM3 hM3'
  have h1 := h.keep hw hK
  have hpn : M.next < M3.next := hK.wf _ _ hpl
  obtain ⟨_, _, l2⟩ := place_ld hpl
  refine bindO_i (eLd_some l2) ?_
  refine ⟨_, _, rfl, ?_⟩
  refine (c_asked _ hK.wf p C h1 b k).mono ?_
  rintro y N ⟨rfl, hk⟩
  have h2 := h1.keep hK.wf hk
  have hKN := hK.trans0 hk
  simp only [i64, zI_int]
  refine condB_i (fun q => ?_) (fun q => ?_)
  · have q : ¬ askd C b k = 0 := by simpa using q
    have e1 : rdE C b k = askd C b k := by unfold rdE; rw [if_neg q]
    refine ⟨.val (.slice none 0 0), by rw [e1], ?_, fun c hc => hc.elim, ?_⟩
    · unfold rdB
      rw [if_neg (by rw [e1]; exact q)]
      exact .inl ⟨rfl, rfl⟩
    · unfold rdC
      rw [if_neg q]
      exact Step.of0 hw h hKN
  have q : askd C b k = 0 := by simpa using q
  obtain ⟨hoff, hp⟩ := askd_zero q
  refine (c_begin N hk.wf p C h2).mono ?_
  rintro y N2 ⟨rfl, hs⟩
  simp only [zB_bool]
  refine condB_i (fun q2 => ?_) (fun q2 => ?_)
  · have e1 : rdE C b k = 9 := by unfold rdE; rw [if_pos q, if_pos q2]
    refine ⟨.val (.slice none 0 0), by rw [e1], ?_, fun c hc => hc.elim, ?_⟩
    · unfold rdB
      rw [if_neg (by rw [e1]; decide)]
      exact .inl ⟨rfl, rfl⟩
    · unfold rdC
      rw [if_pos q]
      exact hs.pre hKN
  have e1 : rdE C b k = 0 := by unfold rdE; rw [if_pos q, q2]; rfl
  have hplN : N2.get M.next = some (.cells [i64 b, i64 k] true) := hs.keep.get hk.wf (hk.get hK.wf hpl (by simp)) (fun hm => by
    -- the place lies apart
    have hlt : ∀ c ∈ foot p C, c < M.next := by
      intro c hc
      simp only [foot, List.mem_cons, List.mem_map] at hc
      rcases hc with rfl | rfl | ⟨B, hB, rfl⟩
      · exact hw _ _ h.main
      · exact hw _ _ h.tab
      · exact hw _ _ (h.dat B hB)
    have := hlt _ hm
    omega)
  obtain ⟨_, _, l3⟩ := place_ld hplN
  refine bindO_i (eLd_some l3) ?_
  refine ⟨_, _, rfl, ?_⟩
  have h3 := hs.at'
  obtain ⟨i, j, hi, rfl, rfl, _⟩ := h.place hp
  have hbb := bgC_bs C
  have hi3 : i < (bgC C).bs.length := by rw [hbb.1]; exact hi
  have hp3 : isG (bgC C).g i j = true := by rw [hbb.2.1]; exact hp
  refine (c_page N2 hs.wf p (bgC C) h3 hi3 hp3).mono ?_
  rintro y N3 ⟨rfl, hk3⟩
  have h4 := h3.keep hs.wf hk3
  obtain ⟨hpa, hpl⟩ := page_at h4 hi3 hp3
  have hm := mayG_iff.1 h4.may
  have hr : 40 ≤ rawN (bgC C).g ∧ rawN (bgC C).g ≤ 80 := by unfold rawN; omega
  refine (t_clone N3 hk3.wf _ _ hpa (by rw [hpl]; omega) (by rw [hpl]; omega)).mono ?_
  rintro y N4 ⟨hg, hk4, hfr⟩
  refine ⟨y, by rw [e1], ?_, fun c hc => Nat.le_trans hKN.nxt (Nat.le_trans hs.keep.nxt (Nat.le_trans hk3.nxt (hfr c hc))), ?_⟩
  · unfold rdB
    rw [if_pos e1, Int.toNat_natCast, Int.toNat_natCast, List.getElem?_eq_getElem hi]
    have : pageB (bgC C).bs[i] (rawN (bgC C).g) j = pageB C.bs[i] (rawN C.g) j := by simp only [hbb.1, hbb.2.1]
    rw [this] at hg
    exact hg
  · unfold rdC
    rw [if_pos q]
    exact (hs.pre hKN).post (hk3.trans0 hk4)

end Go.Proofs.Ytjffimbigamadaa

/- Program, Erase, Arm, Boot. -/
namespace Go.Proofs.Ytjffimbigamadaa
open Go.AM

theorem ChipAt.lt {M : Mem} {p : Nat} {C : Chip} (h : ChipAt M p C) (hw : M.WF) : ∀ c ∈ foot p C, c < M.next := by
  intro c hc
  simp only [foot, List.mem_cons, List.mem_map] at hc
  rcases hc with rfl | rfl | ⟨B, hB, rfl⟩
  · exact hw _ _ h.main
  · exact hw _ _ h.tab
  · exact hw _ _ (h.dat B hB)
theorem step_get {M N : Mem} {p : Nat} {C C' : Chip} (s : Step M N p C C') (hw : M.WF) {c : Nat} {r : Row} (hg : M.get c = some r) (hc : c ∉ foot p C) : N.get c = some r := s.keep.get hw hg hc

def Chip.upB (C : Chip) (i : Nat) (B : Blk) : Chip := { C with bs := C.bs.set i B }
theorem upB_len (C : Chip) (i : Nat) (B : Blk) : (C.upB i B).bs.length = C.bs.length := by simp [Chip.upB]
theorem upB_get {C : Chip} {i : Nat} {B : Blk} (h : i < (C.upB i B).bs.length) : (C.upB i B).bs[i] = B := by simp [Chip.upB]
theorem upB_upB (C : Chip) (i : Nat) (B B' : Blk) : (C.upB i B).upB i B' = C.upB i B' := by simp [Chip.upB]

section
variable {M : Mem} {p : Nat} {C : Chip} (h : ChipAt M p C) (hw : M.WF) {i : Nat} (hi : i < C.bs.length)
include h hw
theorem set_next (z : Int) : ∃ N, eSt tb 3 (.ptr C.bb (i * 4 + 1)) (.val (.int .i64 z)) M = some (undefA, N) ∧ Step M N p C (C.upB i { C.bs[i] with next := z }) :=
  ⟨_, st_blk h hi (z := z) { C.bs[i] with next := z } (j := 1) (by omega) rfl, h.setB hw hi _ rfl rfl⟩
theorem set_wear (z : Int) : ∃ N, eSt tb 3 (.ptr C.bb (i * 4 + 2)) (.val (.int .i64 z)) M = some (undefA, N) ∧ Step M N p C (C.upB i { C.bs[i] with wear := z }) :=
  ⟨_, st_blk h hi (z := z) { C.bs[i] with wear := z } (j := 2) (by omega) rfl, h.setB hw hi _ rfl rfl⟩
theorem set_done (z : Int) : ∃ N, eSt tb 3 (.ptr C.bb (i * 4 + 3)) (.val (.int .i64 z)) M = some (undefA, N) ∧ Step M N p C (C.upB i { C.bs[i] with done := z }) :=
  ⟨_, st_blk h hi (z := z) { C.bs[i] with done := z } (j := 3) (by omega) rfl, h.setB hw hi _ rfl rfl⟩
end

/-! ## Bytes written over -/

def over (l : List (BitVec 8)) (o : Nat) (m : List (BitVec 8)) : List (BitVec 8) := l.take o ++ m ++ l.drop (o + m.length)
theorem setAt_bvs {l : List (BitVec 8)} {o : Nat} {m : List (BitVec 8)} (h : o + m.length ≤ l.length) : setAt (bvs l) o (bvs m) = bvs (over l o m) := by
  have h1 : bvs l = bvs (l.take o) ++ bvs ((l.drop o).take m.length) ++ bvs (l.drop (o + m.length)) := by
    rw [← bvs_append, ← bvs_append]
    congr 1
    conv => lhs; rw [← List.take_append_drop o l, ← List.take_append_drop m.length (l.drop o)]
    rw [List.drop_drop, List.append_assoc]
  have h2 := setAt_mid (bvs m) (bvs (l.take o)) (bvs (l.drop (o + m.length))) (bvs ((l.drop o).take m.length)) (by simp; omega)
  rw [bvs_length, List.length_take, Nat.min_eq_left (by omega)] at h2
  rw [h1, h2]
  unfold over
  rw [bvs_append, bvs_append]

/-! ## Program -/

def pgS (C : Chip) (cut : Bool) (i j : Nat) (d : List (BitVec 8)) : Chip × Int :=
  match C.bs[i]? with
  | none => (C, 0)
  | some B =>
    if failsF C.fs i B.done = true then (C, 10)
    else if (j : Int) ≠ B.next then (C, 11)
    else if cut = true then (C.upB i { B with by' := over B.by' (j * rawN C.g) (d.take (min C.cby.toNat d.length)), next := iAdd .i64 B.next 1 }, 0)
    else (C.upB i { B with by' := over B.by' (j * rawN C.g) d, next := iAdd .i64 B.next 1, done := iAdd .i64 B.done 1 }, 0)
def pgR (C : Chip) (b k : Int) (d : List (BitVec 8)) : Chip × Int :=
  if askd C b k = 0 then
    (if d.length = rawN C.g then ((pgS (bgC C) (bgn C) b.toNat k.toNat d).1, if bgn C = true then 9 else (pgS (bgC C) (bgn C) b.toNat k.toNat d).2) else (C, 2))
  else (C, askd C b k)

end Go.Proofs.Ytjffimbigamadaa

/- Erase, Arm, Boot. -/
namespace Go.Proofs.Ytjffimbigamadaa
open Go.AM

theorem fill_set {α : Type} (a : α) {l : List α} {q : Nat} (h : q < l.length) : (List.replicate q a ++ l.drop q).set q a = List.replicate (q + 1) a ++ l.drop (q + 1) := by
  rw [List.set_append_right _ _ (by simp), List.length_replicate, Nat.sub_self, ← List.getElem_cons_drop h, List.set_cons_zero, List.replicate_succ', List.append_assoc, List.singleton_append]

theorem ia_by {b n c q : Nat} {M : Mem} (h : q < n) : eIA tb 33 (.sl b 0 n c none) (.val (.int .i64 (q : Int))) M = some (.ptr b q, M) := eIA_some (by
  unfold evIndexAddr
  rw [ty33]
  have h0 : decide (0 ≤ (q : Int)) = true := by simp
  simp only [ty5, Int.toNat_natCast, AM.blt_of h, cond_true, h0, Nat.zero_add, Nat.mul_one])

def erS (C : Chip) (fill : BitVec 8) (i : Nat) : Chip × Int :=
  match C.bs[i]? with
  | none => (C, 0)
  | some B =>
    if failsF C.fs i B.done = true then (C, 10)
    else (C.upB i { B with by' := List.replicate B.by'.length fill, next := if fill = 255#8 then 0 else C.g.pg, wear := iAdd .i64 B.wear 1, done := iAdd .i64 B.done 1 }, 0)
def erF (C : Chip) : BitVec 8 := if bgn C = true then C.cf else 255#8
def erR (C : Chip) (b : Int) : Chip × Int :=
  if askd C b 0 = 0 then ((erS (bgC C) (erF C) b.toNat).1, if bgn C = true then 9 else (erS (bgC C) (erF C) b.toNat).2)
  else (C, askd C b 0)

theorem c_erase (M : Mem) (hw : M.WF) (p : Nat) (C : Chip) (h : ChipAt M p C) (b : Int) :
    CallA tb.P 24 [.ptr p 0, i64 b] M fun y N => y = i64 (erR C b).2 ∧ Step M N p C (erR C b).1 := by
  refine F24_ok ?_
  unfold F24
  simp only [i64, zI_int]
  refine (c_asked M hw p C h b 0).mono ?_
  rintro y M3 ⟨rfl, hk3⟩
  have h3 := h.keep hw hk3
  simp only [i64, zI_int]
  refine condB_i (fun q => ?_) (fun q => ?_)
  · have q : ¬ askd C b 0 = 0 := by simpa using q
    unfold erR
    rw [if_neg q]
    exact ⟨rfl, Step.of0 hw h hk3⟩
  have q : askd C b 0 = 0 := by simpa using q
  have hpg := (askd_zero q).2
  unfold erR
  rw [if_pos q]
  obtain ⟨i, j, hi, rfl, _, hj, hpg8, hr1, hr2, hf, hle, hmax⟩ := h.place hpg
  simp only [Int.toNat_natCast]
  refine (c_begin M3 hk3.wf p C h3).mono ?_
  rintro y M6 ⟨rfl, hs⟩
  simp only [zB_bool]
  have hbb := bgC_bs C
  have hS6 := hs.pre hk3
  have h6 := hs.at'
  unfold erF
  have hcf : C.cf = (bgC C).cf := hbb.2.2.2.2.symm
  rw [hcf]
  have hbbe : (bgC C).bb = C.bb := by unfold bgC; split <;> rfl
  generalize hC1 : bgC C = C1 at *
  have hi1 : i < C1.bs.length := by rw [hbb.1]; exact hi
  have hf1 : C1.bs[i].by'.length ≤ 640 := by
    have : C1.bs[i] = C.bs[i] := by simp only [hbb.1]
    rw [this]; exact hmax
  generalize bgn C = cut at *
  refine letP_i fun K hK => ?_
  have fin : ∀ fill : BitVec 8, (if cut = true then C1.cf else 255#8) = fill → K (fill.toNat : Int) := by
    intro fill hfill
    rw [hK, hfill]
    clear hK K
    refine letP_i fun K59 hK59 => ?_
    have kk : ∀ (z : Int) (N : Mem) (C2 : Chip), erS C1 fill i = (C2, z) → Step M6 N p C1 C2 → K59 z N := by
      intro z N C2 e s
      rw [hK59, e]
      refine condB_i (fun hc => ⟨by rw [hc]; rfl, hS6.trans s⟩) (fun hc => ⟨by rw [hc]; rfl, hS6.trans s⟩)
    clear hK59
    refine (c_failed M6 hs.wf p C1 h6 (i : Int)).mono ?_
    rintro y M17 ⟨rfl, hk17⟩
    have h17 := h6.keep hs.wf hk17
    have hs17 := Step.of0 hs.wf h6 hk17
    have hfl : failed C1 (i : Int) = failsF C1.fs i C1.bs[i].done := by
      unfold failed
      rw [Int.toNat_natCast, List.getElem?_eq_getElem hi1, decide_eq_true (by omega), Bool.true_and]
    have hpgS : ∀ r, (if failsF C1.fs i C1.bs[i].done = true then (C1, 10)
        else (C1.upB i { C1.bs[i] with by' := List.replicate C1.bs[i].by'.length fill, next := if fill = 255#8 then 0 else C1.g.pg, wear := iAdd .i64 C1.bs[i].wear 1, done := iAdd .i64 C1.bs[i].done 1 }, (0 : Int))) = r → erS C1 fill i = r := fun r hr => by
      unfold erS
      rw [List.getElem?_eq_getElem hi1]
      exact hr
    simp only [zB_bool]
    rw [hfl]
    refine condB_i (fun q3 => ?_) (fun q3 => kk 10 M17 C1 (hpgS _ (by rw [if_pos (by simpa using q3)])) hs17)
    have q3' : ¬ failsF C1.fs i C1.bs[i].done = true := by simpa using q3
    simp only [eNil_ptr, bindO_some, fa2, zP_ptr, ld_bs h17, ia_bs h17 hi1, ld_by h17 hi1]
    refine bindO_i (eLen_some (show evLenCap tb false 33 (.sl C1.bs[i].b 0 C1.bs[i].by'.length C1.bs[i].by'.length none) M17 = some C1.bs[i].by'.length by unfold evLenCap; rw [ty33]; rfl)) ?_
    simp only [zI_int]
    refine ⟨fun z n P => ∃ k : Nat, z = k ∧ n = C1.bs[i].by'.length - k ∧ k ≤ C1.bs[i].by'.length ∧ Step M17 P p C1 (C1.upB i { C1.bs[i] with by' := List.replicate k fill ++ C1.bs[i].by'.drop k }), ⟨C1.bs[i].by'.length, 0, rfl, rfl, Nat.zero_le _, ?_⟩, ?_⟩
    · have : C1.upB i { C1.bs[i] with by' := List.replicate 0 fill ++ C1.bs[i].by'.drop 0 } = C1 := by
        unfold Chip.upB
        rw [List.drop_zero, List.replicate_zero, List.nil_append, show ({ C1.bs[i] with by' := C1.bs[i].by' } : Blk) = C1.bs[i] from rfl, List.set_getElem_self]
      rw [this]
      exact Step.refl hk17.wf h17
    rintro _ z n P ⟨k, rfl, rfl, hk, hsP⟩
    have hiP : i < (C1.upB i { C1.bs[i] with by' := List.replicate k fill ++ C1.bs[i].by'.drop k }).bs.length := by rw [upB_len]; exact hi1
    have hbP : (C1.upB i { C1.bs[i] with by' := List.replicate k fill ++ C1.bs[i].by'.drop k }).bb = C1.bb := rfl
    refine condB_i (fun hlt => ?_) (fun hge => ?_)
    · have hlt : k < C1.bs[i].by'.length := by simpa using hlt
      have hl := ld_by hsP.at' hiP
      rw [upB_get, hbP] at hl
      have hlen : (List.replicate k fill ++ C1.bs[i].by'.drop k).length = C1.bs[i].by'.length := by simp; omega
      simp only [hl, hlen, bindO_some]
      simp only [ia_by hlt, bindO_some, zP_ptr]
      have hdat := hsP.at'.dat _ (List.getElem_mem hiP)
      rw [upB_get] at hdat
      have hst := cells_store hdat (i := k) (by rw [hlen]; exact hlt) fill
      rw [fill_set fill hlt] at hst
      refine bindO_i (eSt_some hst) ?_
      have hsD := hsP.at'.setD hsP.wf hiP (List.replicate (k + 1) fill ++ C1.bs[i].by'.drop (k + 1)) (by rw [upB_get, hlen]; simp; omega)
      have he : ({ C1.upB i { C1.bs[i] with by' := List.replicate k fill ++ C1.bs[i].by'.drop k } with bs := (C1.upB i { C1.bs[i] with by' := List.replicate k fill ++ C1.bs[i].by'.drop k }).bs.set i { (C1.upB i { C1.bs[i] with by' := List.replicate k fill ++ C1.bs[i].by'.drop k }).bs[i] with by' := List.replicate (k + 1) fill ++ C1.bs[i].by'.drop (k + 1) } } : Chip) = C1.upB i { C1.bs[i] with by' := List.replicate (k + 1) fill ++ C1.bs[i].by'.drop (k + 1) } := by
        simp [Chip.upB]
      rw [he] at hsD
      rw [upB_get] at hsD
      exact ⟨C1.bs[i].by'.length - (k + 1), by omega, k + 1, iInc (by omega), rfl, hlt, hsP.trans hsD⟩
    · have hge : k = C1.bs[i].by'.length := by have : ¬ (k : Int) < C1.bs[i].by'.length := by simpa using hge
                                               omega
      subst hge
      rw [List.drop_length, List.append_nil] at hsP hiP
      obtain ⟨N2, hst, hs2⟩ := set_next hsP.at' hsP.wf hiP 0
      have hb1 : (C1.upB i { C1.bs[i] with by' := List.replicate C1.bs[i].by'.length fill }).bb = C1.bb := rfl
      rw [hb1] at hst
      refine bindO_i hst ?_
      rw [upB_upB] at hs2
      simp only [upB_get] at hs2
      have hs02 := hsP.trans hs2
      clear hs2 hst
      refine letP_i fun K50 hK50 => ?_
      have k50 : ∀ (N : Mem), Step M17 N p C1 (C1.upB i { C1.bs[i] with by' := List.replicate C1.bs[i].by'.length fill, next := if fill = 255#8 then 0 else C1.g.pg }) → K50 N := by
        intro N sN
        rw [hK50]
        generalize (if fill = 255#8 then (0 : Int) else C1.g.pg) = nx at *
        have hiN : i < (C1.upB i { C1.bs[i] with by' := List.replicate C1.bs[i].by'.length fill, next := nx }).bs.length := by rw [upB_len]; exact hi1
        have hw1 := ld_wear sN.at' hiN
        rw [upB_get] at hw1
        have hbN : (C1.upB i { C1.bs[i] with by' := List.replicate C1.bs[i].by'.length fill, next := nx }).bb = C1.bb := rfl
        rw [hbN] at hw1
        simp only [hw1, bindO_some, i64, zI_int]
        obtain ⟨N3, hst3, hs3⟩ := set_wear sN.at' sN.wf hiN (iAdd .i64 C1.bs[i].wear 1)
        rw [hbN] at hst3
        refine bindO_i hst3 ?_
        rw [upB_upB] at hs3
        simp only [upB_get] at hs3
        have hi3 : i < (C1.upB i { C1.bs[i] with by' := List.replicate C1.bs[i].by'.length fill, next := nx, wear := iAdd .i64 C1.bs[i].wear 1 }).bs.length := by rw [upB_len]; exact hi1
        have hd1 := ld_done hs3.at' hi3
        rw [upB_get] at hd1
        have hb3 : (C1.upB i { C1.bs[i] with by' := List.replicate C1.bs[i].by'.length fill, next := nx, wear := iAdd .i64 C1.bs[i].wear 1 }).bb = C1.bb := rfl
        rw [hb3] at hd1
        simp only [hd1, bindO_some, i64, zI_int]
        obtain ⟨N4, hst4, hs4⟩ := set_done hs3.at' hs3.wf hi3 (iAdd .i64 C1.bs[i].done 1)
        rw [hb3] at hst4
        refine bindO_i hst4 ?_
        rw [upB_upB] at hs4
        simp only [upB_get] at hs4
        exact kk 0 N4 _ (hpgS _ (by rw [if_neg q3'])) (hs17.trans (sN.trans (hs3.trans hs4)))
      have hz : ((fill.toNat : Int) != 255) = decide (fill ≠ 255#8) := ne_u8 fill 255 (by omega)
      rw [hz]
      refine condB_i (fun hc => ?_) (fun hc => ?_)
      · have hc : fill ≠ 255#8 := by simpa using hc
        have hpg := ld_pg hs02.at'
        simp only [eNil_ptr, bindO_some, fa0, zP_ptr, Nat.zero_add, hpg, i64, zI_int]
        have hi2 : i < (C1.upB i { C1.bs[i] with by' := List.replicate C1.bs[i].by'.length fill, next := 0 }).bs.length := by rw [upB_len]; exact hi1
        obtain ⟨N3, hst3, hs3⟩ := set_next hs02.at' hs02.wf hi2 C1.g.pg
        refine bindO_i hst3 ?_
        rw [upB_upB] at hs3
        simp only [upB_get] at hs3
        refine k50 N3 ?_
        rw [if_neg hc]
        exact hs02.trans hs3
      · have hc : fill = 255#8 := by simpa using hc
        refine k50 N2 ?_
        rw [if_pos hc]
        exact hs02
  refine condB_i (fun hc => ?_) (fun hc => ?_)
  · have hld := ld_cf h6
    simp only [eNil_ptr, bindO_some, fa6, zP_ptr, Nat.reduceAdd, hld, bv8, zI_int]
    exact fin _ (by rw [if_pos hc])
  · exact fin 255#8 (by rw [hc]; rfl)

end Go.Proofs.Ytjffimbigamadaa

/- What New calls: Clone, Mul, Repeat; bytes. -/
namespace Go.Proofs.Ytjffimbigamadaa
open Go.AM

/-! ## Clone -/

theorem nil_nil54 (M : Mem) : eBin tb .eql 54 (.tmp 3) (.const (.slice none 0 0)) (.val (.slice none 0 0)) (.val (.slice none 0 0)) M = some (.val (.bool true), M) := eBin_some (by kernel_rfl)
theorem nil_sl54 (M : Mem) (b o n c : Nat) (ex : Option Nat) : eBin tb .eql 54 (.tmp 3) (.const (.slice none 0 0)) (.sl b o n c ex) (.val (.slice none 0 0)) M = some (.val (.bool false), M) := by
  refine eBin_some ?_
  show (eqRes .eql (addrEq tb 54 (.sl b o n c ex) (.val (.slice none 0 0)))) = _
  unfold addrEq
  rw [ty54]
  rfl

theorem c_cloneF (M : Mem) (hw : M.WF) (x : AV) (fs : List Flt) (hx : FltsAt M x fs) (hl : fs.length ≤ 1000) :
    CallA tb.P 63 [x] M fun y N => FltsAt N y fs ∧ Keep M N [] ∧ (∀ c, inBlk y c → M.next ≤ c) ∧ (y = .val (.slice none 0 0) ∨ ∃ b o n c ex, y = .sl b o n c ex) := by
  refine F63_ok ?_
  unfold F63
  rcases hx.2 with ⟨rfl, h0⟩ | ⟨b, o, cp, ex, rfl, _⟩
  · rw [nil_nil54, bindO_some]
    simp only [zB_bool, condB_true]
    exact ⟨hx, Keep.refl hw, fun c h => h.elim, .inl (by trivial)⟩
  refine bindO_i (nil_sl54 _ _ _ _ _ _) ?_
  simp only [zB_bool, condB_false]
  refine letP_i fun M3 hM3 => ?_
  subst hM3
  have hw3 := hw.new (.cells [] true)
  have hx3 : FltsAt (M.new (.cells [] true)) (.sl b o fs.length cp ex) fs := SlAt.keep0 hx hw (Keep.new hw _)
  by_cases h0 : fs.length = 0
  · have hnil : fs = [] := List.eq_nil_of_length_eq_zero h0
    subst hnil
    have hs : SlAt 3 (M.new (.cells [] true)) (.sl M.next 0 0 0 none) 0 [] := ⟨rfl, .inr ⟨_, _, _, _, rfl, ⟨by omega, .inl rfl⟩, .inl rfl⟩⟩
    refine bindO_i (append_zero (T := tb) (k := 3) ty54 rfl ty53 rfl hs hx3) ?_
    exact ⟨hs, Keep.new hw _, fun c hc => by exact absurd rfl hc.1, .inr ⟨_, _, _, _, _, rfl⟩⟩
  · have hfl : (fs.flatMap fltC).length = fs.length * 3 := flat_length fltC_len fs
    have hap : evAppend tb 54 54 (.sl M.next 0 0 0 none) (.sl b o fs.length cp ex) (M.new (.cells [] true)) = some (.sl (M.next + 1) 0 fs.length fs.length (some 3), (M.new (.cells [] true)).new (.cells (fs.flatMap fltC) true)) := by
      unfold evAppend isInt
      rw [ty54]
      simp only [ty53, SlAt.evLen hx3, SlAt.evFirst hx3, hfl, AM.beq_self, cond_true, Nat.zero_add, ble_not (show ¬ fs.length ≤ 0 by omega), cond_false]
      unfold evGrow roomy
      simp only [Nat.zero_add, ble_of (show (3 * fs.length + 4096) * 24 ≤ 281474976710656 by omega), ble_of (show fs.length ≤ 1152921504606846976 by omega), cond_true]
      rfl
    refine bindO_i hap ?_
    refine ⟨⟨hfl, .inr ⟨_, _, _, _, rfl, ⟨Nat.le_refl _, .inr rfl⟩, .inr ⟨fs.flatMap fltC, true, get_new (M.new (.cells [] true)) _, by omega, by rw [List.drop_zero, List.take_of_length_le (by omega)]⟩⟩⟩, (Keep.new hw _).trans0 (Keep.new hw3 _), fun c hc => by have := hc.2; omega, .inr ⟨_, _, _, _, _, rfl⟩⟩

/-! ## Mul, Repeat -/

theorem mul_fin : ∀ n : Fin 1000, (iAdd .u64 (iAdd .u64 (iMul .u64 (iShr .u64 1 32) (iShr .u64 (n.val : Int) 32)) (iShr .u64 (iAdd .u64 (iMul .u64 (iShr .u64 1 32) (iAnd .u64 (n.val : Int) 4294967295)) (iShr .u64 (iMul .u64 (iAnd .u64 1 4294967295) (iAnd .u64 (n.val : Int) 4294967295)) 32)) 32)) (iShr .u64 (iAdd .u64 (iAnd .u64 (iAdd .u64 (iMul .u64 (iShr .u64 1 32) (iAnd .u64 (n.val : Int) 4294967295)) (iShr .u64 (iMul .u64 (iAnd .u64 1 4294967295) (iAnd .u64 (n.val : Int) 4294967295)) 32)) 4294967295) (iMul .u64 (iAnd .u64 1 4294967295) (iShr .u64 (n.val : Int) 32))) 32)) = 0 ∧ iMul .u64 1 (n.val : Int) = n.val := by decide +kernel

theorem c_mul (M : Mem) (n : Nat) (hn : n < 1000) : CallA tb.P 109 [.val (.int .u64 1), .val (.int .u64 (n : Int))] M fun y N => y = .tup [.val (.int .u64 0), .val (.int .u64 (n : Int))] ∧ N = M := by
  refine F109_ok ?_
  unfold F109
  simp only [zI_int]
  have h126 : CallA tb.P 126 [.val (.int .u64 1), .val (.int .u64 (n : Int))] M fun y N => y = .tup [.val (.int .u64 0), .val (.int .u64 (n : Int))] ∧ N = M := by
    refine F126_ok ?_
    unfold F126
    simp only [zI_int]
    obtain ⟨h1, h2⟩ := mul_fin ⟨n, hn⟩
    simp only at h1 h2
    exact ⟨by rw [h1, h2], by trivial⟩
  refine h126.mono ?_
  rintro y N ⟨rfl, rfl⟩
  exact ⟨_, _, rfl, rfl, rfl⟩

/-- The beginning of a slice. -/
theorem first_some {M : Mem} {b o n c m : Nat} {ex : Option Nat} {cs : List AV} {rw' : Bool} (hg : M.get b = some (.cells cs rw')) (hm : m ≤ n) (h0 : m ≠ 0) (hle : o + m ≤ cs.length) : evFirst 1 m (.sl b o n c ex) M = some ((cs.drop o).take m) := by
  unfold evFirst
  simp only [ble_of hm, cond_true, AM.beq_ne h0, cond_false]
  unfold Mem.cellsAt
  rw [hg]
  simp only [Nat.mul_one, ble_of hle, cond_true]

theorem c_repeat (M : Mem) (hw : M.WF) (x : AV) (v : BitVec 8) (hx : BytesAt M x [v]) (n : Nat) (h1 : 1 ≤ n) (hn : n < 1000) :
    CallA tb.P 64 [x, i64 (n : Int)] M fun y N => y = .sl M.next 0 n n none ∧ N = M.new (.cells (bvs (List.replicate n v)) true) := by
  refine F64_ok ?_
  unfold F64
  simp only [i64, zI_int]
  refine condB_i (fun h => by exfalso; simp at h; omega) (fun _ => ?_)
  refine bindO_i (eLen_some hx.len) ?_
  simp only [zI_int]
  have w1 : IntKind.wrap .u64 (([v].length : Nat) : Int) = 1 := rfl
  have w2 : IntKind.wrap .u64 (n : Int) = (n : Int) := by rw [wrap_u64]; omega
  rw [w1, w2]
  refine (c_mul M n hn).mono ?_
  rintro y N ⟨rfl, rfl⟩
  refine ⟨_, _, rfl, ?_⟩
  refine letP_i fun K hK => ?_
  refine condB_i (fun h => by simp at h) (fun _ => ?_)
  rw [show decide ((n : Int) > 9223372036854775807) = false by rw [decide_eq_false_iff_not]; omega, hK]
  simp only [condB_false]
  have w3 : IntKind.wrap .i64 (n : Int) = (n : Int) := wrap_i64' (by omega) (by omega)
  rw [w3]
  have hmk := make_sl (T := tb) (M := N) ty33 rfl ty5 (l := n) (c := n) (by omega) (by simp only; omega) (by omega) (k1 := .i64) (k2 := .i64)
  simp only [ofVs, ofV, repA_one'] at hmk
  have hz : List.replicate n (AV.val (.int .u8 0)) = bvs (List.replicate n 0#8) := by simp [bvs, bv8]
  rw [hz] at hmk
  refine bindO_i hmk ?_
  have hx1 : BytesAt (N.new (.cells (bvs (List.replicate n 0#8)) true)) x [v] := SlAt.keep0 hx hw (Keep.new hw _)
  have hcp : evCopy tb 33 (.sl N.next 0 n n none) x (N.new (.cells (bvs (List.replicate n 0#8)) true)) = some (.val (.int .i64 1), N.new (.cells (bvs (List.replicate 1 v ++ List.replicate (n - 1) 0#8)) true)) := by
    unfold evCopy
    rw [ty33]
    simp only [ty5]
    have he1 : evLen (.sl N.next 0 n n none) = some n := rfl
    have hm : Nat.min [v].length n = [v].length := Nat.min_eq_left h1
    rw [he1, SlAt.evLen hx1]
    simp only [hm, SlAt.evFirst hx1]
    have hst : (N.new (.cells (bvs (List.replicate n 0#8)) true)).storeAt N.next 0 (bvs [v]) = some (N.new (.cells (bvs (List.replicate 1 v ++ List.replicate (n - 1) 0#8)) true)) := by
      unfold Mem.storeAt
      rw [Mem.get_new, if_pos rfl]
      simp only [bvs_length, List.length_replicate, List.length_cons, List.length_nil, ble_of (show 0 + (0 + 1) ≤ n by omega), cond_true, ones_of (bvs_one [v]), setAt_bvs (show 0 + [v].length ≤ (List.replicate n 0#8).length by simp; omega), Mem.new_put]
      unfold over
      simp
    rw [hst]
    rfl
  refine bindO_i hcp ?_
  simp only [zI_int]
  refine ⟨fun z q P => ∃ k : Nat, z = k ∧ q = n - k ∧ 1 ≤ k ∧ k ≤ n ∧ P = N.new (.cells (bvs (List.replicate k v ++ List.replicate (n - k) 0#8)) true), ⟨n - 1, 1, rfl, rfl, Nat.le_refl _, h1, rfl⟩, ?_⟩
  rintro _ z q P ⟨k, rfl, rfl, hk1, hk, rfl⟩
  have hlen : ∀ P : Mem, evLenCap tb false 33 (.sl N.next 0 n n none) P = some n := fun P => by unfold evLenCap; rw [ty33]; rfl
  refine bindO_i (eLen_some (hlen _)) ?_
  simp only [zI_int]
  refine condB_i (fun hlt => ?_) (fun hge => ?_)
  rotate_left
  · have hge : k = n := by have : ¬ (k : Int) < n := by simpa using hge
                           omega
    subst hge
    refine ⟨by trivial, ?_⟩
    rw [Nat.sub_self, List.replicate_zero, List.append_nil]
  have hlt : k < n := by simpa using hlt
  have hs1 : evSliceAt tb 33 (.sl N.next 0 n n none) (some (.val (.int .i64 (k : Int)))) none none = some (.sl N.next k (n - k) (n - k) none) := by
    unfold evSliceAt evSlice
    rw [ty33]
    simp only [ty5, sliceB, bndV_nat hk, Nat.mul_one, AM.beq_ne (show n ≠ k by omega), cond_false, Nat.zero_add]
  have hs2 : evSliceAt tb 33 (.sl N.next 0 n n none) none (some (.val (.int .i64 (k : Int)))) none = some (.sl N.next 0 k n none) := by
    unfold evSliceAt evSlice
    rw [ty33]
    simp only [ty5, sliceB, bndV_nat hk, Nat.mul_one, AM.beq_ne (show n ≠ 0 by omega), cond_false, Nat.zero_add, Nat.sub_zero, Nat.zero_mul]
  refine bindO_i (eSl_some hs1) ?_
  refine bindO_i (eSl_some hs2) ?_
  have hg : (N.new (.cells (bvs (List.replicate k v ++ List.replicate (n - k) 0#8)) true)).get N.next = some (.cells (bvs (List.replicate k v ++ List.replicate (n - k) 0#8)) true) := get_new _ _
  have hcl : (bvs (List.replicate k v ++ List.replicate (n - k) 0#8)).length = n := by simp; omega
  obtain ⟨m, hm⟩ : ∃ m, m = Nat.min k (n - k) := ⟨_, rfl⟩
  have hmk' : m ≤ k := by rw [hm]; exact Nat.min_le_left _ _
  have hmn : m ≤ n - k := by rw [hm]; exact Nat.min_le_right _ _
  have hm0 : m ≠ 0 := by rw [hm]; have : Nat.min k (n - k) = min k (n - k) := rfl; omega
  have hcp2 : evCopy tb 33 (.sl N.next k (n - k) (n - k) none) (.sl N.next 0 k n none) (N.new (.cells (bvs (List.replicate k v ++ List.replicate (n - k) 0#8)) true)) = some (.val (.int .i64 (m : Int)), N.new (.cells (bvs (List.replicate (k + m) v ++ List.replicate (n - (k + m)) 0#8)) true)) := by
    unfold evCopy
    rw [ty33]
    simp only [ty5]
    have he1 : evLen (.sl N.next k (n - k) (n - k) none) = some (n - k) := rfl
    have he2 : evLen (.sl N.next 0 k n none) = some k := rfl
    rw [he1, he2]
    simp only [← hm]
    rw [first_some hg hmk' hm0 (by rw [hcl]; omega)]
    simp only [AM.beq_ne hm0, cond_false]
    have hfirst : ((bvs (List.replicate k v ++ List.replicate (n - k) 0#8)).drop 0).take m = bvs (List.replicate m v) := by
      rw [List.drop_zero, bvs_append, List.take_append_of_le_length (by simp; omega)]
      unfold bvs
      rw [← List.map_take, List.take_replicate, Nat.min_eq_left hmk']
    rw [hfirst]
    have hst : (N.new (.cells (bvs (List.replicate k v ++ List.replicate (n - k) 0#8)) true)).storeAt N.next k (bvs (List.replicate m v)) = some (N.new (.cells (bvs (List.replicate (k + m) v ++ List.replicate (n - (k + m)) 0#8)) true)) := by
      unfold Mem.storeAt
      rw [hg]
      have hov : over (List.replicate k v ++ List.replicate (n - k) 0#8) k (List.replicate m v) = List.replicate (k + m) v ++ List.replicate (n - (k + m)) 0#8 := by
        unfold over
        rw [List.take_left' (by simp), List.length_replicate, ← List.drop_drop, List.drop_left' (by simp), List.drop_replicate, List.replicate_append_replicate]
        congr 2; omega
      simp only [hcl, bvs_length, List.length_replicate, ble_of (show k + m ≤ n by omega), cond_true, ones_of (bvs_one _), setAt_bvs (show k + (List.replicate m v).length ≤ (List.replicate k v ++ List.replicate (n - k) 0#8).length by simp; omega), Mem.new_put, hov]
    rw [hst]
    rfl
  refine bindO_i hcp2 ?_
  simp only [zI_int]
  refine ⟨n - (k + m), by omega, k + m, ?_, rfl, by omega, by omega, rfl⟩
  rw [iAdd, wrap_i64' (by omega) (by omega)]
  omega

/-! ## bytes -/

def pat (v : BitVec 8) (n : Nat) : List (BitVec 8) := (List.range n).map fun i => v + BitVec.ofNat 8 (i * 7)
@[simp] theorem pat_length (v : BitVec 8) (n : Nat) : (pat v n).length = n := by simp [pat]

end Go.Proofs.Ytjffimbigamadaa
