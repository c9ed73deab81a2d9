import Derived.Test.YtjffimbigamadaaH14
import Derived.Test.YtjffimbigamadaaW3
set_option linter.unusedSimpArgs false
set_option linter.unusedVariables false
set_option linter.unusedSectionVars false
/- AuditWears. -/
namespace Go.Proofs.Ytjffimbigamadaa
open Go.AM

/-- Calm, blank, and erased so often at most. -/
structure Tm (C : Chip) (i : Nat) : Prop where
  calm : Calm C
  pgs : ∀ B ∈ C.bs, B.by' = List.replicate (C.g.pg.toNat * rawN C.g) 255#8
  wear : ∀ B ∈ C.bs, 0 ≤ B.wear ∧ B.wear ≤ (i : Int)

theorem Tm.new {g : Geo} {fsA : AV} {fs : List Flt} {bb : Nat} {bs : List Blk} (h : blank g bs) : Tm (newChip g fsA fs bb bs) 0 :=
  ⟨⟨rfl, rfl⟩, fun B hB => by have := h B hB; rw [this]; rfl, fun B hB => by have := h B hB; rw [this]; exact ⟨Int.le_refl _, Int.le_refl _⟩⟩

theorem Tm.er {C : Chip} {i : Nat} (h : Tm C i) (hi : i ≤ 1000) (b : Int) : Tm (erR C b).1 (i + 1) := by
  obtain ⟨h1, h2, h3⟩ := h.calm.bg
  have up : Tm C (i + 1) := ⟨h.calm, h.pgs, fun B hB => by have := h.wear B hB; omega⟩
  have upb : Tm (bgC C) (i + 1) := ⟨h3, by rw [h2]; exact up.pgs, by rw [h2]; exact up.wear⟩
  have hF : erF C = 255#8 := by unfold erF; rw [h1]; rfl
  unfold erR
  split
  · rw [hF]
    show Tm (erS (bgC C) 255#8 b.toNat).1 (i + 1)
    unfold erS
    split
    · exact upb
    · rename_i B hB
      split
      · exact upb
      · have hm : B ∈ C.bs := by rw [h2] at hB; exact List.mem_of_getElem? hB
        refine ⟨⟨h3.off, h3.turn⟩, fun B' hB' => ?_, fun B' hB' => ?_⟩
        · have hB' : B' ∈ (bgC C).bs.set b.toNat _ := hB'
          rcases List.mem_or_eq_of_mem_set hB' with hm' | rfl
          · exact upb.pgs B' hm'
          · show List.replicate B.by'.length 255#8 = _
            rw [h.pgs B hm, List.length_replicate]
            show _ = List.replicate ((bgC C).g.pg.toNat * rawN (bgC C).g) 255#8
            rw [h2]
        · have hB' : B' ∈ (bgC C).bs.set b.toNat _ := hB'
          rcases List.mem_or_eq_of_mem_set hB' with hm' | rfl
          · exact upb.wear B' hm'
          · have := h.wear B hm
            show 0 ≤ iAdd .i64 B.wear 1 ∧ iAdd .i64 B.wear 1 ≤ _
            rw [iAdd, wrap_i64' (by omega) (by omega)]
            omega
  · exact up

theorem Tm.idx {C : Chip} {i : Nat} (h : Tm C i) (hm : mayG C.g = true) (hl : C.bs.length = C.g.bl.toNat) : idx C (nP C.g) = [] := by
  unfold Go.Proofs.Ytjffimbigamadaa.idx
  rw [List.filter_eq_nil_iff]
  intro k hk
  rw [List.mem_range] at hk
  obtain ⟨_, p1, p2, _⟩ := pl_is hm hk
  have hr : 40 ≤ rawN C.g ∧ rawN C.g ≤ 80 := by have := mayG_iff.1 hm; unfold rawN; omega
  have hp : pgI C k = List.replicate (rawN C.g) 255#8 := by
    unfold pgI
    rw [List.getElem?_eq_getElem (by omega)]
    show pageB _ _ _ = _
    unfold pageB
    rw [h.pgs _ (List.getElem_mem _), rep_page p2]
  unfold okI
  rw [hp, state_blank hr.1 hr.2]
  simp
theorem Tm.sq {C : Chip} {i : Nat} (h : Tm C i) (hm : mayG C.g = true) (hl : C.bs.length = C.g.bl.toNat) : sqC C = [] := by
  unfold sqC; rw [h.idx hm hl]; rfl
theorem Tm.wears {C : Chip} {i : Nat} (h : Tm C i) (n k : Nat) : 0 ≤ (wsN C n).getD k 0 ∧ (wsN C n).getD k 0 ≤ (i : Int) := by
  rw [List.getD_eq_getElem?_getD]
  cases hk : (wsN C n)[k]? with
  | none => exact ⟨Int.le_refl _, Int.natCast_nonneg _⟩
  | some w =>
    have hm := List.mem_of_getElem? hk
    unfold wsN at hm
    rw [List.mem_map] at hm
    obtain ⟨b, _, rfl⟩ := hm
    show 0 ≤ wearOf C b ∧ wearOf C b ≤ i
    unfold wearOf
    split
    · split
      · rename_i B hB
        exact h.wear B (List.mem_of_getElem? hB)
      · exact ⟨Int.le_refl _, Int.natCast_nonneg _⟩
    · exact ⟨Int.le_refl _, Int.natCast_nonneg _⟩
theorem sprL_zero {ws : List Int} {gd : List Bool} (h : ∀ k, ws.getD k 0 = 0) : sprL ws gd = 0 := by
  unfold sprL
  rw [h, h]
  split <;> rfl
theorem wsN_get (C : Chip) {n k : Nat} (h : k < n) : (wsN C n).getD k 0 = wearOf C (k : Int) := by
  rw [List.getD_eq_getElem?_getD, List.getElem?_eq_getElem (by rw [wsN_len]; exact h)]
  simp [wsN]
theorem gdN_get (C : Chip) {n k : Nat} (h : k < n) : (gdN C n).getD k false = (!badF C.fs (k : Int) && !failed C (k : Int)) := by
  rw [List.getD_eq_getElem?_getD, List.getElem?_eq_getElem (by rw [gdN_len]; exact h)]
  simp [gdN]

/-! ## Awake -/

theorem str_none {M : Mem} {xo yo : Operand} : eBin tb .eql 9 xo yo sNone sNone M = some (bv true, M) := eBin_some (by kernel_rfl)
theorem str_off {M : Mem} {xo yo : Operand} : eBin tb .eql 9 xo yo sOff sOff M = some (bv true, M) := eBin_some (by kernel_rfl)
theorem str_wear {M : Mem} {xo yo : Operand} : eBin tb .eql 9 xo yo sWear sWear M = some (bv true, M) := eBin_some (by kernel_rfl)

theorem a_small (M : Mem) (hw : M.WF) : CallA tb.P 98 [] M fun y N => y = geoA ⟨8, 4, 32, 0, 2⟩ ∧ Keep M N [] := by
  refine F98_ok ?_
  unfold F98
  refine letP_i fun M1 hM1 => ?_
  subst hM1
  refine bindO_i (geo_st ⟨8, 4, 32, 0, 2⟩ (get_new M _) rfl) ?_
  refine bindO_i (geo_res (g := ⟨8, 4, 32, 0, 2⟩) (by rw [Mem.get_put, if_pos rfl])) ?_
  rw [Mem.new_put]
  exact ⟨rfl, Keep.new hw _⟩

theorem a_awake (M : Mem) (hw : M.WF) : CallA tb.P 52 [] M fun y N => y = .val (.bool true) := by
  refine F52_ok ?_
  unfold F52
  refine (a_small M hw).mono ?_
  rintro y M2 ⟨rfl, hk2⟩
  refine ⟨_, _, _, _, _, rfl, ?_⟩
  refine (c_new M2 hk2.wf ⟨8, 4, 32, 0, 2⟩ _ [] SlAt.nil (by simp)).mono ?_
  rintro y M9 ⟨hk9, hc⟩
  rcases hc with ⟨hno, _⟩ | ⟨hmay, p, fsA, bb, bs, rfl, hchip, hblank, hfoot, hfsA⟩
  · exfalso
    have : mayP ⟨8, 4, 32, 0, 2⟩ [] = true := by rw [mayP_nil]; rfl
    rw [this] at hno; cases hno
  have hT : Tm (newChip ⟨8, 4, 32, 0, 2⟩ fsA [] bb bs) 0 := Tm.new hblank
  have hg : (newChip ⟨8, 4, 32, 0, 2⟩ fsA [] bb bs).g = ⟨8, 4, 32, 0, 2⟩ := rfl
  have hf : (newChip ⟨8, 4, 32, 0, 2⟩ fsA [] bb bs).fs = [] := rfl
  have hcu : (newChip ⟨8, 4, 32, 0, 2⟩ fsA [] bb bs).cuts = 0 := rfl
  generalize newChip ⟨8, 4, 32, 0, 2⟩ fsA [] bb bs = C at *
  have hsq := hT.sq hchip.may hchip.len
  have hbl : C.g.bl.toNat = 8 := by rw [hg]; rfl
  have hspr : sprC C = 0 := sprL_zero fun k => by have := hT.wears C.g.bl.toNat k; omega
  have hlim : limI C = 18 := by unfold limI; rw [hg, hcu]; rfl
  have hgd : (gdN C C.g.bl.toNat).getD 7 false = true := by
    rw [gdN_get C (by omega), hf]
    have : failed C ((7 : Nat) : Int) = false := by
      unfold failed
      rw [hf]
      cases C.bs[((7 : Nat) : Int).toNat]? <;> rfl
    rw [this]; rfl
  refine (a_wears M9 hk9.wf p C hchip).mono ?_
  rintro y M11 ⟨x, z, rfl, hk11, hx, hz, fx, fz, _⟩
  refine ⟨x, z, rfl, ?_⟩
  refine letP_i fun K41 hK41 => ?_
  rw [nil_ne, bindO_some]
  simp only [zB_bool, condB_true]
  have h11 := hchip.keep hk9.wf hk11
  refine (a_why M11 hk11.wf p C h11 hT.calm).mono ?_
  rintro y M17 ⟨b, C2, rfl, hb, s17, r17, c17⟩
  have hbf : b = false := by
    cases b with
    | false => rfl
    | true => exact absurd (by rw [hsq]; exact List.nodup_nil) (hb.1 rfl)
  have hwhy : whyC C b = sNone := by
    rw [hbf]; unfold whyC
    rw [if_neg (by simp), hspr, hlim, if_neg (fun h => absurd h.1 (by omega))]
  rw [hwhy, str_none, bindO_some]
  simp only [zB_bool, condB_true]
  refine (a_nil M17).mono ?_
  rintro y N ⟨rfl, rfl⟩
  rw [str_off, bindO_some]
  simp only [zB_bool, condB_true]
  have nf : ∀ c, M9.next ≤ c → c ∉ foot p C := fun c hc hm => by have := hchip.lt hk9.wf c hm; omega
  have hx17 : GrV N x ((wsN C C.g.bl.toNat).map i64) := hx.mono fun c r hc hr => step_get s17 hk11.wf hr (nf c (fx c hc))
  have hz17 : GrV N z ((gdN C C.g.bl.toNat).map bv) := hz.mono fun c r hc hr => step_get s17 hk11.wf hr (nf c (fz c hc))
  refine bindO_i (ints_len hx17.at) ?_
  simp only [zI_int]
  rw [wsN_len, hbl]
  refine condB_i (fun _ => ?_) (fun h => by simp at h)
  refine bindO_i (bools_len hz17.at) ?_
  simp only [zI_int]
  rw [gdN_len, hbl]
  refine condB_i (fun _ => ?_) (fun h => by simp at h)
  obtain ⟨b1, o1, f1, _, f2⟩ := bool_one hz17.at (i := 7) (by rw [gdN_len, hbl]; decide)
  refine bindO_i (f1 N) ?_
  simp only [zP_ptr]
  refine bindO_i f2 ?_
  rw [hgd]
  simp only [zB_bool, condB_true]
  refine (a_spread N s17.wf p C2 s17.at').mono ?_
  rintro y M34 ⟨rfl, hk34⟩
  rw [r17.spr, hspr]
  simp only [i64, zI_int]
  refine condB_i (fun _ => ?_) (fun h => by simp at h)
  refine (a_limit M34 hk34.wf p C2 (s17.at'.keep s17.wf hk34)).mono ?_
  rintro y M37 ⟨rfl, hk37⟩
  rw [r17.lim c17, hlim]
  simp only [i64, zI_int]
  rw [hK41]
  rfl

set_option maxRecDepth 100000 in
theorem audit_wears (M : Mem) (hw : M.WF) (g : Geo) (fx : AV) (fs : List Flt) (hfx : FltsAt M fx fs) (hfl : fs.length ≤ 9223372036854775807) (block many : Int) :
    CallA tb.P 13 [geoA g, fx, i64 block, i64 many] M fun y _ => y = .val (.bool true) := by
  refine F13_ok ?_
  unfold F13
  refine ⟨_, _, _, _, _, rfl, ?_⟩
  simp only [i64, zI_int]
  refine letP_i fun M8 hM8 => ?_
  have hM8' : M8 = M.new (.cells (geoC g) true) := hM8
  have hk8 : Keep M M8 [] := by rw [hM8']; exact Keep.new hw _
  have hg8 : M8.get M.next = some (.cells (geoC g) true) := by rw [hM8']; exact get_new _ _
  clear hM8 hM8'
  have hf8 : FltsAt M8 fx fs := SlAt.keep0 hfx hw hk8
  refine bindO_i (eLen_some hf8.len) ?_
  simp only [zI_int]
  refine condB_i (fun _ => ?_) (fun _ => ?_)
  · refine (a_awake M8 hk8.wf).mono ?_
    rintro y N rfl
    simp only [zB_bool]
  refine bindO_i (eLd_some (geo_ld hg8).2.2.2.2.2) ?_
  refine ⟨_, _, _, _, _, rfl, ?_⟩
  refine (c_new M8 hk8.wf g fx fs hf8 hfl).mono ?_
  clear hfl
  rintro y M21 ⟨hk21, hc⟩
  have hg21 := hk21.get hk8.wf hg8 (by simp)
  refine letP_i fun K35 hK35 => ?_
  rcases hc with ⟨hno, rfl⟩ | ⟨hmay, p, fsA, bb, bs, rfl, hchip, hblank, hfoot, hfsA⟩
  · rw [nil_nil24, bindO_some]
    simp only [zB_bool, condB_true]
    rw [hK35]
    simp only [condB_true]
    refine (a_awake M21 hk21.wf).mono ?_
    rintro y N rfl
    simp only [zB_bool]
  rw [nil_eq, bindO_some]
  simp only [zB_bool, condB_false]
  refine bindO_i (eLd_some (geo_ld hg21).2.2.2.2.2) ?_
  refine ⟨_, _, _, _, _, rfl, ?_⟩
  have hmg : mayG g = true := hchip.may
  refine (c_may16 M21 hk21.wf g).mono ?_
  rintro y M31 ⟨rfl, hk31⟩
  rw [hmg, hK35]
  simp only [zB_bool, Bool.not_true, condB_false]
  clear hK35 K35
  have hT0 : Tm (newChip g fsA fs bb bs) 0 := Tm.new hblank
  have hCg : (newChip g fsA fs bb bs).g = g := rfl
  generalize newChip g fsA fs bb bs = C at *
  subst hCg
  obtain ⟨hn1, hn2, e1, e2, h3, h3', h4, h4'⟩ := nP_bnd hmg
  have hg31 := hk31.get hk21.wf hg21 (by simp)
  have h31 := hchip.keep hk21.wf hk31
  have hmn : M.next < M8.next := hk8.wf _ _ hg8
  have hft : ∀ c ∈ foot p C, M8.next ≤ c ∧ c < M31.next := fun c hc => ⟨hfoot c hc, h31.lt hk31.wf c hc⟩
  have hfsl : ∀ c, inBlk C.fsA c → c < M31.next := fun c hc => SlAt.blk_lt h31.flt hk31.wf hc
  have hgnf : M.next ∉ foot p C := fun hm => by have := hft _ hm; omega
  have ld0 : ∀ P, P.get M.next = some (.cells (geoC C.g) true) → eLd tb 3 (.ptr M.next 0) P = some (.val (.int .i64 (C.g.bl.toNat : Int)), P) := fun P h => by
    rw [← e1]; exact eLd_some (geo_ld h).1
  refine bindO_i (ld0 M31 hg31) ?_
  simp only [zI_int]
  refine (low M31 block C.g.bl.toNat (by omega) (by omega)).mono ?_
  rintro y M42 ⟨rfl, rfl⟩
  simp only [zI_int]
  have hbl := lowOf_lt block (show 0 < C.g.bl.toNat by omega)
  generalize lowOf block C.g.bl.toNat = bk at *
  have hml := lowOf_lt many (n := 200) (by omega)
  -- erase so often
  refine ⟨fun z n P => ∃ (i : Nat) (C1 : Chip), z = i ∧ n = lowOf many 200 - i ∧ i ≤ lowOf many 200 ∧ Step M42 P p C C1 ∧ Tm C1 i, ⟨lowOf many 200, 0, C, rfl, rfl, Nat.zero_le _, Step.refl hk31.wf h31, hT0⟩, ?_⟩
  rintro _ z n P ⟨i, C1, rfl, rfl, hi, s1, hT1⟩
  refine (low P many 200 (by omega) (by omega)).mono ?_
  rintro y P2 ⟨rfl, rfl⟩
  simp only [zI_int]
  refine condB_i (fun hlt => ?_) (fun _ => ?_)
  · have hlt : i < lowOf many 200 := Int.ofNat_lt.1 (of_decide_eq_true hlt)
    refine (c_erase P2 s1.wf p C1 s1.at' bk).mono ?_
    rintro y P3 ⟨rfl, s3⟩
    simp only [i64, zI_int]
    exact ⟨lowOf many 200 - (i + 1), by omega, i + 1, _, iInc (by omega), rfl, hlt, s1.trans s3, hT1.er (by omega) _⟩
  -- what is told
  have hgP := step_get s1 hk31.wf hg31 hgnf
  have hgC : C1.g = C.g := s1.g
  have hc1 := s1.at'
  have hw1 := s1.wf
  have hfoot1 : foot p C1 = foot p C := s1.foot
  have hfsA1 : C1.fsA = C.fsA := s1.fsA
  have hn1' := s1.keep.nxt
  have hml1 : mayG C1.g = true := by rw [hgC]; exact hmg
  have ld0 : ∀ N, N.get M.next = some (.cells (geoC C1.g) true) → eLd tb 3 (.ptr M.next 0) N = some (.val (.int .i64 (C1.g.bl.toNat : Int)), N) := fun N h => by rw [hgC] at h ⊢; exact ld0 N h
  rw [← hgC] at hgP h4 h4' hmg
  clear hg31 hg21 hg8
  have hMn : M.next < P2.next := hw1 _ _ hgP
  have hfl1 : ∀ c, c ∈ foot p C1 ∨ inBlk C1.fsA c → c < P2.next := fun c hc => by
    rw [hfoot1, hfsA1] at hc
    rcases hc with hc | hc
    · have := (hft c hc).2; omega
    · have := hfsl c hc; omega
  have hiw : (i : Int) ≤ 1000000 := by omega
  generalize lowOf many 200 = q at *
  clear s1 h31 hft hfsl hfoot hchip hT0 hfoot1 hfsA1
  refine (a_wears P2 hw1 p C1 hc1).mono ?_
  rintro y M57 ⟨x, z, rfl, hk57, hx, hz, fx, fz, fd⟩
  have hg57 := hk57.get hw1 hgP (by simp)
  have hc57 := hc1.keep hw1 hk57
  refine ⟨x, z, rfl, ?_⟩
  refine letP_i fun K69 hK69 => ?_
  refine bindO_i (ints_len hx.at) ?_
  simp only [zI_int]
  refine bindO_i (ld0 M57 hg57) ?_
  simp only [zI_int]
  rw [wsN_len, bne_self_eq_false]
  simp only [condB_false]
  refine bindO_i (bools_len hz.at) ?_
  simp only [zI_int]
  refine bindO_i (ld0 M57 hg57) ?_
  simp only [zI_int]
  rw [gdN_len, bne_self_eq_false, hK69]
  clear hK69
  simp only [condB_false]
  have hW := hT1.wears C1.g.bl.toNat
  -- each block
  refine ⟨fun z n N => ∃ j : Nat, z = j ∧ n = C1.g.bl.toNat - j ∧ j ≤ C1.g.bl.toNat ∧ Keep M57 N [], ⟨C1.g.bl.toNat, 0, rfl, rfl, Nat.zero_le _, Keep.refl hk57.wf⟩, ?_⟩
  rintro _ z1 n1 N ⟨j, rfl, rfl, hj, hkN⟩
  have hgN := hkN.get hk57.wf hg57 (by simp)
  have hcN := hc57.keep hk57.wf hkN
  have hxN := hx.keep0 hk57.wf hkN
  have hzN := hz.keep0 hk57.wf hkN
  refine bindO_i (ld0 N hgN) ?_
  simp only [zI_int]
  refine condB_i (fun hlt => ?_) (fun _ => ?_)
  · have hlt : j < C1.g.bl.toNat := Int.ofNat_lt.1 (of_decide_eq_true hlt)
    refine letP_i fun K106 hK106 => ?_
    have next : ∀ N', Keep N N' [] → K106 false N' := fun N' hk => by
      rw [hK106]
      simp only [condB_false]
      exact ⟨C1.g.bl.toNat - (j + 1), by omega, j + 1, iInc (by omega), rfl, hlt, hkN.trans0 hk⟩
    clear hK106
    obtain ⟨b1, o1, f1, _, f2⟩ := int_one hxN.at (i := j) (by rw [wsN_len]; exact hlt)
    rw [wsN_get C1 hlt] at f2
    refine bindO_i (f1 N) ?_
    simp only [zP_ptr]
    refine bindO_i f2 ?_
    simp only [zI_int]
    refine (c_wear N hkN.wf p C1 hcN _).mono ?_
    rintro y M83 ⟨rfl, hk83⟩
    simp only [i64, zI_int]
    have hKx : ∀ Q, Keep N Q [] → eLd tb 3 (.ptr b1 o1) Q = some (.val (.int .i64 (wearOf C1 (j : Int))), Q) := fun Q hk => by
      obtain ⟨b2, o2, g1, _, g2⟩ := int_one (hxN.keep0 hkN.wf hk).at (i := j) (by rw [wsN_len]; exact hlt)
      have := (f1 Q).symm.trans (g1 Q)
      injection this with this
      injection this with h1 h2
      injection h1 with h1 h3
      subst h1 h3
      rw [wsN_get C1 hlt] at g2
      exact g2
    refine ⟨bindO_i (hKx M83 hk83) rfl, ?_⟩
    refine condB_i (fun h => by simp at h) (fun _ => ?_)
    obtain ⟨b3, o3, f3, _, _⟩ := bool_one hzN.at (i := j) (by rw [gdN_len]; exact hlt)
    have hKz : ∀ Q, Keep N Q [] → eLd tb 4 (.ptr b3 o3) Q = some (.val (.bool (!badF C1.fs (j : Int) && !failed C1 (j : Int))), Q) := fun Q hk => by
      obtain ⟨b2, o2, g1, _, g2⟩ := bool_one (hzN.keep0 hkN.wf hk).at (i := j) (by rw [gdN_len]; exact hlt)
      have := (f3 Q).symm.trans (g1 Q)
      injection this with this
      injection this with h1 h2
      injection h1 with h1 h3
      subst h1 h3
      rw [gdN_get C1 hlt] at g2
      exact g2
    refine bindO_i (f3 M83) ?_
    simp only [zP_ptr]
    refine bindO_i (hKz M83 hk83) ?_
    simp only [zB_bool]
    refine (c_badOf M83 hk83.wf p C1 (hcN.keep hkN.wf hk83) _).mono ?_
    rintro y M92 ⟨rfl, hk92⟩
    simp only [zB_bool]
    have hK92 := hk83.trans0 hk92
    refine ⟨bindO_i (hKz M92 hK92) rfl, ?_⟩
    refine condB_i (fun hb => ?_) (fun hb => ?_)
    · have hb : badF C1.fs (j : Int) = false := by simpa using hb
      refine (c_failed M92 hK92.wf p C1 (hcN.keep hkN.wf hK92) _).mono ?_
      rintro y M96 ⟨rfl, hk96⟩
      simp only [zB_bool]
      have hK96 := hK92.trans0 hk96
      refine ⟨bindO_i (hKz M96 hK96) rfl, ?_⟩
      rw [hb]
      refine bindO_i (ne_bool _ _ _ _ M96) ?_
      simp only [zB_bool]
      have : ((!false && !failed C1 (j : Int)) != !failed C1 (j : Int)) = false := by cases failed C1 (j : Int) <;> rfl
      rw [this]
      exact next M96 hK96
    · have hb : badF C1.fs (j : Int) = true := by simpa using hb
      refine ⟨bindO_i (hKz M92 hK92) rfl, ?_⟩
      rw [hb]
      refine bindO_i (ne_bool _ _ _ _ M92) ?_
      simp only [zB_bool]
      exact next M92 hK92
  -- the spread
  refine (a_spread N hkN.wf p C1 hcN).mono ?_
  rintro y M109 ⟨rfl, hk109⟩
  simp only [i64, zI_int]
  have hKM := hkN.trans0 hk109
  have hg109 := hk109.get hkN.wf hgN (by simp)
  have hc109 := hcN.keep hkN.wf hk109
  have hz109 := hzN.keep0 hkN.wf hk109
  have hx109 := hxN.keep0 hkN.wf hk109
  clear hgN hcN hxN hzN hg57 hc57 hgP
  refine ⟨fun a z n R => ∃ j : Nat, a = lostN (gdN C1 C1.g.bl.toNat) j ∧ z = j ∧ n = C1.g.bl.toNat - j ∧ j ≤ C1.g.bl.toNat ∧ R = M109, ⟨C1.g.bl.toNat, 0, rfl, rfl, rfl, Nat.zero_le _, rfl⟩, ?_⟩
  rintro _ a z1 n1 R ⟨j', rfl, rfl, rfl, hj', rfl⟩
  have hle := lostN_le (gdN C1 C1.g.bl.toNat) j'
  refine bindO_i (ld0 R hg109) ?_
  simp only [zI_int]
  refine condB_i (fun hlt => ?_) (fun hge => ?_)
  · have hlt : j' < C1.g.bl.toNat := Int.ofNat_lt.1 (of_decide_eq_true hlt)
    refine letP_i fun K hK => ?_
    obtain ⟨b, o, f1, _, f3⟩ := bool_one hz109.at (i := j') (by rw [gdN_len]; omega)
    refine bindO_i (f1 R) ?_
    simp only [zP_ptr]
    refine bindO_i f3 ?_
    simp only [zB_bool]
    have hs := lostN_succ (gdN C1 C1.g.bl.toNat) j'
    cases hgg : (gdN C1 C1.g.bl.toNat).getD j' false with
    | true =>
      simp only [Bool.not_true, condB_false]
      rw [hK]
      exact ⟨C1.g.bl.toNat - (j' + 1), by omega, j' + 1, by rw [hs, if_pos hgg, Nat.add_zero], iInc (by omega), rfl, hlt, by trivial⟩
    | false =>
      simp only [Bool.not_false, condB_true]
      rw [hK]
      exact ⟨C1.g.bl.toNat - (j' + 1), by omega, j' + 1, by rw [iInc (by omega), hs, if_neg (by rw [hgg]; simp)], iInc (by omega), rfl, hlt, by trivial⟩
  have hge : j' = C1.g.bl.toNat := by have : ¬ (j' : Int) < C1.g.bl.toNat := of_decide_eq_false hge
                                      omega
  subst hge
  refine letP_i fun K137 hK137 => ?_
  -- the rest, once what is wanted is known
  have main : ∀ N', Keep R N' [] → K137 (whyC C1 false) N' := by
    intro N' hkN'
    rw [hK137]
    have hxN' := hx109.keep0 hk109.wf hkN'
    have hzN' := hz109.keep0 hk109.wf hkN'
    refine (l_overI N' hkN'.wf x _ hxN' (by rw [List.length_map, wsN_len]; omega)).mono ?_
    rintro y M139 ⟨hw139, hn139, hold⟩
    have hKR := hKM.trans0 hkN'
    have hP2N : P2.next ≤ N'.next := Nat.le_trans hk57.nxt hKR.nxt
    have hxlt : ∀ c, c < P2.next → ¬ inBlk x c := fun c hc hm => by have := fx c hm; omega
    have hc139 : ChipAt M139 p C1 := ((hc109.keep hk109.wf hkN')).of_get fun c r hc hr => by
      have := hfl1 c hc
      rw [hold c (by omega) (hxlt c this)]; exact hr
    have hg139 : M139.get M.next = some (.cells (geoC C1.g) true) := by
      rw [hold _ (by omega) (hxlt _ hMn)]
      exact hkN'.get hk109.wf hg109 (by simp)
    have hz139 : GrV M139 z ((gdN C1 C1.g.bl.toNat).map bv) := hzN'.mono fun c r hc hr => by
      rw [hold c (hkN'.wf _ _ hr) (fun hm => fd c hm hc)]; exact hr
    refine letP_i fun K175 hK175 => ?_
    refine (l_wears M139 hw139 p C1 hc139).mono ?_
    rintro u M141 ⟨hk141, hu, _⟩
    refine (r_spread M141 u z _ _ hu.at (hz139.keep0 hw139 hk141).at (by rw [gdN_len, wsN_len]) (by rw [wsN_len]; omega) (fun k => by have := hW k; omega)).mono ?_
    rintro y M143 ⟨rfl, rfl⟩
    simp only [i64, zI_int]
    have hc143 := hc139.keep hw139 hk141
    have hg143 := hk141.get hw139 hg139 (by simp)
    refine condB_i (fun _ => ?_) (fun h => by unfold sprC at h; simp at h)
    refine bindO_i (eLd_some (geo_ld hg143).2.2.2.2.1) ?_
    simp only [i64, zI_int]
    refine bindO_i (eLd_some (geo_ld hg143).2.2.2.2.2) ?_
    refine ⟨_, _, _, _, _, rfl, ?_⟩
    refine (a_limit M143 hk141.wf p C1 hc143).mono ?_
    rintro y M154 ⟨rfl, hk154⟩
    simp only [i64, zI_int]
    have hg154 := hk154.get hk141.wf hg143 (by simp)
    refine ⟨bindO_i (eLd_some (geo_ld hg154).2.2.2.2.1) rfl, bindO_i (eLd_some (geo_ld hg154).2.2.2.2.2) rfl, ?_⟩
    refine (c_slack M154 hk154.wf C1.g hml1).mono ?_
    rintro y M159 ⟨rfl, hk159⟩
    simp only [i64, zI_int]
    have hg159 := hk159.get hk154.wf hg154 (by simp)
    refine ⟨bindO_i (eLd_some (geo_ld hg159).2.2.2.2.1) rfl, ?_⟩
    have hc159 := (hc143.keep hk141.wf hk154).keep hk154.wf hk159
    refine (c_cuts M159 hk159.wf p C1 hc159).mono ?_
    rintro y M163 ⟨rfl, rfl⟩
    simp only [i64, zI_int]
    refine ⟨bindO_i (eLd_some (geo_ld hg159).2.2.2.2.1) rfl, ?_⟩
    refine condB_i (fun _ => ?_) (fun h => by unfold limI at h; simp at h)
    refine (a_why M163 hk159.wf p C1 hc159 hT1.calm).mono ?_
    rintro y M167 ⟨b, C2, rfl, hb, s167, _, _⟩
    have hbf : b = false := by
      cases b with
      | false => rfl
      | true => exact absurd (by rw [hT1.sq hml1 hc1.len]; exact List.nodup_nil) (hb.1 rfl)
    rw [hbf]
    have hself : ∀ xo yo, eBin tb .eql 9 xo yo (whyC C1 false) (whyC C1 false) M167 = some (bv true, M167) := fun xo yo => by
      unfold whyC
      rw [if_neg (by simp)]
      split
      · exact str_wear
      · exact str_none
    refine bindO_i (hself _ _) ?_
    simp only [zB_bool, condB_true]
    refine (a_awake M167 s167.wf).mono ?_
    rintro y N3 rfl
    simp only [zB_bool]
    rw [hK175]
  clear hK137
  refine letP_i fun K134 hK134 => ?_
  have yes : ∀ (N' : Mem) (w : Bool), Keep R N' [] → (w = true ↔ limI C1 < sprC C1 ∧ (lostN (gdN C1 C1.g.bl.toNat) C1.g.bl.toNat : Int) ≤ C1.g.sp) → K134 w N' := by
    intro N' w hk hw'
    rw [hK134]
    have hm := main N' hk
    unfold whyC at hm
    rw [if_neg (by simp)] at hm
    refine condB_i (fun q => ?_) (fun q => ?_)
    · rw [if_pos (hw'.1 q)] at hm; exact hm
    · rw [if_neg (fun e => by rw [hw'.2 e] at q; cases q)] at hm; exact hm
  clear hK134
  refine (a_limit R hk109.wf p C1 hc109).mono ?_
  rintro y M128 ⟨rfl, hk128⟩
  simp only [i64, zI_int]
  refine condB_i (fun hgt => ?_) (fun hgt => ?_)
  · have hgt : limI C1 < sprC C1 := of_decide_eq_true hgt
    refine bindO_i (eLd_some (geo_ld (hk128.get hk109.wf hg109 (by simp))).2.2.2.1) ?_
    simp only [i64, zI_int]
    refine yes M128 _ hk128 ?_
    rw [decide_eq_true_eq]
    exact ⟨fun q => ⟨hgt, q⟩, fun q => q.2⟩
  · have hgt : ¬ limI C1 < sprC C1 := of_decide_eq_false hgt
    exact yes M128 false hk128 ⟨fun q => by simp at q, fun q => absurd q.1 hgt⟩

end Go.Proofs.Ytjffimbigamadaa
