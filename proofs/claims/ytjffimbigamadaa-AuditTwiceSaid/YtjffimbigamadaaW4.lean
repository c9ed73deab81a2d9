import Derived.Test.YtjffimbigamadaaH14
import Derived.Test.YtjffimbigamadaaW3
set_option linter.unusedSimpArgs false
set_option linter.unusedVariables false
set_option linter.unusedSectionVars false
/- AuditWears. -/
namespace Go.Proofs.Ytjffimbigamadaa
open Go.AM

/-- Calm, blank, and erased so often at most. -/
structure Tm (C : Chip) (i : Nat) : Prop where
  calm : Calm C
  pgs : ∀ B ∈ C.bs, B.by' = List.replicate (C.g.pg.toNat * rawN C.g) 255#8
  wear : ∀ B ∈ C.bs, 0 ≤ B.wear ∧ B.wear ≤ (i : Int)

theorem Tm.new {g : Geo} {fsA : AV} {fs : List Flt} {bb : Nat} {bs : List Blk} (h : blank g bs) : Tm (newChip g fsA fs bb bs) 0 :=
  ⟨⟨rfl, rfl⟩, fun B hB => by have := h B hB; rw [this]; rfl, fun B hB => by have := h B hB; rw [this]; exact ⟨Int.le_refl _, Int.le_refl _⟩⟩

theorem Tm.idx {C : Chip} {i : Nat} (h : Tm C i) (hm : mayG C.g = true) (hl : C.bs.length = C.g.bl.toNat) : idx C (nP C.g) = [] := by
  unfold Go.Proofs.Ytjffimbigamadaa.idx
  rw [List.filter_eq_nil_iff]
  intro k hk
  rw [List.mem_range] at hk
  obtain ⟨_, p1, p2, _⟩ := pl_is hm hk
  have hr : 40 ≤ rawN C.g ∧ rawN C.g ≤ 80 := by have := mayG_iff.1 hm; unfold rawN; omega
  have hp : pgI C k = List.replicate (rawN C.g) 255#8 := by
    unfold pgI
    rw [List.getElem?_eq_getElem (by omega)]
    show pageB _ _ _ = _
    unfold pageB
    rw [h.pgs _ (List.getElem_mem _), rep_page p2]
  unfold okI
  rw [hp, state_blank hr.1 hr.2]
  simp
theorem Tm.sq {C : Chip} {i : Nat} (h : Tm C i) (hm : mayG C.g = true) (hl : C.bs.length = C.g.bl.toNat) : sqC C = [] := by
  unfold sqC; rw [h.idx hm hl]; rfl
theorem Tm.wears {C : Chip} {i : Nat} (h : Tm C i) (n k : Nat) : 0 ≤ (wsN C n).getD k 0 ∧ (wsN C n).getD k 0 ≤ (i : Int) := by
  rw [List.getD_eq_getElem?_getD]
  cases hk : (wsN C n)[k]? with
  | none => exact ⟨Int.le_refl _, Int.natCast_nonneg _⟩
  | some w =>
    have hm := List.mem_of_getElem? hk
    unfold wsN at hm
    rw [List.mem_map] at hm
    obtain ⟨b, _, rfl⟩ := hm
    show 0 ≤ wearOf C b ∧ wearOf C b ≤ i
    unfold wearOf
    split
    · split
      · rename_i B hB
        exact h.wear B (List.mem_of_getElem? hB)
      · exact ⟨Int.le_refl _, Int.natCast_nonneg _⟩
    · exact ⟨Int.le_refl _, Int.natCast_nonneg _⟩
theorem sprL_zero {ws : List Int} {gd : List Bool} (h : ∀ k, ws.getD k 0 = 0) : sprL ws gd = 0 := by
  unfold sprL
  rw [h, h]
  split <;> rfl
theorem gdN_get (C : Chip) {n k : Nat} (h : k < n) : (gdN C n).getD k false = (!badF C.fs (k : Int) && !failed C (k : Int)) := by
  rw [List.getD_eq_getElem?_getD, List.getElem?_eq_getElem (by rw [gdN_len]; exact h)]
  simp [gdN]

/-! ## Awake -/

theorem str_none {M : Mem} {xo yo : Operand} : eBin tb .eql 9 xo yo sNone sNone M = some (bv true, M) := eBin_some (by kernel_rfl)
theorem str_off {M : Mem} {xo yo : Operand} : eBin tb .eql 9 xo yo sOff sOff M = some (bv true, M) := eBin_some (by kernel_rfl)
theorem a_small (M : Mem) (hw : M.WF) : CallA tb.P 98 [] M fun y N => y = geoA ⟨8, 4, 32, 0, 2⟩ ∧ Keep M N [] := by
  refine F98_ok ?_
  unfold F98
  refine letP_i fun M1 hM1 => ?_
  subst hM1
  refine bindO_i (geo_st ⟨8, 4, 32, 0, 2⟩ (get_new M _) rfl) ?_
  refine bindO_i (geo_res (g := ⟨8, 4, 32, 0, 2⟩) (by rw [Mem.get_put, if_pos rfl])) ?_
  rw [Mem.new_put]
  exact ⟨rfl, Keep.new hw _⟩

theorem a_awake (M : Mem) (hw : M.WF) : CallA tb.P 52 [] M fun y N => y = .val (.bool true) := by
  refine F52_ok ?_
  unfold F52
  refine (a_small M hw).mono ?_
  rintro y M2 ⟨rfl, hk2⟩
  refine ⟨_, _, _, _, _, rfl, ?_⟩
  refine (c_new M2 hk2.wf ⟨8, 4, 32, 0, 2⟩ _ [] SlAt.nil (by simp)).mono ?_
  rintro y M9 ⟨hk9, hc⟩
  rcases hc with ⟨hno, _⟩ | ⟨hmay, p, fsA, bb, bs, rfl, hchip, hblank, hfoot, hfsA⟩
  · exfalso
    have : mayP ⟨8, 4, 32, 0, 2⟩ [] = true := by rw [mayP_nil]; rfl
    rw [this] at hno; cases hno
  have hT : Tm (newChip ⟨8, 4, 32, 0, 2⟩ fsA [] bb bs) 0 := Tm.new hblank
  have hg : (newChip ⟨8, 4, 32, 0, 2⟩ fsA [] bb bs).g = ⟨8, 4, 32, 0, 2⟩ := rfl
  have hf : (newChip ⟨8, 4, 32, 0, 2⟩ fsA [] bb bs).fs = [] := rfl
  have hcu : (newChip ⟨8, 4, 32, 0, 2⟩ fsA [] bb bs).cuts = 0 := rfl
  generalize newChip ⟨8, 4, 32, 0, 2⟩ fsA [] bb bs = C at *
  have hsq := hT.sq hchip.may hchip.len
  have hbl : C.g.bl.toNat = 8 := by rw [hg]; rfl
  have hspr : sprC C = 0 := sprL_zero fun k => by have := hT.wears C.g.bl.toNat k; omega
  have hlim : limI C = 18 := by unfold limI; rw [hg, hcu]; rfl
  have hgd : (gdN C C.g.bl.toNat).getD 7 false = true := by
    rw [gdN_get C (by omega), hf]
    have : failed C ((7 : Nat) : Int) = false := by
      unfold failed
      rw [hf]
      cases C.bs[((7 : Nat) : Int).toNat]? <;> rfl
    rw [this]; rfl
  refine (a_wears M9 hk9.wf p C hchip).mono ?_
  rintro y M11 ⟨x, z, rfl, hk11, hx, hz, fx, fz, _⟩
  refine ⟨x, z, rfl, ?_⟩
  refine letP_i fun K41 hK41 => ?_
  rw [nil_ne, bindO_some]
  simp only [zB_bool, condB_true]
  have h11 := hchip.keep hk9.wf hk11
  refine (a_why M11 hk11.wf p C h11 hT.calm).mono ?_
  rintro y M17 ⟨b, C2, rfl, hb, s17, r17, c17⟩
  have hbf : b = false := by
    cases b with
    | false => rfl
    | true => exact absurd (by rw [hsq]; exact List.nodup_nil) (hb.1 rfl)
  have hwhy : whyC C b = sNone := by
    rw [hbf]; unfold whyC
    rw [if_neg (by simp), hspr, hlim, if_neg (fun h => absurd h.1 (by omega))]
  rw [hwhy, str_none, bindO_some]
  simp only [zB_bool, condB_true]
  refine (a_nil M17).mono ?_
  rintro y N ⟨rfl, rfl⟩
  rw [str_off, bindO_some]
  simp only [zB_bool, condB_true]
  have nf : ∀ c, M9.next ≤ c → c ∉ foot p C := fun c hc hm => by have := hchip.lt hk9.wf c hm; omega
  have hx17 : GrV N x ((wsN C C.g.bl.toNat).map i64) := hx.mono fun c r hc hr => step_get s17 hk11.wf hr (nf c (fx c hc))
  have hz17 : GrV N z ((gdN C C.g.bl.toNat).map bv) := hz.mono fun c r hc hr => step_get s17 hk11.wf hr (nf c (fz c hc))
  refine bindO_i (ints_len hx17.at) ?_
  simp only [zI_int]
  rw [wsN_len, hbl]
  refine condB_i (fun _ => ?_) (fun h => by simp at h)
  refine bindO_i (bools_len hz17.at) ?_
  simp only [zI_int]
  rw [gdN_len, hbl]
  refine condB_i (fun _ => ?_) (fun h => by simp at h)
  obtain ⟨b1, o1, f1, _, f2⟩ := bool_one hz17.at (i := 7) (by rw [gdN_len, hbl]; decide)
  refine bindO_i (f1 N) ?_
  simp only [zP_ptr]
  refine bindO_i f2 ?_
  rw [hgd]
  simp only [zB_bool, condB_true]
  refine (a_spread N s17.wf p C2 s17.at').mono ?_
  rintro y M34 ⟨rfl, hk34⟩
  rw [r17.spr, hspr]
  simp only [i64, zI_int]
  refine condB_i (fun _ => ?_) (fun h => by simp at h)
  refine (a_limit M34 hk34.wf p C2 (s17.at'.keep s17.wf hk34)).mono ?_
  rintro y M37 ⟨rfl, hk37⟩
  rw [r17.lim c17.cuts, hlim]
  simp only [i64, zI_int]
  rw [hK41]
  rfl

end Go.Proofs.Ytjffimbigamadaa
