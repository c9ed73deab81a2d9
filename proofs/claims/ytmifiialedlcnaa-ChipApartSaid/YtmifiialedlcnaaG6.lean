import Derived.Test.YtmifiialedlcnaaG5
set_option linter.unusedSimpArgs false
set_option linter.unusedVariables false
/- What a chip is in memory; power, operations. -/
namespace Go.Proofs.Ytmifiialedlcnaa
open Go.AM
set_option linter.unusedSectionVars false

structure Blk where
  b : Nat
  by' : List (BitVec 8)
  next : Int
  wear : Int
  done : Int
def blkC (B : Blk) : List AV := [.sl B.b 0 B.by'.length B.by'.length none, i64 B.next, i64 B.wear, i64 B.done]
theorem blkC_len (B : Blk) : (blkC B).length = 4 := rfl

structure Chip where
  g : Geo
  fsA : AV
  fs : List Flt
  bb : Nat
  bs : List Blk
  off : Bool
  ops : Int
  cuts : Int
  cop : Int
  cby : Int
  cf : BitVec 8
  turn : Int
def blksA (C : Chip) : AV := .sl C.bb 0 C.bs.length C.bs.length (some 4)
def chipC (C : Chip) : List AV := [i64 C.g.bl, i64 C.g.pg, i64 C.g.by', i64 C.g.sp, i64 C.g.tr, C.fsA, blksA C, .val (.bool C.off), i64 C.ops, i64 C.cuts, i64 C.cop, i64 C.cby, bv8 C.cf, i64 C.turn]
def foot (p : Nat) (C : Chip) : List Nat := p :: C.bb :: C.bs.map (·.b)

structure ChipAt (M : Mem) (p : Nat) (C : Chip) : Prop where
  main : M.get p = some (.cells (chipC C) true)
  tab : M.get C.bb = some (.cells (C.bs.flatMap blkC) true)
  dat : ∀ B ∈ C.bs, M.get B.b = some (.cells (bvs B.by') true)
  flt : FltsAt M C.fsA C.fs
  nd : (foot p C).Nodup
  fsx : ∀ c, inBlk C.fsA c → c ∉ foot p C
  one : C.fsA.one = true
  fsl : C.fs.length ≤ 8
  may : mayG C.g = true
  len : C.bs.length = C.g.bl.toNat
  ful : ∀ B ∈ C.bs, B.by'.length = C.g.pg.toNat * rawN C.g
  cby0 : 0 ≤ C.cby

theorem ChipAt.keep {M N : Mem} {p : Nat} {C : Chip} (h : ChipAt M p C) (hw : M.WF) (hk : Keep M N []) : ChipAt N p C :=
  ⟨hk.get hw h.main (by simp), hk.get hw h.tab (by simp), fun B hB => hk.get hw (h.dat B hB) (by simp), SlAt.keep0 h.flt hw hk, h.nd, h.fsx, h.one, h.fsl, h.may, h.len, h.ful, h.cby0⟩

/-- Whatever is done elsewhere. -/
theorem ChipAt.keepS {M N : Mem} {p : Nat} {C : Chip} {S : List Nat} (h : ChipAt M p C) (hw : M.WF) (hk : Keep M N S) (hs : ∀ b ∈ S, b ∉ foot p C ∧ ¬ inBlk C.fsA b) : ChipAt N p C := by
  have hn : ∀ b ∈ foot p C, b ∉ S := fun b hb hS => (hs b hS).1 hb
  refine ⟨hk.get hw h.main (hn _ (by simp [foot])), hk.get hw h.tab (hn _ (by simp [foot])), fun B hB => hk.get hw (h.dat B hB) (hn _ ?_), SlAt.keep h.flt hw hk (fun b hb hS => (hs b hS).2 hb), h.nd, h.fsx, h.one, h.fsl, h.may, h.len, h.ful, h.cby0⟩
  simp only [foot, List.mem_cons, List.mem_map]
  exact .inr (.inr ⟨B, hB, rfl⟩)

structure Step (M N : Mem) (p : Nat) (C C' : Chip) : Prop where
  at' : ChipAt N p C'
  keep : Keep M N (foot p C)
  foot : foot p C' = foot p C
  fsA : C'.fsA = C.fsA
  fs : C'.fs = C.fs
  g : C'.g = C.g

theorem Step.refl {M : Mem} {p : Nat} {C : Chip} (hw : M.WF) (h : ChipAt M p C) : Step M M p C C := ⟨h, Keep.refl hw, rfl, rfl, rfl, rfl⟩
theorem Step.of0 {M N : Mem} {p : Nat} {C : Chip} (hw : M.WF) (h : ChipAt M p C) (hk : Keep M N []) : Step M N p C C := ⟨h.keep hw hk, hk.mono (by simp), rfl, rfl, rfl, rfl⟩
theorem Step.trans {M N P : Mem} {p : Nat} {C C' C'' : Chip} (h : Step M N p C C') (k : Step N P p C' C'') : Step M P p C C'' :=
  ⟨k.at', h.keep.trans k.keep (fun _ h _ => h) (fun _ hb _ => h.foot ▸ hb), k.foot.trans h.foot, k.fsA.trans h.fsA, k.fs.trans h.fs, k.g.trans h.g⟩
theorem Step.pre {M N P : Mem} {p : Nat} {C C' : Chip} (h : Keep M N []) (k : Step N P p C C') : Step M P p C C' :=
  ⟨k.at', h.trans k.keep (by simp) (fun _ hb _ => hb), k.foot, k.fsA, k.fs, k.g⟩
theorem Step.wf {M N : Mem} {p : Nat} {C C' : Chip} (h : Step M N p C C') : N.WF := h.keep.wf
theorem Step.post {M N P : Mem} {p : Nat} {C C' : Chip} (h : Step M N p C C') (k : Keep N P []) : Step M P p C C' :=
  ⟨h.at'.keep h.wf k, h.keep.trans k (fun _ h _ => h) (by simp), h.foot, h.fsA, h.fs, h.g⟩

/-! ## What is written -/

theorem nd_p {p : Nat} {C : Chip} (h : (foot p C).Nodup) : p ≠ C.bb ∧ ∀ B ∈ C.bs, p ≠ B.b ∧ C.bb ≠ B.b := by
  unfold foot at h
  rw [List.nodup_cons, List.nodup_cons] at h
  simp only [List.mem_cons, List.mem_map, not_or, not_exists, not_and] at h
  exact ⟨h.1.1, fun B hB => ⟨fun e => h.1.2 B hB e.symm, fun e => h.2.1 B hB e.symm⟩⟩

/-- The chip's own cells. -/
theorem ChipAt.set {M : Mem} {p : Nat} {C : Chip} (h : ChipAt M p C) (hw : M.WF) (C' : Chip) (h1 : C'.g = C.g) (h2 : C'.fsA = C.fsA) (h3 : C'.fs = C.fs) (h4 : C'.bb = C.bb) (h5 : C'.bs = C.bs) (h6 : 0 ≤ C'.cby) :
    Step M (M.put p (.cells (chipC C') true)) p C C' := by
  have hp := nd_p h.nd
  have hf : _root_.Go.Proofs.Ytmifiialedlcnaa.foot p C' = _root_.Go.Proofs.Ytmifiialedlcnaa.foot p C := by unfold foot; rw [h4, h5]
  refine ⟨⟨by rw [Mem.get_put, if_pos rfl], ?_, ?_, ?_, by rw [hf]; exact h.nd, by rw [hf, h2]; exact h.fsx, by rw [h2]; exact h.one, by rw [h3]; exact h.fsl, by rw [h1]; exact h.may, by rw [h1, h5]; exact h.len, by rw [h1, h5]; exact h.ful, h6⟩,
    (Keep.put hw (hw _ _ h.main) _).mono (fun b hb _ => by simp only [List.mem_singleton] at hb; subst hb; simp [foot]), hf, h2, h3, h1⟩
  · rw [h4, h5, Mem.get_put, if_neg (fun e => hp.1 e.symm)]; exact h.tab
  · rw [h5]
    intro B hB
    rw [Mem.get_put, if_neg (fun e => (hp.2 B hB).1 e.symm)]; exact h.dat B hB
  · rw [h2, h3]
    refine SlAt.mono h.flt fun b r hb hr => ?_
    rw [Mem.get_put, if_neg (fun e => h.fsx b hb (by rw [e]; simp [foot]))]; exact hr

theorem map_set_b {bs : List Blk} {i : Nat} {B' : Blk} (hi : i < bs.length) (hb : B'.b = bs[i].b) : (bs.set i B').map (·.b) = bs.map (·.b) := by
  rw [List.map_set]
  apply List.ext_getElem?
  intro j
  rw [List.getElem?_set]
  by_cases hj : i = j
  · subst hj
    rw [if_pos rfl, if_pos (by simpa using hi), List.getElem?_map, List.getElem?_eq_getElem hi]
    simp [hb]
  · rw [if_neg hj]

theorem mem_set {bs : List Blk} {i : Nat} {B B' : Blk} (h : B ∈ bs.set i B') : B ∈ bs ∨ B = B' := (List.mem_or_eq_of_mem_set h)

/-- A block's numbers. -/
theorem ChipAt.setB {M : Mem} {p : Nat} {C : Chip} (h : ChipAt M p C) (hw : M.WF) {i : Nat} (hi : i < C.bs.length) (B' : Blk) (hb : B'.b = C.bs[i].b) (hy : B'.by' = C.bs[i].by') :
    Step M (M.put C.bb (.cells ((C.bs.set i B').flatMap blkC) true)) p C { C with bs := C.bs.set i B' } := by
  have hp := nd_p h.nd
  have hf : _root_.Go.Proofs.Ytmifiialedlcnaa.foot p { C with bs := C.bs.set i B' } = _root_.Go.Proofs.Ytmifiialedlcnaa.foot p C := by unfold foot; simp only; rw [map_set_b hi hb]
  have hB : ∀ B ∈ C.bs.set i B', ∃ B0 ∈ C.bs, B.b = B0.b ∧ B.by' = B0.by' := fun B hB => by
    rcases mem_set hB with h1 | rfl
    · exact ⟨B, h1, rfl, rfl⟩
    · exact ⟨_, List.getElem_mem hi, hb, hy⟩
  refine ⟨⟨?_, by rw [Mem.get_put, if_pos rfl], ?_, ?_, by rw [hf]; exact h.nd, by rw [hf]; exact h.fsx, h.one, h.fsl, h.may, by simpa using h.len, ?_, h.cby0⟩,
    (Keep.put hw (hw _ _ h.tab) _).mono (fun b hb _ => by simp only [List.mem_singleton] at hb; subst hb; simp [foot]), hf, rfl, rfl, rfl⟩
  · rw [Mem.get_put, if_neg hp.1, h.main]
    simp [chipC, blksA]
  · intro B hBm
    obtain ⟨B0, h1, h2, h3⟩ := hB B hBm
    rw [Mem.get_put, h2, h3, if_neg (fun e => (hp.2 B0 h1).2 e.symm)]; exact h.dat B0 h1
  · refine SlAt.mono h.flt fun b r hb hr => ?_
    rw [Mem.get_put, if_neg (fun e => h.fsx b hb (by rw [e]; simp [foot]))]; exact hr
  · intro B hBm
    obtain ⟨B0, h1, h2, h3⟩ := hB B hBm
    rw [h3]; exact h.ful B0 h1

theorem nd_b {p : Nat} {C : Chip} (h : (foot p C).Nodup) {i j : Nat} (hi : i < C.bs.length) (hj : j < C.bs.length) (he : C.bs[i].b = C.bs[j].b) : i = j := by
  unfold foot at h
  rw [List.nodup_cons, List.nodup_cons] at h
  have := h.2.2
  exact (List.getElem_inj (h₀ := by simpa using hi) (h₁ := by simpa using hj) this).1 (by simpa using he)

/-- A block's bytes. -/
theorem ChipAt.setD {M : Mem} {p : Nat} {C : Chip} (h : ChipAt M p C) (hw : M.WF) {i : Nat} (hi : i < C.bs.length) (l : List (BitVec 8)) (hl : l.length = C.bs[i].by'.length) :
    Step M (M.put C.bs[i].b (.cells (bvs l) true)) p C { C with bs := C.bs.set i { C.bs[i] with by' := l } } := by
  have hp := nd_p h.nd
  have hBi := hp.2 _ (List.getElem_mem hi)
  have hf : _root_.Go.Proofs.Ytmifiialedlcnaa.foot p { C with bs := C.bs.set i { C.bs[i] with by' := l } } = _root_.Go.Proofs.Ytmifiialedlcnaa.foot p C := by unfold foot; simp only; rw [map_set_b (B' := { C.bs[i] with by' := l }) hi rfl]
  have hc : (C.bs.set i { C.bs[i] with by' := l }).flatMap blkC = C.bs.flatMap blkC := by
    have h1 : blkC { C.bs[i] with by' := l } = (blkC C.bs[i]).set 1 (i64 C.bs[i].next) := by unfold blkC; simp [hl]
    rw [← flat_set blkC_len hi (by omega) h1]
    have h2 := flat_get blkC_len hi (j := 1) (by omega)
    apply List.ext_getElem?
    intro j
    rw [List.getElem?_set]
    by_cases hj : i * 4 + 1 = j
    · subst hj
      rw [if_pos rfl, h2]
      split
      · rfl
      · rename_i hlt
        exfalso; apply hlt
        rw [flat_length blkC_len]; omega
    · rw [if_neg hj]
  refine ⟨⟨?_, ?_, ?_, ?_, by rw [hf]; exact h.nd, by rw [hf]; exact h.fsx, h.one, h.fsl, h.may, by simpa using h.len, ?_, h.cby0⟩,
    (Keep.put hw (hw _ _ (h.dat _ (List.getElem_mem hi))) _).mono (fun b hb _ => by
      simp only [List.mem_singleton] at hb; subst hb
      simp only [foot, List.mem_cons, List.mem_map]
      exact .inr (.inr ⟨_, List.getElem_mem hi, rfl⟩)), hf, rfl, rfl, rfl⟩
  · rw [Mem.get_put, if_neg hBi.1, h.main]
    simp [chipC, blksA]
  · show (M.put _ _).get C.bb = _
    rw [Mem.get_put, if_neg hBi.2, hc]; exact h.tab
  · intro B hBm
    obtain ⟨j, hj, rfl⟩ := List.getElem_of_mem hBm
    have hj' : j < C.bs.length := by simpa using hj
    rw [List.getElem_set]
    by_cases hji : i = j
    · subst hji
      rw [if_pos rfl, Mem.get_put, if_pos rfl]
    · rw [if_neg hji, Mem.get_put, if_neg (fun e => hji (nd_b h.nd hj' hi e).symm)]
      exact h.dat _ (List.getElem_mem hj')
  · refine SlAt.mono h.flt fun b r hb hr => ?_
    rw [Mem.get_put, if_neg (fun e => h.fsx b hb (by
      rw [e]
      simp only [foot, List.mem_cons, List.mem_map]
      exact .inr (.inr ⟨_, List.getElem_mem hi, rfl⟩)))]; exact hr
  · intro B hBm
    rcases mem_set hBm with h1 | rfl
    · exact h.ful B h1
    · rw [hl]; exact h.ful _ (List.getElem_mem hi)

/-! ## What is read -/

theorem ty114 : tb.ty.get 114 = some ⟨.st [(0, 5, true), (5, 1, false), (6, 1, false), (7, 1, false), (8, 1, false), (9, 1, false), (10, 3, true), (13, 1, false)], 14, 144, [.int .i64 0, .int .i64 0, .int .i64 0, .int .i64 0, .int .i64 0, .slice none 0 0, .slice none 0 0, .bool false, .int .i64 0, .int .i64 0, .int .i64 0, .int .i64 0, .int .u8 0, .int .i64 0], some [23, 54, 112, 4, 3, 3, 42, 3]⟩ := by kernel_rfl
theorem ty112 : tb.ty.get 112 = some ⟨.sli 117, 1, 24, [.slice none 0 0], none⟩ := by kernel_rfl
theorem ty117 : tb.ty.get 117 = some ⟨.st [(0, 1, false), (1, 1, false), (2, 1, false), (3, 1, false)], 4, 48, [.slice none 0 0, .int .i64 0, .int .i64 0, .int .i64 0], some [33, 3, 3, 3]⟩ := by kernel_rfl
theorem ty42 : tb.ty.get 42 = some ⟨.st [(0, 1, false), (1, 1, false), (2, 1, false)], 3, 24, [.int .i64 0, .int .i64 0, .int .u8 0], some [3, 3, 5]⟩ := by kernel_rfl

section
variable {p : Nat} {M : Mem}
theorem fa0 : eFA tb 114 (.ptr p 0) 0 M = some (.ptr p 0, M) := eFA_some (by unfold evFieldAddr; rw [ty114]; rfl)
theorem fa1 : eFA tb 114 (.ptr p 0) 1 M = some (.ptr p 5, M) := eFA_some (by unfold evFieldAddr; rw [ty114]; rfl)
theorem fa2 : eFA tb 114 (.ptr p 0) 2 M = some (.ptr p 6, M) := eFA_some (by unfold evFieldAddr; rw [ty114]; rfl)
theorem fa3 : eFA tb 114 (.ptr p 0) 3 M = some (.ptr p 7, M) := eFA_some (by unfold evFieldAddr; rw [ty114]; rfl)
theorem fa4 : eFA tb 114 (.ptr p 0) 4 M = some (.ptr p 8, M) := eFA_some (by unfold evFieldAddr; rw [ty114]; rfl)
theorem fa5 : eFA tb 114 (.ptr p 0) 5 M = some (.ptr p 9, M) := eFA_some (by unfold evFieldAddr; rw [ty114]; rfl)
theorem fa6 : eFA tb 114 (.ptr p 0) 6 M = some (.ptr p 10, M) := eFA_some (by unfold evFieldAddr; rw [ty114]; rfl)
theorem fa7 : eFA tb 114 (.ptr p 0) 7 M = some (.ptr p 13, M) := eFA_some (by unfold evFieldAddr; rw [ty114]; rfl)

variable {C : Chip} (h : ChipAt M p C)
include h
theorem ld_g : eLd tb 23 (.ptr p 0) M = some (geoA C.g, M) := eLd_some (ld_agg (n := 5) ty23 rfl rfl h.main (by simp [chipC]))
theorem ld_pg : eLd tb 3 (.ptr p 1) M = some (i64 C.g.pg, M) := eLd_some (ld_cell ty3 rfl h.main rfl)
theorem ld_fs : eLd tb 54 (.ptr p 5) M = some (C.fsA, M) := eLd_some (ld_cell ty54 rfl h.main rfl)
theorem ld_bs : eLd tb 112 (.ptr p 6) M = some (blksA C, M) := eLd_some (ld_cell ty112 rfl h.main rfl)
theorem ld_off : eLd tb 4 (.ptr p 7) M = some (.val (.bool C.off), M) := eLd_some (ld_cell ty4 rfl h.main rfl)
theorem ld_ops : eLd tb 3 (.ptr p 8) M = some (i64 C.ops, M) := eLd_some (ld_cell ty3 rfl h.main rfl)
theorem ld_cuts : eLd tb 3 (.ptr p 9) M = some (i64 C.cuts, M) := eLd_some (ld_cell ty3 rfl h.main rfl)
theorem ld_cby : eLd tb 3 (.ptr p 11) M = some (i64 C.cby, M) := eLd_some (ld_cell ty3 rfl h.main rfl)
theorem ld_cf : eLd tb 5 (.ptr p 12) M = some (bv8 C.cf, M) := eLd_some (ld_cell ty5 rfl h.main rfl)
theorem ld_turn : eLd tb 3 (.ptr p 13) M = some (i64 C.turn, M) := eLd_some (ld_cell ty3 rfl h.main rfl)
theorem len_bs : eLen tb false 112 (blksA C) M = some (i64 (C.bs.length : Int), M) := eLen_some (by unfold evLenCap blksA; rw [ty112]; rfl)

theorem ia_bs {i : Nat} (hi : i < C.bs.length) : eIA tb 112 (blksA C) (.val (.int .i64 (i : Int))) M = some (.ptr C.bb (i * 4), M) := eIA_some (by
  unfold evIndexAddr blksA
  rw [ty112]
  have h0 : decide (0 ≤ (i : Int)) = true := by simp
  simp only [ty117, Int.toNat_natCast, blt_of hi, cond_true, h0, Nat.zero_add])
theorem ld_by {i : Nat} (hi : i < C.bs.length) : eLd tb 33 (.ptr C.bb (i * 4)) M = some (.sl C.bs[i].b 0 C.bs[i].by'.length C.bs[i].by'.length none, M) := eLd_some (ld_cell ty33 rfl h.tab (by
  have := flat_get blkC_len hi (j := 0) (by omega)
  rw [Nat.add_zero] at this; rw [this]; rfl))
theorem ld_next {i : Nat} (hi : i < C.bs.length) : eLd tb 3 (.ptr C.bb (i * 4 + 1)) M = some (i64 C.bs[i].next, M) := eLd_some (ld_cell ty3 rfl h.tab (by rw [flat_get blkC_len hi (by omega)]; rfl))
theorem ld_wear {i : Nat} (hi : i < C.bs.length) : eLd tb 3 (.ptr C.bb (i * 4 + 2)) M = some (i64 C.bs[i].wear, M) := eLd_some (ld_cell ty3 rfl h.tab (by rw [flat_get blkC_len hi (by omega)]; rfl))
theorem ld_done {i : Nat} (hi : i < C.bs.length) : eLd tb 3 (.ptr C.bb (i * 4 + 3)) M = some (i64 C.bs[i].done, M) := eLd_some (ld_cell ty3 rfl h.tab (by rw [flat_get blkC_len hi (by omega)]; rfl))
theorem ld_blk {i : Nat} (hi : i < C.bs.length) : eLd tb 117 (.ptr C.bb (i * 4)) M = some (.agg (blkC C.bs[i]), M) := eLd_some (by
  rw [ld_agg (n := 4) ty117 rfl rfl h.tab (by rw [flat_length blkC_len]; omega), flat_at blkC_len hi])

/-- A cell of the chip is written. -/
theorem st_chip {t : TypeId} {ti : TI} {o : Nat} {v : AV} (C' : Chip) (ht : tb.ty.get t = some ti) (hs : ti.size = 1) (hv : v.one = true) (ho : o < 14) (hc : chipC C' = (chipC C).set o v) :
    eSt tb t (.ptr p o) v M = some (undefA, M.put p (.cells (chipC C') true)) := by
  rw [hc]
  exact eSt_some (st_cell ht hs hv h.main (by simpa [chipC] using ho))
theorem st_blk {i j : Nat} (hi : i < C.bs.length) {z : Int} (B' : Blk) (hj : j < 4) (hc : blkC B' = (blkC C.bs[i]).set j (i64 z)) :
    eSt tb 3 (.ptr C.bb (i * 4 + j)) (i64 z) M = some (undefA, M.put C.bb (.cells ((C.bs.set i B').flatMap blkC) true)) := by
  rw [← flat_set blkC_len hi hj hc]
  exact eSt_some (st_cell ty3 rfl rfl h.tab (by rw [flat_length blkC_len]; omega))
end

end Go.Proofs.Ytmifiialedlcnaa
