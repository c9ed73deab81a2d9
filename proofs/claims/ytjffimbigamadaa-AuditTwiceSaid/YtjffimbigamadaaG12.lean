import Derived.Test.YtjffimbigamadaaG11
set_option linter.unusedSimpArgs false
set_option linter.unusedVariables false
set_option linter.unusedSectionVars false
/- New. -/
namespace Go.Proofs.Ytjffimbigamadaa
open Go.AM

def newC (g : Geo) (fsA x : AV) : List AV := [i64 g.bl, i64 g.pg, i64 g.by', i64 g.sp, i64 g.tr, fsA, x, .val (.bool false), i64 0, i64 0, i64 0, i64 0, bv8 0#8, i64 0]

/-- A chip on the way: so many blocks. 'M1': the memory when the first was begun. -/
structure Bld (M1 M : Mem) (p : Nat) (g : Geo) (fsA : AV) (bs : List Blk) (x : AV) : Prop where
  wf : M.WF
  nxt : M1.next ≤ M.next
  old : ∀ c, c < M1.next → c ≠ p → M.get c = M1.get c
  main : M.get p = some (.cells (newC g fsA x) true)
  sl : (bs = [] ∧ x = .val (.slice none 0 0)) ∨ ∃ bb, Grown 4 M x bs.length (bs.flatMap blkC) bb ∧ M1.next ≤ bb ∧ ∀ B ∈ bs, B.b ≠ bb
  dat : ∀ B ∈ bs, M.get B.b = some (.cells (bvs B.by') true) ∧ M1.next ≤ B.b
  nd : (bs.map (·.b)).Nodup

theorem ld_x {M1 M : Mem} {p : Nat} {g : Geo} {fsA x : AV} {bs : List Blk} (h : Bld M1 M p g fsA bs x) : evLoad tb 112 (.ptr p 6) M = some x := ld_cell ty112 rfl h.main rfl

theorem Bld.keep {M1 M N : Mem} {p : Nat} {g : Geo} {fsA x : AV} {bs : List Blk} (h : Bld M1 M p g fsA bs x) (hk : Keep M N []) : Bld M1 N p g fsA bs x :=
  ⟨hk.wf, Nat.le_trans h.nxt hk.nxt, fun c hc hp => by rw [hk.old c (Nat.lt_of_lt_of_le hc h.nxt) (by simp)]; exact h.old c hc hp, hk.get h.wf h.main (by simp),
    h.sl.imp id fun ⟨bb, ⟨g1, g2, g3, g4⟩, h2⟩ => ⟨bb, ⟨g1, g2, g3, hk.get h.wf g4 (by simp)⟩, h2⟩, fun B hB => ⟨hk.get h.wf (h.dat B hB).1 (by simp), (h.dat B hB).2⟩, h.nd⟩

theorem blkC_one (B : Blk) : ∀ v ∈ blkC B, v.one = true := by
  intro v hv
  simp only [blkC, List.mem_cons, List.not_mem_nil, or_false] at hv
  rcases hv with rfl | rfl | rfl | rfl <;> rfl

theorem bump_keep2 {M : Mem} (h : M.WF) : Keep M ⟨M.next + 2, M.rows⟩ [] := ⟨fun b r hb => by have := h b r hb; show b < M.next + 2; omega, by show M.next ≤ M.next + 2; omega, fun _ _ _ => rfl⟩
/-- What was put aside is used (one of two). -/
theorem bump_put2 {M N : Mem} (hw : M.WF) (hk : Keep ⟨M.next + 2, M.rows⟩ N []) {b : Nat} (hb : M.next ≤ b) (hb2 : b < M.next + 2) (r : Row) : Keep M (N.put b r) [] :=
  ⟨hk.wf.put (Nat.lt_of_lt_of_le hb2 hk.nxt) r, Nat.le_trans (Nat.le_add_right _ _) hk.nxt, fun c hc _ => by
    rw [Mem.get_put, if_neg (by omega)]
    exact hk.old c (by show c < M.next + 2; omega) (by simp)⟩

def newB (g : Geo) (b : Nat) : Blk := ⟨b, List.replicate (g.pg.toNat * rawN g) 255#8, 0, 0, 0⟩
def blank (g : Geo) (bs : List Blk) : Prop := ∀ B ∈ bs, B = newB g B.b

/-- What New makes. -/
def newChip (g : Geo) (fsA : AV) (fs : List Flt) (bb : Nat) (bs : List Blk) : Chip := ⟨g, fsA, fs, bb, bs, false, 0, 0, 0, 0, 0#8, 0⟩

theorem c_new (M : Mem) (hw : M.WF) (g : Geo) (x : AV) (fs : List Flt) (hx : FltsAt M x fs) (hfl : fs.length ≤ 9223372036854775807) :
    CallA tb.P 15 [geoA g, x] M fun y N => Keep M N [] ∧ ((mayP g fs = false ∧ y = .val (.pointer none)) ∨
      (mayP g fs = true ∧ ∃ (p : Nat) (fsA : AV) (bb : Nat) (bs : List Blk), y = .ptr p 0 ∧ ChipAt N p (newChip g fsA fs bb bs) ∧ blank g bs ∧ (∀ c ∈ foot p (newChip g fsA fs bb bs), M.next ≤ c) ∧ ∀ c, inBlk fsA c → M.next ≤ c)) := by
  refine F15_ok ?_
  unfold F15
  refine ⟨_, _, _, _, _, rfl, ?_⟩
  refine letP_i fun M6 hM6 => ?_
  have hM6' : M6 = M.new (.cells (geoC g) true) := hM6
  have hK6 : Keep M M6 [] := by rw [hM6']; exact Keep.new hw _
  have hg6 : M6.get M.next = some (.cells (geoC g) true) := by rw [hM6']; exact get_new _ _
  clear hM6 hM6'
  obtain ⟨_, _, _, _, _, l5⟩ := geo_ld hg6
  refine bindO_i (eLd_some l5) ?_
  refine ⟨_, _, _, _, _, rfl, ?_⟩
  refine (c_mayP M6 hK6.wf g x fs (SlAt.keep0 hx hw hK6) hfl).mono ?_
  rintro y M14 ⟨rfl, hk14⟩
  have hK14 := hK6.trans0 hk14
  simp only [zB_bool]
  refine condB_i (fun q => ?_) (fun q => ?_)
  · exact ⟨hK14, .inl ⟨by simpa using q, by trivial⟩⟩
  have q : mayP g fs = true := by simpa using q
  have hmg : mayG g = true := by unfold mayP at q; rw [Bool.and_eq_true, Bool.and_eq_true] at q; exact q.1.1
  have hfs8 : fs.length ≤ 8 := by unfold mayP at q; rw [Bool.and_eq_true, Bool.and_eq_true, decide_eq_true_eq] at q; exact q.1.2
  have hm := mayG_iff.1 hmg
  have hg14 := hk14.get hK6.wf hg6 (by simp)
  have hgn : M.next < M14.next := hk14.wf _ _ hg14
  refine letP_i fun M16 hM16 => ?_
  have hM16' : M16 = bump M14 := hM16
  subst hM16'
  have hb := bump_keep hk14.wf
  have hg16 := hb.get hk14.wf hg14 (by simp)
  obtain ⟨_, _, _, _, _, l5⟩ := geo_ld hg16
  refine bindO_i (eLd_some l5) ?_
  refine ⟨_, _, _, _, _, rfl, ?_⟩
  refine (c_cloneF (bump M14) hb.wf x fs (SlAt.keep0 hx hw (hK14.trans0 hb)) (by omega)).mono ?_
  rintro fsA M24 ⟨hfA, hk24, hff, hshape⟩
  have hg24 := hk24.get hb.wf hg16 (by simp)
  obtain ⟨_, _, _, _, _, m5⟩ := geo_ld hg24
  refine ⟨bindO_i (eLd_some m5) rfl, ?_⟩
  have hfone : fsA.one = true := by
    rcases hshape with rfl | ⟨_, _, _, _, _, rfl⟩ <;> rfl
  have hbd : evBuild tb 114 [(0, geoA g), (1, fsA)] = some (.agg (newC g fsA (.val (.slice none 0 0)))) := by
    unfold evBuild
    rw [ty114]
    rcases hshape with rfl | ⟨_, _, _, _, _, rfl⟩ <;> rfl
  refine bindO_i (eBd_some hbd) ?_
  refine ⟨_, _, _, _, _, _, _, _, _, _, _, _, _, _, rfl, ?_⟩
  refine letP_i fun M41 hM41 => ?_
  have hM41' : M41 = M24.put M14.next (.cells (newC g fsA (.val (.slice none 0 0))) true) := hM41
  have hpk : Keep M14 M41 [] := by rw [hM41']; exact bump_put hk14.wf hk24 _
  have hp41 : M41.get M14.next = some (.cells (newC g fsA (.val (.slice none 0 0))) true) := by rw [hM41', Mem.get_put, if_pos rfl]
  have hK41 := hK14.trans0 hpk
  have hfA41 : FltsAt M41 fsA fs := SlAt.mono hfA fun c r hc hr => by
    rw [hM41', Mem.get_put, if_neg (by have := hff c hc; have : M14.next + 1 ≤ c := this; omega)]; exact hr
  have hflt41 : ∀ c, inBlk fsA c → M14.next < c ∧ c < M41.next := fun c hc => ⟨hff c hc, SlAt.blk_lt hfA41 hpk.wf hc⟩
  clear hM41 hM41'
  have hpn : M14.next < M41.next := hpk.wf _ _ hp41
  have hg41 := hpk.get hk14.wf hg14 (by simp)
  obtain ⟨a0, _⟩ := geo_ld hg41
  refine bindO_i (eLd_some a0) ?_
  simp only [i64, zI_int]
  generalize hp : M14.next = p at *
  have hbl : g.bl = ((g.bl.toNat : Nat) : Int) := by omega
  refine ⟨fun z n P => ∃ (i : Nat) (bs : List Blk) (x : AV), z = i ∧ n = g.bl.toNat - i ∧ i ≤ g.bl.toNat ∧ bs.length = i ∧ blank g bs ∧ Bld M41 P p g fsA bs x,
    ⟨g.bl.toNat, 0, [], _, rfl, rfl, Nat.zero_le _, rfl, fun B hB => by simp at hB, ⟨hpk.wf, Nat.le_refl _, fun _ _ _ => rfl, hp41, .inl ⟨rfl, rfl⟩, fun B hB => by simp at hB, by simp⟩⟩, ?_⟩
  rintro _ z n P ⟨i, bs, xs, rfl, rfl, hi, hbsl, hbk, hB⟩
  have hgP : P.get M.next = some (.cells (geoC g) true) := by rw [hB.old _ (by omega) (by omega)]; exact hg41
  refine condB_i (fun hlt => ?_) (fun hge => ?_)
  rotate_left
  · -- all blocks stand
    have hge : i = g.bl.toNat := by
      have h1 : ¬ (i : Int) < g.bl := by simpa using hge
      omega
    rcases hB.sl with ⟨h1, _⟩ | ⟨bb, hgr, hbb, hne⟩
    · subst h1; simp at hbsl; omega
    have hKP : Keep M P [] := ⟨hB.wf, Nat.le_trans hK41.nxt hB.nxt, fun c hc _ => by
      rw [hB.old c (by have := hK41.nxt; omega) (by omega)]
      exact hK41.old c hc (by simp)⟩
    refine ⟨hKP, .inr ⟨q, p, fsA, bb, bs, rfl, ⟨?_, hgr.2.2.2, fun B h => (hB.dat B h).1, ?_, ?_, ?_, hfone, hfs8, hmg, by simp only [newChip]; omega, ?_, Int.le_refl 0⟩, hbk, ?_, fun c hc => by have := hflt41 c hc; omega⟩⟩
    · rw [hB.main]
      have : xs = blksA (newChip g fsA fs bb bs) := hgr.1
      rw [this]; rfl
    · exact SlAt.mono hfA41 fun c r hc hr => by
        have := hflt41 c hc
        rw [hB.old c this.2 (by omega)]; exact hr
    · unfold foot
      simp only [newChip, List.nodup_cons, List.mem_cons, List.mem_map, not_or, not_exists, not_and]
      refine ⟨⟨by omega, fun B h => by have := (hB.dat B h).2; omega⟩, fun B h => hne B h, hB.nd⟩
    · intro c hc hm
      have := hflt41 c hc
      simp only [foot, newChip, List.mem_cons, List.mem_map] at hm
      rcases hm with rfl | rfl | ⟨B, h, rfl⟩
      · omega
      · omega
      · have := (hB.dat B h).2; omega
    · intro B h
      rw [hbk B h]
      simp [newB, newChip]
    · intro c hc
      simp only [foot, newChip, List.mem_cons, List.mem_map] at hc
      rcases hc with rfl | rfl | ⟨B, h, rfl⟩
      · omega
      · omega
      · have := (hB.dat B h).2; omega
  have hlt : i < g.bl.toNat := by
    have h1 : (i : Int) < g.bl := by simpa using hlt
    omega
  refine letP_i fun M49 hM49 => ?_
  subst hM49
  have hk2 := bump_keep2 hB.wf
  have hB49 := hB.keep hk2
  have hg49 := hk2.get hB.wf hgP (by simp)
  refine bindO_i (eLd_some (ld_x hB49)) ?_
  obtain ⟨_, b1, _, _, _, b5⟩ := geo_ld hg49
  refine bindO_i (eLd_some b1) ?_
  simp only [i64, zI_int]
  refine bindO_i (eLd_some b5) ?_
  refine ⟨_, _, _, _, _, rfl, ?_⟩
  refine (c_raw _ hk2.wf g hmg).mono ?_
  rintro y M60 ⟨rfl, hk60⟩
  simp only [i64, zI_int]
  have hB60 := hB49.keep hk60
  have hg60 := hk60.get hk2.wf hg49 (by simp)
  obtain ⟨_, c1, _⟩ := geo_ld hg60
  refine ⟨bindO_i (eLd_some (ld_x hB60)) rfl, bindO_i (eLd_some c1) rfl, ?_⟩
  refine letP_i fun M64 hM64 => ?_
  have hM64' : M64 = M60.put P.next (.cells (bvs [255#8]) true) := hM64
  have hk64 : Keep P M64 [] := by rw [hM64']; exact bump_put2 hB.wf hk60 (Nat.le_refl _) (by omega) _
  have hlit : M64.get P.next = some (.cells (bvs [255#8]) true) := by rw [hM64', Mem.get_put, if_pos rfl]
  have hn64 : P.next + 2 ≤ M64.next := by rw [hM64']; exact hk60.nxt
  clear hM64 hM64'
  have hr : 40 ≤ rawN g ∧ rawN g ≤ 80 := by unfold rawN; omega
  have hprod : 1 ≤ g.pg.toNat * rawN g ∧ g.pg.toNat * rawN g ≤ 640 := by
    have h1 : g.pg.toNat * rawN g ≤ 8 * 80 := Nat.mul_le_mul (by omega) hr.2
    have h2 : 4 * 40 ≤ g.pg.toNat * rawN g := Nat.mul_le_mul (by omega) hr.1
    omega
  have hmul : iMul .i64 g.pg (rawN g : Int) = ((g.pg.toNat * rawN g : Nat) : Int) := by
    rw [Int.natCast_mul, show ((g.pg.toNat : Nat) : Int) = g.pg by omega]
    have h3 : ((g.pg.toNat * rawN g : Nat) : Int) = g.pg * (rawN g : Int) := by rw [Int.natCast_mul, show ((g.pg.toNat : Nat) : Int) = g.pg by omega]
    rw [iMul, wrap_i64' (by omega) (by omega)]
  rw [hmul]
  refine (c_repeat M64 hk64.wf _ 255#8 (bytes_one (v := 255#8) hlit) _ hprod.1 (by omega)).mono ?_
  rintro y M66 ⟨rfl, hM66⟩
  have hk66 : Keep M64 M66 [] := by rw [hM66]; exact Keep.new hk64.wf _
  have hd66 : M66.get M64.next = some (.cells (bvs (List.replicate (g.pg.toNat * rawN g) 255#8)) true) := by rw [hM66]; exact get_new _ _
  clear hM66
  have hkP66 := hk64.trans0 hk66
  have hB66 := hB.keep hkP66
  refine ⟨bindO_i (eLd_some (ld_x hB66)) rfl, ?_⟩
  have hbd2 : evBuild tb 117 [(0, .sl M64.next 0 (g.pg.toNat * rawN g) (g.pg.toNat * rawN g) none)] = some (.agg (blkC (newB g M64.next))) := by
    unfold evBuild
    rw [ty117]
    simp only [blkC, newB, List.length_replicate]
    rfl
  refine bindO_i (eBd_some hbd2) ?_
  refine ⟨_, _, _, _, rfl, ?_⟩
  refine letP_i fun M73 hM73 => ?_
  have hM73' : M73 = M66.put (P.next + 1) (.cells (blkC (newB g M64.next)) true) := hM73
  have hk73 : Keep P M73 [] := by
    rw [hM73']
    refine ⟨hk66.wf.put (by have := hk66.nxt; omega) _, hkP66.nxt, fun c hc _ => ?_⟩
    rw [Mem.get_put, if_neg (by omega)]
    exact hkP66.old c hc (by simp)
  have hd73 : M73.get M64.next = some (.cells (bvs (newB g M64.next).by') true) := by rw [hM73', Mem.get_put, if_neg (by omega)]; exact hd66
  have hl73 : M73.get (P.next + 1) = some (.cells (blkC (newB g M64.next)) true) := by rw [hM73', Mem.get_put, if_pos rfl]
  have hn73 : M64.next < M73.next := hk73.wf _ _ hd73
  clear hM73 hM73'
  have hB73 := hB.keep hk73
  have hs : SlAt 4 M73 (.sl (P.next + 1) 0 1 1 none) 1 (blkC (newB g M64.next)) := ⟨rfl, .inr ⟨_, _, _, _, rfl, ⟨Nat.le_refl _, .inl rfl⟩, .inr ⟨_, _, hl73, by rw [blkC_len]; exact Nat.le_refl _, by rw [List.drop_zero, List.take_of_length_le (by rw [blkC_len]; exact Nat.le_refl _)]⟩⟩⟩
  have hfreshB : ∀ B ∈ bs, B.b < P.next := fun B h => hB.wf _ _ (hB.dat B h).1
  have hpP : p < P.next := hB.wf _ _ hB.main
  -- the append, and what is stored
  obtain ⟨y74, M74, hap, hgr, hpk74⟩ : ∃ y74 M74, evAppend tb 112 112 xs (.sl (P.next + 1) 0 1 1 none) M73 = some (y74, M74) ∧ Grown 4 M74 y74 (bs.length + 1) ((bs ++ [newB g M64.next]).flatMap blkC) M73.next ∧ (M74.WF ∧ M73.next ≤ M74.next ∧ ∀ c r, M73.get c = some r → (∀ bb, Grown 4 M73 xs bs.length (bs.flatMap blkC) bb → c ≠ bb) → M74.get c = some r) ∧ ∀ c, c < M41.next → M74.get c = M73.get c := by
    rw [List.flatMap_append, show [newB g M64.next].flatMap blkC = blkC (newB g M64.next) by simp]
    rcases hB73.sl with ⟨h1, rfl⟩ | ⟨bb, hg, hb1, hb2⟩
    · subst h1
      obtain ⟨N, h1, rfl⟩ := append_nil (T := tb) (k := 4) ty112 rfl ty117 rfl hs (by omega) ⟨by simp only; omega, by omega⟩
      refine ⟨_, _, h1, ⟨rfl, by simp, by simp [blkC_len], by rw [get_new]; rfl⟩, ⟨hB73.wf.new _, Nat.le_succ _, fun c r hc _ => (Keep.new hB73.wf _).get hB73.wf hc (by simp)⟩, fun c hc => by rw [Mem.get_new, if_neg (by have := hB73.nxt; omega)]⟩
    · obtain ⟨N, h1, rfl⟩ := append_grown (T := tb) (k := 4) ty112 rfl ty117 rfl hg hs (by omega) (blkC_one _) ⟨by simp only; omega, by omega⟩
      refine ⟨_, _, h1, ⟨rfl, by omega, by rw [List.length_append, flat_length blkC_len, blkC_len]; omega, get_new (M73.kill bb) _⟩, ⟨(hB73.wf.kill _).new _, Nat.le_succ _, fun c r hc hne => ?_⟩, fun c hc => ?_⟩
      · have h2 := hB73.wf _ _ hc
        rw [Mem.get_new, if_neg (by show c ≠ M73.next; omega), Mem.get_kill, if_neg (hne bb hg)]; exact hc
      · rw [Mem.get_new, if_neg (by have := hB73.nxt; show c ≠ M73.next; omega), Mem.get_kill, if_neg (by omega)]
  refine bindO_i hap ?_
  have hnotbb : ∀ c r, M73.get c = some r → (c = p ∨ c = M64.next ∨ ∃ B ∈ bs, c = B.b) → M74.get c = some r := by
    intro c r hc hcase
    refine hpk74.1.2.2 c r hc fun bb hg => ?_
    rcases hB73.sl with ⟨h1, h2⟩ | ⟨bb', hg', hb1, hb2⟩
    · subst h1; have := hg.2.1; simp at this
    · have e : bb = bb' := by
        have h1 := hg.1
        rw [hg'.1] at h1
        injection h1 with h1
        exact h1.symm
      subst e
      have hbbP : bb < P.next := by
        rcases hB.sl with ⟨h1, _⟩ | ⟨b2, hg2, _, _⟩
        · subst h1; have := hg.2.1; simp at this
        · have e2 : bb = b2 := by
            have h1 := hg.1
            rw [hg2.1] at h1
            injection h1 with h1
            exact h1.symm
          rw [e2]; exact hB.wf _ _ hg2.2.2.2
      rcases hcase with rfl | rfl | ⟨B, h, rfl⟩
      · omega
      · omega
      · exact hb2 B h
  have hmain74 := hnotbb _ _ hB73.main (.inl rfl)
  have hstc : (newC g fsA xs).set 6 y74 = newC g fsA y74 := rfl
  have hyone : y74.one = true := by rw [hgr.1]; rfl
  have hst : eSt tb 112 (.ptr p 6) y74 M74 = some (undefA, M74.put p (.cells (newC g fsA y74) true)) := by
    rw [← hstc]
    exact eSt_some (st_cell ty112 rfl hyone hmain74 (by simp [newC]))
  refine bindO_i hst ?_
  refine ⟨g.bl.toNat - (i + 1), by omega, i + 1, bs ++ [newB g M64.next], y74, iInc (by omega), rfl, hlt, by rw [List.length_append, hbsl]; rfl, ?_, ?_⟩
  · intro B h
    rcases List.mem_append.1 h with h | h
    · exact hbk B h
    · simp only [List.mem_singleton] at h; subst h; rfl
  have hp73 : p < M73.next := hB73.wf _ _ hB73.main
  refine ⟨hpk74.1.1.put (by have := hpk74.1.2.1; omega) _, Nat.le_trans hB73.nxt hpk74.1.2.1, fun c hc hcp => ?_, by rw [Mem.get_put, if_pos rfl], .inr ⟨M73.next, ⟨?_, by simp, by rw [flat_length blkC_len], ?_⟩, hB73.nxt, ?_⟩, ?_, ?_⟩
  · rw [Mem.get_put, if_neg hcp, hpk74.2 c hc]
    exact hB73.old c hc hcp
  · rw [hgr.1]; simp
  · rw [Mem.get_put, if_neg (by omega)]; exact hgr.2.2.2
  · intro B h
    rcases List.mem_append.1 h with h | h
    · have := hfreshB B h; have := hk73.nxt; omega
    · simp only [List.mem_singleton] at h; subst h; show M64.next ≠ M73.next; omega
  · intro B h
    rcases List.mem_append.1 h with h | h
    · refine ⟨?_, (hB.dat B h).2⟩
      rw [Mem.get_put, if_neg (by have := (hB.dat B h).2; omega)]
      exact hnotbb _ _ (hB73.dat B h).1 (.inr (.inr ⟨B, h, rfl⟩))
    · simp only [List.mem_singleton] at h; subst h
      refine ⟨?_, by have := hB.nxt; show M41.next ≤ M64.next; omega⟩
      rw [Mem.get_put, if_neg (by show M64.next ≠ p; omega)]
      exact hnotbb _ _ hd73 (.inr (.inl rfl))
  · rw [List.map_append, List.nodup_append]
    refine ⟨hB.nd, by simp, fun a ha b hb => ?_⟩
    simp only [List.map_cons, List.map_nil, List.mem_singleton] at hb
    obtain ⟨B, h, rfl⟩ := List.mem_map.1 ha
    have := hfreshB B h
    rw [hb]
    show B.b ≠ M64.next
    omega

end Go.Proofs.Ytjffimbigamadaa
