import Derived.Test.YtjffimbigamadaaH13
import Derived.Test.YtjffimbigamadaaL3
set_option linter.unusedSimpArgs false
set_option linter.unusedVariables false
set_option linter.unusedSectionVars false
/- LeafErases. -/
namespace Go.Proofs.Ytjffimbigamadaa
open Go.AM

/-- A calm chip without faults is erased. -/
theorem calm_er {C : Chip} (h : Calm C) (hm : mayG C.g = true) (hfs : C.fs = []) (hlen : C.bs.length = C.g.bl.toNat) (hful : ∀ B ∈ C.bs, B.by'.length = C.g.pg.toNat * rawN C.g) {b : Nat} (hb : b < C.g.bl.toNat) :
    (erR C b).2 = 0 ∧ Calm (erR C b).1 ∧ (erR C b).1.g = C.g ∧ (erR C b).1.fs = C.fs ∧ ∀ i, i < nP C.g → pgI (erR C b).1 i = if plB C.g i = b then List.replicate (rawN C.g) 255#8 else pgI C i := by
  obtain ⟨h1, h2, h3⟩ := h.bg
  obtain ⟨_, _, e1, e2, _, _, _, _⟩ := nP_bnd hm
  have hbb := bgC_bs C
  have hi : b < C.bs.length := by omega
  have ha : askd C b 0 = 0 := by
    unfold askd
    rw [h.off]
    have : isG C.g b 0 = true := isG_iff.2 ⟨⟨by omega, by omega⟩, by omega, by omega⟩
    rw [this]; rfl
  have hS : erS (bgC C) (erF C) b = ((bgC C).upB b { C.bs[b] with by' := List.replicate C.bs[b].by'.length 255#8, next := 0, wear := iAdd .i64 C.bs[b].wear 1, done := iAdd .i64 C.bs[b].done 1 }, 0) := by
    have hF : erF C = 255#8 := by unfold erF; rw [h1]; rfl
    unfold erS
    rw [hbb.1, hbb.2.2.1, List.getElem?_eq_getElem hi, hF]
    simp only
    rw [if_neg (by rw [hfs]; simp [failsF_nil]), if_pos trivial]
  have hE : erR C b = ((bgC C).upB b { C.bs[b] with by' := List.replicate C.bs[b].by'.length 255#8, next := 0, wear := iAdd .i64 C.bs[b].wear 1, done := iAdd .i64 C.bs[b].done 1 }, 0) := by
    unfold erR
    rw [if_pos ha, Int.toNat_natCast, hS, h1]
    rfl
  rw [hE]
  refine ⟨rfl, ⟨h3.off, h3.turn⟩, hbb.2.1, hbb.2.2.1, fun i hin => ?_⟩
  obtain ⟨_, p1, p2, _⟩ := pl_is hm hin
  unfold pgI
  show (match ((bgC C).bs.set b _)[plB (bgC C).g i]? with | some B => pageB B (rawN (bgC C).g) (plK (bgC C).g i) | none => []) = _
  rw [hbb.1, hbb.2.1, List.getElem?_set]
  by_cases hp : plB C.g i = b
  · rw [if_pos hp.symm, if_pos hi, if_pos hp]
    show pageB _ _ _ = _
    unfold pageB
    simp only
    rw [hful _ (List.getElem_mem hi), rep_page p2]
  · rw [if_neg (fun e => hp e.symm), if_neg hp]
    cases C.bs[plB C.g i]? <;> rfl

theorem er_idx {C C' : Chip} (hm : mayG C.g = true) (hg : C'.g = C.g) (hf : C'.fs = C.fs) {b : Nat} (hp : ∀ i, i < nP C.g → pgI C' i = if plB C.g i = b then List.replicate (rawN C.g) 255#8 else pgI C i) :
    (idx C' (nP C.g)).map (fdI C') = ((idx C (nP C.g)).map (fdI C)).filter (fun f => !(f.b == (b : Int))) := by
  have hr : 40 ≤ rawN C.g ∧ rawN C.g ≤ 80 := by have := mayG_iff.1 hm; unfold rawN; omega
  have h1 : ∀ i, i < nP C.g → okI C' i = (okI C i && !(plB C.g i == b)) := fun i hi => by
    unfold okI
    rw [hf, hg, hp i hi]
    by_cases h : plB C.g i = b
    · rw [if_pos h, state_blank hr.1 hr.2]
      simp [h]
    · rw [if_neg h]
      simp [h]
  rw [List.filter_map]
  have h2 : (fun f : Fd => !(f.b == (b : Int))) ∘ fdI C = fun i => !(plB C.g i == b) := by
    funext i
    show (!(((plB C.g i : Nat) : Int) == (b : Int))) = _
    congr 1
    rw [Bool.eq_iff_iff, beq_iff_eq, beq_iff_eq]
    omega
  rw [h2]
  have h3 : idx C' (nP C.g) = (idx C (nP C.g)).filter fun i => !(plB C.g i == b) := by
    unfold idx
    rw [List.filter_filter]
    apply List.filter_congr
    intro i hi
    rw [h1 i (List.mem_range.1 hi), Bool.and_comm]
  rw [h3]
  apply List.map_congr_left
  intro i hi
  rw [List.mem_filter] at hi
  have hin : i < nP C.g := by
    have := hi.1
    unfold idx at this
    exact List.mem_range.1 (List.mem_filter.1 this).1
  have hne : ¬ plB C.g i = b := by simpa using hi.2
  unfold fdI
  rw [hg, hp i hin, if_neg hne]

set_option maxRecDepth 100000 in
theorem leaf_erases (M : Mem) (hw : M.WF) (g : Geo) (px : AV) (ps : List Put) (hpx : PutsAt M px ps) (block : Int) :
    CallA tb.P 12 [geoA g, px, i64 block] M fun y _ => y = .val (.bool true) := by
  refine F12_ok ?_
  unfold F12
  refine ⟨_, _, _, _, _, rfl, ?_⟩
  simp only [i64, zI_int]
  refine letP_i fun M7 hM7 => ?_
  have hM7' : M7 = M.new (.cells (geoC g) true) := hM7
  have hk7 : Keep M M7 [] := by rw [hM7']; exact Keep.new hw _
  have hg7 : M7.get M.next = some (.cells (geoC g) true) := by rw [hM7']; exact get_new _ _
  clear hM7 hM7'
  have hgn := hk7.wf _ _ hg7
  have hpx7 : PutsAt M7 px ps := SlAt.keep0 hpx hw hk7
  refine bindO_i (eLen_some hpx7.len) ?_
  simp only [zI_int]
  refine condB_i (fun _ => ?_) (fun h60 => ?_)
  · refine (leaf_awake M7 hk7.wf).mono ?_
    rintro y N rfl
    simp only [zB_bool]
  have h60 : ps.length ≤ 60 := by have : ¬ (ps.length : Int) > 60 := by simpa using h60
                                  omega
  refine bindO_i (eLd_some (geo_ld hg7).2.2.2.2.2) ?_
  refine ⟨_, _, _, _, _, rfl, ?_⟩
  refine (l_both M7 hk7.wf g _ [] SlAt.nil (by simp) px ps hpx7 (by omega)).mono ?_
  rintro y M20 ⟨hw20, hn20, hold20, hb⟩
  rcases hb with ⟨hno, rfl⟩ | ⟨hmay, p, C, r, S, F, B, rfl, hMF, hB, hA, hR, hCg, hCf, hcalm⟩
  · refine ⟨_, _, true, rfl, ?_⟩
    rw [nil_nil24, bindO_some]
    simp only [zB_bool, condB_true]
    refine letP_i fun K31 hK31 => ?_
    refine (leaf_awake M20 hw20).mono ?_
    rintro y N rfl
    simp only [zB_bool]
    rw [hK31]
  refine ⟨_, _, true, rfl, ?_⟩
  rw [nil_eq, bindO_some]
  simp only [zB_bool, condB_false]
  have hg20 : M20.get M.next = some (.cells (geoC g) true) := by rw [hold20 _ hgn]; exact hg7
  have hC := hB.c
  have hfoot : ∀ c ∈ foot p C, M7.next ≤ c ∧ c < M20.next := fun c hc => ⟨by have := (hB.cr c hc).1; omega, hC.lt hB.wf c hc⟩
  have hfsl : ∀ c, inBlk C.fsA c → c < M20.next := fun c hc => SlAt.blk_lt hC.flt hB.wf hc
  have hmg : mayG C.g = true := hC.may
  obtain ⟨hn1, hn2, e1, e2, h3, h3', h4, h4'⟩ := nP_bnd hmg
  have l0 : eLd tb 3 (.ptr M.next 0) M20 = some (.val (.int .i64 (C.g.bl.toNat : Int)), M20) := by rw [← e1, hCg]; exact eLd_some (geo_ld hg20).1
  refine bindO_i l0 ?_
  simp only [zI_int]
  refine (low M20 block C.g.bl.toNat (by omega) (by omega)).mono ?_
  rintro y M35 ⟨rfl, rfl⟩
  simp only [zI_int]
  have hbl := lowOf_lt block (show 0 < C.g.bl.toNat by omega)
  generalize lowOf block C.g.bl.toNat = bb at *
  -- ahead of the erase
  refine (c_scan M35 hw20 p C hC).mono ?_
  rintro y M38 ⟨x, rfl, hx, hfx, s38⟩
  obtain ⟨o1, o2⟩ := rd_ov fScan [] hcalm hmg
  rw [scan_idx] at o1
  rw [o1] at hx ⊢
  simp only [if_true] at hx
  generalize (ovN fScan C [] (nP C.g)).1 = C1 at *
  have hwl : ((idx C (nP C.g)).map (fdI C)).length ≤ 200 := by
    rw [List.length_map]
    have := List.length_filter_le (okI C) (List.range (nP C.g))
    rw [List.length_range] at this
    unfold idx; omega
  refine ⟨x, 0, rfl, ?_⟩
  refine letP_i fun K46 hK46 => ?_
  refine condB_i (fun h => by simp at h) (fun _ => ?_)
  -- the erase
  refine (c_erase M38 s38.wf p C1 s38.at' bb).mono ?_
  rintro y M42 ⟨rfl, s42⟩
  have hful1 : ∀ B ∈ C1.bs, B.by'.length = C1.g.pg.toNat * rawN C1.g := s38.at'.ful
  obtain ⟨q1, q2, q3, q4, q5⟩ := calm_er o2.calm (by rw [o2.g]; exact hmg) (by rw [o2.fs, hCf]) s38.at'.len hful1 (b := bb) (by rw [o2.g]; exact hbl)
  rw [q1]
  simp only [i64, zI_int]
  rw [hK46]
  clear hK46 K46
  refine condB_i (fun h => by simp at h) (fun _ => ?_)
  rw [o2.g] at q3 q5
  rw [o2.fs] at q4
  have q5' : ∀ i, i < nP C.g → pgI (erR C1 bb).1 i = if plB C.g i = bb then List.replicate (rawN C.g) 255#8 else pgI C i := fun i hi => by rw [q5 i hi, o2.pgI]
  have hnow := er_idx hmg q3 q4 q5'
  generalize (erR C1 bb).1 = C2 at *
  have s42M : Step M35 M42 p C C2 := s38.trans s42
  have hx42 : GrF M42 x ((idx C (nP C.g)).map (fdI C)) := hx.mono fun c row hc hr => step_get s42 s38.wf hr (fun hm => by
    have := hfx c hc
    rw [s38.foot] at hm
    have := (hfoot c hm).2
    omega)
  generalize (idx C (nP C.g)).map (fdI C) = was at *
  have hm2 : mayG C2.g = true := by rw [q3]; exact hmg
  refine (c_scan M42 s42M.wf p C2 s42M.at').mono ?_
  rintro y M48 ⟨x2, rfl, hx2, hfx2, s48⟩
  obtain ⟨o3, o4⟩ := rd_ov fScan [] q2 hm2
  rw [scan_idx, q3, hnow] at o3
  rw [q3] at hx2 o4 s48 ⊢
  rw [o3] at hx2 ⊢
  simp only [if_true] at hx2
  generalize (ovN fScan C2 [] (nP C.g)).1 = C3 at *
  have s48M : Step M35 M48 p C C3 := s42M.trans s48
  have hx48 : GrF M48 x was := hx42.mono fun c row hc hr => step_get s48 s42M.wf hr (fun hm => by
    have := hfx c hc
    rw [s42M.foot] at hm
    have := (hfoot c hm).2
    omega)
  have hg48 : M48.get M.next = some (.cells (geoC g) true) := step_get s48M hw20 hg20 (fun hm => by have := (hfoot _ hm).1; omega)
  have hxlt : ∀ c, inBlk x c → c < M48.next := fun c hc => SlAt.blk_lt hx48.at s48.wf hc
  have hx2lt : ∀ c, inBlk x2 c → c < M48.next := fun c hc => SlAt.blk_lt hx2.at s48.wf hc
  refine ⟨x2, 0, rfl, ?_⟩
  -- what is wanted
  refine ⟨fun v z n P => ∃ t : Nat, z = t ∧ n = was.length - t ∧ t ≤ was.length ∧ P.WF ∧ M48.next ≤ P.next ∧ (∀ c, c < M48.next → P.get c = M48.get c) ∧ GrF P v ((was.take t).filter (fun f => !(f.b == (bb : Int)))) ∧ ∀ c, inBlk v c → M48.next ≤ c, ⟨was.length, 0, rfl, rfl, Nat.zero_le _, s48.wf, Nat.le_refl _, fun _ _ => rfl, .inl ⟨rfl, rfl⟩, fun c hc => hc.elim⟩, ?_⟩
  rintro _ v n1 n2 P ⟨t, rfl, rfl, ht, hwP, hnP, holdP, hv, hfv⟩
  have hxP : FdsAt P x was := SlAt.mono hx48.at fun c row hc hr => by rw [holdP c (hxlt c hc)]; exact hr
  refine bindO_i (eLen_some hxP.len) ?_
  simp only [zI_int]
  refine condB_i (fun hlt => ?_) (fun hge => ?_)
  · have hlt : t < was.length := by simpa using hlt
    refine letP_i fun K78 hK78 => ?_
    obtain ⟨b, o, f1, f2, f3, _, _⟩ := hxP.all hlt
    have hstep : (was.take (t + 1)).filter (fun f => !(f.b == (bb : Int))) = (was.take t).filter (fun f => !(f.b == (bb : Int))) ++ (if was[t].b = (bb : Int) then [] else [was[t]]) := by
      rw [List.take_add_one, List.getElem?_eq_getElem hlt, List.filter_append]
      congr 1
      simp only [Option.toList_some, List.filter_cons, List.filter_nil]
      by_cases h : was[t].b = (bb : Int)
      · simp [h]
      · simp [h]
    refine bindO_i (f1 P) ?_
    simp only [zP_ptr]
    refine bindO_i f3 ?_
    simp only [zI_int]
    refine condB_i (fun hne => ?_) (fun he => ?_)
    · have hne : ¬ was[t].b = (bb : Int) := by simpa using hne
      refine bindO_i (f1 P) ?_
      simp only [zP_ptr]
      refine bindO_i f2 ?_
      refine ⟨_, _, _, _, _, _, rfl, ?_⟩
      refine letP_i fun M74 hM74 => ?_
      subst hM74
      have hvl : ((was.take t).filter (fun f => !(f.b == (bb : Int)))).length ≤ 200 := by
        have h1 := List.length_filter_le (fun f : Fd => !(f.b == (bb : Int))) (was.take t)
        rw [List.length_take] at h1
        omega
      obtain ⟨v', N, g1, g2, g3, g4⟩ := GrF.grow hwP hv was[t] (by omega)
      refine bindO_i g1 ?_
      rw [hK78]
      refine ⟨was.length - (t + 1), by omega, t + 1, iInc (by omega), rfl, hlt, g3.wf, Nat.le_trans hnP g3.nxt, fun c hc => ?_, by rw [hstep, if_neg hne]; exact g2, fun c hc => Nat.le_trans hnP (g4 c hc)⟩
      rw [g3.old c (by omega) (fun hm => by have := hfv c hm; omega)]
      exact holdP c hc
    · have he : was[t].b = (bb : Int) := by simpa using he
      rw [hK78]
      exact ⟨was.length - (t + 1), by omega, t + 1, iInc (by omega), rfl, hlt, hwP, hnP, holdP, by rw [hstep, if_pos he, List.append_nil]; exact hv, hfv⟩
  have hge : t = was.length := by have : ¬ (t : Int) < was.length := by simpa using hge
                                  omega
  subst hge
  rw [List.take_length] at hv
  generalize hwant : was.filter (fun f => !(f.b == (bb : Int))) = want at *
  have hC3 : ChipAt P p C3 := s48M.at'.of_get fun c row hc hr => by
    rw [holdP c ?_]; exact hr
    rcases hc with hc | hc
    · rw [s48M.foot] at hc
      have := (hfoot c hc).2
      have := s48M.keep.nxt
      omega
    · rw [s48M.fsA] at hc
      have := hfsl c hc
      have := s48M.keep.nxt
      omega
  have hgP : P.get M.next = some (.cells (geoC g) true) := by
    rw [holdP _ (by have := s48M.keep.nxt; omega)]; exact hg48
  have hx2P : GrF P x2 want := hx2.mono fun c row hc hr => by rw [holdP c (hx2lt c hc)]; exact hr
  have hR3 : Rd C2 C3 := o4
  have hM3548 : M35.next ≤ M42.next := s42M.keep.nxt
  -- the block's pages
  refine ⟨fun z n N => ∃ (j : Nat) (C4 : Chip), z = j ∧ n = C.g.pg.toNat - j ∧ j ≤ C.g.pg.toNat ∧ N.WF ∧ ChipAt N p C4 ∧ Rd C2 C4 ∧ foot p C4 = foot p C ∧ N.get M.next = some (.cells (geoC g) true) ∧ GrF N x2 want ∧ GrF N v want, ⟨C.g.pg.toNat, 0, C3, rfl, rfl, Nat.zero_le _, hwP, hC3, hR3, s48M.foot, hgP, hx2P, hv⟩, ?_⟩
  rintro _ z1 n1 N ⟨j, C4, rfl, rfl, hj, hwN, hC4, hR4, hft4, hgN, hx2N, hvN⟩
  have l1 : eLd tb 3 (.ptr M.next 1) N = some (.val (.int .i64 (C.g.pg.toNat : Int)), N) := by rw [← e2, hCg]; exact eLd_some (geo_ld hgN).2.1
  refine bindO_i l1 ?_
  simp only [zI_int]
  refine condB_i (fun hlt => ?_) (fun hge => ?_)
  · have hlt : j < C.g.pg.toNat := Int.ofNat_lt.1 (of_decide_eq_true hlt)
    have hrow : bb * C.g.pg.toNat + j < nP C.g := by
      have : (bb + 1) * C.g.pg.toNat ≤ C.g.bl.toNat * C.g.pg.toNat := Nat.mul_le_mul_right _ hbl
      rw [Nat.add_mul, Nat.one_mul] at this
      unfold nP; omega
    obtain ⟨p1, p2⟩ := pl_at (g := C.g) (b := bb) hlt
    have hrd := hR4.rd hm2 (i := bb * C.g.pg.toNat + j) (by rw [q3]; exact hrow)
    rw [q3, p1, p2, q5' _ hrow, p1, if_pos rfl] at hrd
    obtain ⟨r1, r2, r3⟩ := hrd
    refine (c_state N hwN p C4 hC4 bb j).mono ?_
    rintro y N2 ⟨rfl, s2⟩
    rw [r1, r2]
    have hr : 40 ≤ rawN C.g ∧ rawN C.g ≤ 80 := by have := mayG_iff.1 hmg; unfold rawN; omega
    have hst : lkS 0 (List.replicate (rawN C.g) 255#8) = 0 := by unfold lkS; rw [if_pos rfl, state_blank hr.1 hr.2]; rfl
    rw [hst]
    refine ⟨_, _, rfl, ?_⟩
    refine letP_i fun K92 hK92 => ?_
    refine condB_i (fun h => by simp at h) (fun _ => ?_)
    rw [hK92]
    refine condB_i (fun h => by simp at h) (fun _ => ?_)
    have nf : ∀ c, M35.next ≤ c → c ∉ foot p C4 := fun c hc hm => by rw [hft4] at hm; have := (hfoot c hm).2; omega
    refine ⟨C.g.pg.toNat - (j + 1), by omega, j + 1, _, iInc (by omega), rfl, hlt, s2.wf, s2.at', r3, by rw [s2.foot, hft4], step_get s2 hwN hgN (fun hm => by rw [hft4] at hm; have := (hfoot _ hm).1; omega), hx2N.mono fun c row hc hr => step_get s2 hwN hr (nf c (by have := hfx2 c hc; omega)), hvN.mono fun c row hc hr => step_get s2 hwN hr (nf c (by have := hfv c hc; have := s48M.keep.nxt; omega))⟩
  · refine letP_i fun K102 hK102 => ?_
    refine condB_i (fun _ => ?_) (fun h => by simp at h)
    have hwl2 : want.length ≤ 1000 := by
      rw [← hwant]
      have := List.length_filter_le (fun f : Fd => !(f.b == (bb : Int))) was
      omega
    refine (same_founds N x2 v want hx2N.at hvN.at hwl2).mono ?_
    rintro y N2 ⟨rfl, rfl⟩
    simp only [zB_bool, condB_true]
    refine (leaf_awake N2 hwN).mono ?_
    rintro y N3 rfl
    simp only [zB_bool]
    rw [hK102]

end Go.Proofs.Ytjffimbigamadaa
