import Derived.Test.YtjffimbigamadaaH14
set_option linter.unusedSimpArgs false
set_option linter.unusedVariables false
set_option linter.unusedSectionVars false
/- LeafCounts. -/
namespace Go.Proofs.Ytjffimbigamadaa
open Go.AM

theorem cntOf3 (a b c : Int) : cntOf [a, b, c] 0 0 = a ∧ cntOf [a, b, c] 0 1 = b ∧ cntOf [a, b, c] 0 2 = c := ⟨rfl, rfl, rfl⟩

theorem FdsAt.one {M : Mem} {x : AV} {l : List Fd} (h : FdsAt M x l) {t : Nat} (ht : t < l.length) {b k : Int} {tt : Tg} (e : l[t] = ⟨b, k, tt⟩) :
    ∃ p o, (∀ N, eIA tb 70 x (.val (.int .i64 (t : Int))) N = some (.ptr p o, N)) ∧ ∀ N, FdsAt N x l → eLd tb 3 (.ptr p o) N = some (.val (.int .i64 b), N) ∧ eLd tb 30 (.ptr p o) N = some (placeA b k, N) ∧ eLd tb 76 (.ptr p (o + 2)) N = some (tgA tt, N) := by
  obtain ⟨p, o, f1, _⟩ := h.all ht
  refine ⟨p, o, f1, fun N hN => ?_⟩
  obtain ⟨p', o', g1, _, g3, g4, g5⟩ := hN.all ht
  have := (f1 N).symm.trans (g1 N)
  injection this with this
  injection this with h1 h2
  injection h1 with h1 h3
  subst h1 h3
  rw [e] at g3 g4 g5
  exact ⟨g3, g4, g5⟩

set_option maxRecDepth 100000 in
theorem leaf_counts (M : Mem) (hw : M.WF) (g : Geo) (fx : AV) (fs : List Flt) (hfx : FltsAt M fx fs) (hfl : fs.length ≤ 9223372036854775807) (px : AV) (ps : List Put) (hpx : PutsAt M px ps) :
    CallA tb.P 10 [geoA g, fx, px] M fun y _ => y = .val (.bool true) := by
  refine F10_ok ?_
  unfold F10
  refine ⟨_, _, _, _, _, rfl, ?_⟩
  refine letP_i fun M6 hM6 => ?_
  have hM6' : M6 = M.new (.cells (geoC g) true) := hM6
  have hk6 : Keep M M6 [] := by rw [hM6']; exact Keep.new hw _
  have hg6 : M6.get M.next = some (.cells (geoC g) true) := by rw [hM6']; exact get_new _ _
  clear hM6 hM6'
  have hgn := hk6.wf _ _ hg6
  have hf6 : FltsAt M6 fx fs := SlAt.keep0 hfx hw hk6
  have hpx6 : PutsAt M6 px ps := SlAt.keep0 hpx hw hk6
  refine letP_i fun K12 hK12 => ?_
  have big : K12 true := by
    rw [hK12]
    simp only [condB_true]
    refine (leaf_awake M6 hk6.wf).mono ?_
    rintro y N rfl
    simp only [zB_bool]
  have small : ps.length ≤ 60 → K12 false := by
    intro h60
    rw [hK12]
    clear big hK12 K12
    simp only [condB_false]
    refine bindO_i (eLd_some (geo_ld hg6).2.2.2.2.2) ?_
    refine ⟨_, _, _, _, _, rfl, ?_⟩
    refine (l_both M6 hk6.wf g fx fs hf6 hfl px ps hpx6 (by omega)).mono ?_
    clear hfl
    rintro y M20 ⟨hw20, hn20, hold20, hb⟩
    rcases hb with ⟨hno, rfl⟩ | ⟨hmay, p, C, r, S, F, B, rfl, hMF, hB, hA, hR, hCg, hCf, hcalm⟩
    · refine ⟨_, _, true, rfl, ?_⟩
      rw [nil_nil24, bindO_some]
      simp only [zB_bool, condB_true]
      refine letP_i fun K31 hK31 => ?_
      refine (leaf_awake M20 hw20).mono ?_
      rintro y N rfl
      simp only [zB_bool]
      rw [hK31]
    refine ⟨_, _, true, rfl, ?_⟩
    rw [nil_eq, bindO_some]
    simp only [zB_bool, condB_false]
    have hg20 : M20.get M.next = some (.cells (geoC g) true) := by rw [hold20 _ hgn]; exact hg6
    have hC := hB.c
    have hfoot : ∀ c ∈ foot p C, M6.next ≤ c ∧ c < M20.next := fun c hc => ⟨by have := (hB.cr c hc).1; omega, hC.lt hB.wf c hc⟩
    have hmg : mayG C.g = true := hC.may
    obtain ⟨hn1, hn2, e1, e2, h3, h3', h4, h4'⟩ := nP_bnd hmg
    have hgnf : M.next ∉ foot p C := fun hm => by have := (hfoot _ hm).1; omega
    subst hCg
    -- Count
    refine (c_count M20 hw20 p C hC).mono ?_
    rintro y M36 ⟨rfl, s36⟩
    obtain ⟨o1, o2⟩ := rd_ov fCount [0, 0, 0] hcalm hmg
    rw [count_idx C _ (by omega)] at o1
    rw [o1]
    generalize (ovN fCount C [0, 0, 0] (nP C.g)).1 = C1 at *
    obtain ⟨c0, c1, c2⟩ := cntOf3 (cntI C 0 (nP C.g) : Int) (cntI C 1 (nP C.g) : Int) (cntI C 2 (nP C.g) : Int)
    simp only [c0, c1, c2]
    refine ⟨_, _, _, _, rfl, ?_⟩
    -- Scan
    refine (c_scan M36 s36.wf p C1 s36.at').mono ?_
    rintro y M42 ⟨x, rfl, hx, hfx', s42⟩
    obtain ⟨o3, o4⟩ := rd_ov fScan [] o2.calm (by rw [o2.g]; exact hmg)
    obtain ⟨i1, i2⟩ := o2.idx (nP C.g)
    rw [scan_idx, o2.g, i1, List.map_congr_left (fun i _ => i2 i)] at o3
    rw [o2.g] at o4 hx s42 ⊢
    rw [o3] at hx ⊢
    simp only [if_true] at hx
    generalize (ovN fScan C1 [] (nP C.g)).1 = C2 at *
    have hR2 := o2.trans o4
    have s42M := s36.trans s42
    have hil : (idx C (nP C.g)).length ≤ 160 := by
      have := List.length_filter_le (okI C) (List.range (nP C.g))
      rw [List.length_range] at this
      unfold idx; omega
    obtain ⟨L, hL⟩ : ∃ L, L = (idx C (nP C.g)).length := ⟨_, rfl⟩
    have hlL : ((idx C (nP C.g)).map (fdI C)).length = L := by rw [List.length_map, hL]
    have hg42 := step_get s42M hw20 hg20 hgnf
    refine ⟨_, _, rfl, ?_⟩
    -- blocks that are not bad
    refine ⟨fun z1 z2 n P => ∃ i : Nat, z1 = gdB C i ∧ z2 = i ∧ n = C.g.bl.toNat - i ∧ i ≤ C.g.bl.toNat ∧ Keep M42 P [], ⟨C.g.bl.toNat, 0, rfl, rfl, rfl, Nat.zero_le _, Keep.refl s42.wf⟩, ?_⟩
    rintro _ z1 z2 n1 P ⟨i, rfl, rfl, rfl, hi, hkP⟩
    have hgP := hkP.get s42.wf hg42 (by simp)
    have sP := s42M.post hkP
    have l0 : eLd tb 3 (.ptr M.next 0) P = some (.val (.int .i64 (C.g.bl.toNat : Int)), P) := by rw [← e1]; exact eLd_some (geo_ld hgP).1
    refine bindO_i l0 ?_
    simp only [zI_int]
    have hgl := gdB_le C i
    refine condB_i (fun hlt => ?_) (fun hge => ?_)
    · have hlt : i < C.g.bl.toNat := Int.ofNat_lt.1 (of_decide_eq_true hlt)
      refine letP_i fun K58 hK58 => ?_
      refine (c_badOf P hkP.wf p C2 sP.at' _).mono ?_
      rintro y P2 ⟨rfl, hk2⟩
      simp only [zB_bool]
      rw [hK58, hR2.fs]
      cases hbad : badF C.fs (i : Int) with
      | true =>
        simp only [Bool.not_true, condB_false]
        exact ⟨C.g.bl.toNat - (i + 1), by omega, i + 1, by rw [gdB_succ, hbad]; simp, iInc (by omega), rfl, hlt, hkP.trans0 hk2⟩
      | false =>
        simp only [Bool.not_false, condB_true]
        exact ⟨C.g.bl.toNat - (i + 1), by omega, i + 1, by rw [iInc (by omega), gdB_succ, hbad]; simp, iInc (by omega), rfl, hlt, hkP.trans0 hk2⟩
    have hge : i = C.g.bl.toNat := by have : ¬ (i : Int) < C.g.bl.toNat := of_decide_eq_false hge
                                      omega
    subst hge
    have hxP : FdsAt P x ((idx C (nP C.g)).map (fdI C)) := SlAt.mono hx.at fun c row _ hr => hkP.get s42.wf hr (by simp)
    have l1 : eLd tb 3 (.ptr M.next 1) P = some (.val (.int .i64 (C.g.pg.toNat : Int)), P) := by rw [← e2]; exact eLd_some (geo_ld hgP).2.1
    -- the sums are right
    refine letP_i fun K65 hK65 => ?_
    refine condB_i (fun h => by simp at h) (fun _ => ?_)
    refine condB_i (fun h => by simp at h) (fun _ => ?_)
    refine bindO_i l1 ?_
    simp only [zI_int]
    have hsum := cnt_sum C (nP C.g)
    have hmul : gdI C (nP C.g) = gdB C C.g.bl.toNat * C.g.pg.toNat := gd_mul C C.g.bl.toNat
    have hle := gdI_le C (nP C.g)
    have hadd : iAdd .i64 (iAdd .i64 (cntI C 0 (nP C.g) : Int) (cntI C 1 (nP C.g) : Int)) (cntI C 2 (nP C.g) : Int) = (gdI C (nP C.g) : Int) := by
      have h1 : iAdd .i64 (cntI C 0 (nP C.g) : Int) (cntI C 1 (nP C.g) : Int) = ((cntI C 0 (nP C.g) + cntI C 1 (nP C.g) : Nat) : Int) := by
        rw [iAdd, wrap_i64' (by omega) (by omega)]; rfl
      rw [h1, iAdd, wrap_i64' (by omega) (by omega)]
      omega
    have hmul2 : iMul .i64 (gdB C C.g.bl.toNat : Int) (C.g.pg.toNat : Int) = (gdI C (nP C.g) : Int) := by
      rw [iMul, ← Int.natCast_mul, ← hmul, wrap_i64' (by omega) (by omega)]
    rw [hadd, hmul2]
    refine condB_i (fun h => by simp at h) (fun _ => ?_)
    refine bindO_i (eLen_some hxP.len) ?_
    simp only [zI_int]
    rw [cnt_one, hlL, ← hL, bne_self_eq_false, hK65]
    clear hadd hmul2 hsum hmul hle hK65 K65
    simp only [condB_false]
    -- every found
    refine ⟨fun z n N => ∃ (t : Nat) (C4 : Chip), z = t ∧ n = L - t ∧ t ≤ L ∧ Step M20 N p C C4 ∧ Keep M42 N (foot p C) ∧ Rd C C4, ⟨L, 0, C2, rfl, rfl, Nat.zero_le _, sP, hkP.mono (by simp), hR2⟩, ?_⟩
    rintro _ z1 n1 N ⟨t, C4, rfl, rfl, ht, sN, hkN, hR4⟩
    have hxk : ∀ N, Keep M42 N (foot p C) → FdsAt N x ((idx C (nP C.g)).map (fdI C)) := fun N hk => SlAt.mono hx.at fun c row hc hr => hk.get s42.wf hr (fun hm => by
      have := hfx' c hc
      have := (hfoot c hm).2
      have := s36.keep.nxt
      omega)
    have hxN := hxk N hkN
    refine bindO_i (eLen_some hxN.len) ?_
    simp only [zI_int]
    rw [hlL]
    refine condB_i (fun hlt => ?_) (fun hge => ?_)
    · have hlt : t < L := Int.ofNat_lt.1 (of_decide_eq_true hlt)
      have hti : t < (idx C (nP C.g)).length := by omega
      obtain ⟨j1, j2, j3⟩ := idx_facts C (nP C.g) hti
      obtain ⟨j, hj⟩ : ∃ j, j = (idx C (nP C.g))[t] := ⟨_, rfl⟩
      rw [← hj] at j1 j2 j3
      have hfd : ((idx C (nP C.g)).map (fdI C))[t]'(by omega) = ⟨(plB C.g j : Int), (plK C.g j : Int), tgOf (pgI C j)⟩ := by
        rw [List.getElem_map, ← hj]; rfl
      obtain ⟨b, o, f1, f2⟩ := hxN.one (by omega) hfd
      refine bindO_i (f1 N) ?_
      simp only [zP_ptr]
      refine bindO_i (f2 N hxN).2.1 ?_
      refine ⟨_, _, rfl, ?_⟩
      -- State
      obtain ⟨r1, r2, r3⟩ := hR4.rd hmg j1
      refine (c_state N sN.wf p C4 sN.at' _ _).mono ?_
      rintro y M80 ⟨rfl, s80⟩
      have hS : lkS 0 (pgI C j) = 1 := by unfold lkS; rw [if_pos rfl, j3]; rfl
      have hT : lkT 0 (pgI C j) = tgOf (pgI C j) := by unfold lkT; rw [if_pos ⟨rfl, j3⟩]
      have hE : ldE 0 (pgI C j) = 0 := by unfold ldE; rw [if_pos rfl, if_pos j3]
      rw [r1, r2, hS]
      have s80M := sN.trans s80
      have hk80 : Keep M42 M80 (foot p C) := hkN.trans s80.keep (fun _ h _ => h) (fun _ h _ => sN.foot ▸ h)
      generalize rdC C4 (plB C.g j : Int) (plK C.g j : Int) = C5 at *
      refine ⟨_, _, rfl, ?_⟩
      refine bindO_i (f1 M80) ?_
      simp only [zP_ptr]
      refine bindO_i (f2 M80 (hxk _ hk80)).2.1 ?_
      refine ⟨_, _, rfl, ?_⟩
      -- Load
      obtain ⟨r4, r5, r6⟩ := r3.rd hmg j1
      refine (c_load M80 s80.wf p C5 s80.at' _ _).mono ?_
      rintro y M90 ⟨u, rfl, _, _, s90⟩
      rw [r4, r5, hT, hE]
      have s90M := s80M.trans s90
      have hk90 : Keep M42 M90 (foot p C) := hk80.trans s90.keep (fun _ h _ => h) (fun _ h _ => s80M.foot ▸ h)
      generalize rdC C5 (plB C.g j : Int) (plK C.g j : Int) = C6 at *
      refine ⟨u, (tgOf (pgI C j)).k, (tgOf (pgI C j)).p, (tgOf (pgI C j)).s, (tgOf (pgI C j)).e, _, rfl, ?_⟩
      refine letP_i fun M97 hM97 => ?_
      subst hM97
      refine bindO_i (tg_st (tgOf (pgI C j)) (get_new M90 _) rfl) ?_
      rw [Mem.new_put]
      have hk97 := Keep.new s90.wf (.cells (tgC (tgOf (pgI C j))) true)
      have ht97 := get_new M90 (.cells (tgC (tgOf (pgI C j))) true)
      generalize M90.new (.cells (tgC (tgOf (pgI C j))) true) = M97 at hk97 ht97 ⊢
      have s97M := s90M.post hk97
      have hk97M : Keep M42 M97 (foot p C) := hk90.trans hk97 (fun _ h _ => h) (by simp)
      refine letP_i fun K156 hK156 => ?_
      have next : ∀ N', Step M20 N' p C C6 → Keep M42 N' (foot p C) → K156 false N' := by
        intro N' sN' hkN'
        rw [hK156]
        simp only [condB_false]
        exact ⟨L - (t + 1), by omega, t + 1, C6, iInc (by omega), rfl, hlt, sN', hkN', r6⟩
      clear hK156
      refine condB_i (fun h => by simp at h) (fun _ => ?_)
      refine condB_i (fun h => by simp at h) (fun _ => ?_)
      refine condB_i (fun h => by simp at h) (fun _ => ?_)
      refine bindO_i (f1 M97) ?_
      simp only [zP_ptr]
      refine bindO_i (eLd_some (tg_ld ht97)) ?_
      refine ⟨_, _, _, _, rfl, ?_⟩
      refine bindO_i (f2 M97 (hxk _ hk97M)).2.2 ?_
      refine ⟨_, _, _, _, rfl, ?_⟩
      refine bindO_i (ne_tg _ _ (tgOf (pgI C j)) M97) ?_
      simp only [zB_bool, condB_false]
      -- its block is not bad
      refine bindO_i (f1 M97) ?_
      simp only [zP_ptr]
      refine bindO_i (f2 M97 (hxk _ hk97M)).1 ?_
      simp only [zI_int]
      refine (c_badOf M97 hk97.wf p C6 s97M.at' _).mono ?_
      rintro y M120 ⟨rfl, hk120⟩
      rw [r6.fs, j2]
      simp only [zB_bool, condB_false]
      have s120M := s97M.post hk120
      have hk120M : Keep M42 M120 (foot p C) := hk97M.trans hk120 (fun _ h _ => h) (by simp)
      have hx120 := hxk _ hk120M
      refine condB_i (fun hpos => ?_) (fun _ => ⟨trivial, trivial, next _ s120M hk120M⟩)
      have hpos : 0 < t := by have : (t : Int) > 0 := of_decide_eq_true hpos
                              omega
      -- numbers rise
      obtain ⟨s, rfl⟩ : ∃ s, t = s + 1 := ⟨t - 1, by omega⟩
      have hdec : iSub .i64 ((s + 1 : Nat) : Int) 1 = (s : Int) := by rw [iSub, wrap_i64' (by omega) (by omega)]; omega
      have hsi : s < (idx C (nP C.g)).length := by omega
      obtain ⟨k1, k2, k3⟩ := idx_facts C (nP C.g) hsi
      have hrise := idx_rise C (nP C.g) (s := s) (t := s + 1) (by omega) hti
      obtain ⟨i', hi'⟩ : ∃ i', i' = (idx C (nP C.g))[s] := ⟨_, rfl⟩
      rw [← hi'] at k1 k2 k3 hrise
      rw [← hj] at hrise
      have hfd' : ((idx C (nP C.g)).map (fdI C))[s]'(by omega) = ⟨(plB C.g i' : Int), (plK C.g i' : Int), tgOf (pgI C i')⟩ := by
        rw [List.getElem_map, ← hi']; rfl
      obtain ⟨b', o', f1', f2'⟩ := hxN.one (by omega) hfd'
      have num : ∀ q, q < nP C.g → ((plB C.g q : Nat) : Int) * C.g.pg + ((plK C.g q : Nat) : Int) = (q : Int) := fun q hq => by
        obtain ⟨_, _, _, p4⟩ := pl_is hmg hq
        rw [e2, ← Int.natCast_mul, ← Int.natCast_add]
        exact congrArg _ p4
      refine bindO_i (f1 M120) ?_
      simp only [zP_ptr]
      rw [hdec]
      refine bindO_i (f1' M120) ?_
      simp only [zP_ptr]
      have hg120 := step_get s120M hw20 hg20 hgnf
      refine bindO_i (eLd_some (geo_ld hg120).2.2.2.2.2) ?_
      refine ⟨_, _, _, _, _, rfl, ?_⟩
      refine bindO_i (f2 M120 hx120).2.1 ?_
      refine ⟨_, _, rfl, ?_⟩
      refine bindO_i (eLd_some (geo_ld hg120).2.2.2.2.2) ?_
      refine ⟨_, _, _, _, _, rfl, ?_⟩
      refine bindO_i (f2' M120 hx120).2.1 ?_
      refine ⟨_, _, rfl, ?_⟩
      refine (r_number M120 s120M.wf C.g hmg _ _ (pl_is hmg j1).1).mono ?_
      rintro y M147 ⟨rfl, hk147⟩
      rw [num j j1]
      simp only [i64, zI_int]
      have s147M := s120M.post hk147
      have hk147M : Keep M42 M147 (foot p C) := hk120M.trans hk147 (fun _ h _ => h) (by simp)
      have hg147 := step_get s147M hw20 hg20 hgnf
      refine ⟨by rw [eLd_some (geo_ld hg147).2.2.2.2.2]; rfl, by rw [(f2' M147 (hxk _ hk147M)).2.1]; rfl, ?_⟩
      refine (r_number M147 s147M.wf C.g hmg _ _ (pl_is hmg k1).1).mono ?_
      rintro y M152 ⟨rfl, hk152⟩
      rw [num i' k1]
      simp only [i64, zI_int]
      rw [decide_eq_false (by omega : ¬ ((j : Int) ≤ (i' : Int)))]
      exact next _ (s147M.post hk152) (hk147M.trans hk152 (fun _ h _ => h) (by simp))
    · refine (leaf_awake N sN.wf).mono ?_
      rintro y N3 rfl
      simp only [zB_bool]
  clear hK12
  refine bindO_i (eLen_some hpx6.len) ?_
  simp only [zI_int]
  refine condB_i (fun _ => big) (fun h60 => ?_)
  have h60 : ps.length ≤ 60 := by have : ¬ (ps.length : Int) > 60 := by simpa using h60
                                  omega
  refine bindO_i (eLen_some hf6.len) ?_
  simp only [zI_int]
  cases decide ((fs.length : Int) > 20) with
  | true => exact big
  | false => exact small h60

end Go.Proofs.Ytjffimbigamadaa
