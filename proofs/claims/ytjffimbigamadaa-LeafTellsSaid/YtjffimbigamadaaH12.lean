import Derived.Test.YtjffimbigamadaaH11
import Derived.Test.YtjffimbigamadaaL3
set_option linter.unusedSimpArgs false
set_option linter.unusedVariables false
set_option linter.unusedSectionVars false
/- LeafTells. -/
namespace Go.Proofs.Ytjffimbigamadaa
open Go.AM
theorem l_ov {α : Type} (f : α → Nat → Nat → Tg → Int → α) (a : α) {n : Nat} {C : Chip} {S : DocS} (h : Alike n C (vw S)) (hn : n ≤ 10000) : nP S.d.g = nP C.g ∧ (ovN f C a (nP C.g)).2 = (dvN f (vw S) a (nP C.g)).2 ∧ Alike (n + 160) (ovN f C a (nP C.g)).1 (dvN f (vw S) a (nP C.g)).1 := by
  have hg : S.d.g = C.g := h.g
  obtain ⟨_, h2, _⟩ := nP_bnd h.may
  obtain ⟨e, ha⟩ := alike_ov f a h (nP C.g) (by omega)
  exact ⟨by rw [hg], e, ha.mono (by omega)⟩

set_option maxRecDepth 100000 in
theorem leaf_tells (M : Mem) (hw : M.WF) (g : Geo) (fx : AV) (fs : List Flt) (hfx : FltsAt M fx fs) (hfl : fs.length ≤ 9223372036854775807) (px : AV) (ps : List Put) (hpx : PutsAt M px ps) (b k cut : Int) :
    CallA tb.P 11 [geoA g, fx, px, placeA b k, i64 cut] M fun y _ => y = .val (.bool true) := by
  refine F11_ok ?_
  unfold F11
  refine ⟨_, _, _, _, _, rfl, _, _, rfl, ?_⟩
  simp only [i64, zI_int]
  refine letP_i fun M9 hM9 => ?_
  have hM9' : M9 = M.new (.cells (geoC g) true) := hM9
  have hk9 : Keep M M9 [] := by rw [hM9']; exact Keep.new hw _
  have hg9 : M9.get M.next = some (.cells (geoC g) true) := by rw [hM9']; exact get_new _ _
  clear hM9 hM9'
  refine letP_i fun M10 hM10 => ?_
  have hM10' : M10 = M9.new (.cells [i64 b, i64 k] true) := hM10
  have hk10 : Keep M9 M10 [] := by rw [hM10']; exact Keep.new hk9.wf _
  have hp10 : M10.get M9.next = some (.cells [i64 b, i64 k] true) := by rw [hM10']; exact get_new _ _
  clear hM10 hM10'
  have hg10 := hk10.get hk9.wf hg9 (by simp)
  have hK10 := hk9.trans0 hk10
  have hpn := hk10.wf _ _ hp10
  have hf10 : FltsAt M10 fx fs := SlAt.keep0 hfx hw hK10
  have hpx10 : PutsAt M10 px ps := SlAt.keep0 hpx hw hK10
  refine letP_i fun K16 hK16 => ?_
  have big : K16 true := by
    rw [hK16]
    simp only [condB_true]
    refine (leaf_awake M10 hK10.wf).mono ?_
    rintro y N rfl
    simp only [zB_bool]
  have small : ps.length ≤ 60 → K16 false := by
    intro h60
    rw [hK16]
    clear big hK16 K16
    simp only [condB_false]
    refine bindO_i (eLd_some (geo_ld hg10).2.2.2.2.2) ?_
    refine ⟨_, _, _, _, _, rfl, ?_⟩
    refine (l_both M10 hK10.wf g fx fs hf10 hfl px ps hpx10 (by omega)).mono ?_
    clear hfl
    rintro y M27 ⟨hw27, hn27, hold27, hb⟩
    have hp27 : M27.get M9.next = some (.cells [i64 b, i64 k] true) := by rw [hold27 _ hpn]; exact hp10
    rcases hb with ⟨hno, rfl⟩ | ⟨hmay, p, C, r, S, F, B, rfl, hMF, hB, hA, hR, hCg, hCf, hcalm⟩
    · refine ⟨_, _, true, rfl, ?_⟩
      refine letP_i fun K36 hK36 => ?_
      rw [nil_nil24, bindO_some]
      simp only [zB_bool, condB_true]
      rw [hK36]
      simp only [condB_true]
      refine letP_i fun K42 hK42 => ?_
      refine (leaf_awake M27 hw27).mono ?_
      rintro y N rfl
      simp only [zB_bool]
      rw [hK42]
    refine ⟨_, _, true, rfl, ?_⟩
    refine letP_i fun K36 hK36 => ?_
    rw [nil_eq, bindO_some]
    simp only [zB_bool, condB_false]
    rw [nil_eq55, bindO_some]
    simp only [zB_bool]
    rw [hK36]
    clear hK36 K36
    simp only [condB_false]
    have hpF : M9.next < F := by omega
    -- State
    refine bindO_i (eLd_some (place_ld hp27).2.2) ?_
    refine ⟨_, _, rfl, ?_⟩
    refine (c_state M27 hw27 p C hB.c b k).mono ?_
    rintro y M47 ⟨rfl, s47⟩
    obtain ⟨h47, f47⟩ := hB.cstep s47
    have hp47 := f47 _ _ (.inl hpF) hp27
    obtain ⟨r1, r2, r3⟩ := alike_rd hA (by omega) b k
    refine ⟨_, _, rfl, ?_⟩
    refine bindO_i (eLd_some (place_ld hp47).2.2) ?_
    refine ⟨_, _, rfl, ?_⟩
    refine (d_state M47 h47.wf r S h47.d b k).mono ?_
    rintro y M54 ⟨S2, rfl, v2, s54, _⟩
    obtain ⟨h54, f54⟩ := h47.dstep s54
    have hp54 := f54 _ _ (.inl hpF) hp47
    rw [← v2] at r3
    rw [← r1, ← r2]
    refine ⟨_, _, rfl, ?_⟩
    generalize lkS (rdE C b k) (rdB C b k) = st0
    generalize rdE C b k = e0
    generalize rdC C b k = C1 at *
    -- Load
    refine bindO_i (eLd_some (place_ld hp54).2.2) ?_
    refine ⟨_, _, rfl, ?_⟩
    refine (c_load M54 h54.wf p C1 h54.c b k).mono ?_
    rintro y M61 ⟨u, rfl, hu, hfu, s61⟩
    obtain ⟨h61, f61⟩ := h54.cstep s61
    have hp61 := f61 _ _ (.inl hpF) hp54
    obtain ⟨q1, q2, q3⟩ := alike_rd r3 (by omega) b k
    have hlen : (rdB C1 b k).length ≤ 80 := rdB_len h54.c b k
    have hul : (lkD (rdE C1 b k) (rdB C1 b k)).length ≤ 80 := by
      unfold lkD
      split
      · rw [List.length_take]; omega
      · simp
    refine ⟨u, (lkT (rdE C1 b k) (rdB C1 b k)).k, (lkT (rdE C1 b k) (rdB C1 b k)).p, (lkT (rdE C1 b k) (rdB C1 b k)).s, (lkT (rdE C1 b k) (rdB C1 b k)).e, _, rfl, ?_⟩
    refine letP_i fun M68 hM68 => ?_
    subst hM68
    refine bindO_i (tg_st (lkT (rdE C1 b k) (rdB C1 b k)) (get_new M61 _) rfl) ?_
    rw [Mem.new_put]
    have hk69 := Keep.new h61.wf (.cells (tgC (lkT (rdE C1 b k) (rdB C1 b k))) true)
    have ht69 := get_new M61 (.cells (tgC (lkT (rdE C1 b k) (rdB C1 b k))) true)
    generalize M61.new (.cells (tgC (lkT (rdE C1 b k) (rdB C1 b k))) true) = M69 at hk69 ht69 ⊢
    have h69 : Both M69 p (rdC C1 b k) r S2 F B [M61.next] := h61.add hk69 (Nat.le_refl _) (hk69.wf _ _ ht69)
    have hp69 := hk69.get h61.wf hp61 (by simp)
    have hu69 : Gr M69 u (lkD (rdE C1 b k) (rdB C1 b k)) := hu.mono fun c row _ hr => hk69.get h61.wf hr (by simp)
    refine bindO_i (eLd_some (place_ld hp69).2.2) ?_
    refine ⟨_, _, rfl, ?_⟩
    refine (d_load M69 h69.wf r S2 h69.d b k).mono ?_
    rintro y M74 ⟨x75, S3, rfl, hx75, hfx75, v3, s74, _⟩
    obtain ⟨h74, f74⟩ := h69.dstep s74
    rw [← v3] at q3
    rw [← q1, ← q2] at hx75 ⊢
    have hu74 : Gr M74 u (lkD (rdE C1 b k) (rdB C1 b k)) := hu69.mono fun c row hc hr => s74.keep.get h69.wf hr (fun hm => by
      have := hfu c hc
      have := h54.dlt.1 c hm
      omega)
    have ht74 := f74 _ _ (.inr (by simp)) ht69
    refine ⟨x75, (lkT (rdE C1 b k) (rdB C1 b k)).k, (lkT (rdE C1 b k) (rdB C1 b k)).p, (lkT (rdE C1 b k) (rdB C1 b k)).s, (lkT (rdE C1 b k) (rdB C1 b k)).e, _, rfl, ?_⟩
    refine letP_i fun M81 hM81 => ?_
    subst hM81
    refine bindO_i (tg_st (lkT (rdE C1 b k) (rdB C1 b k)) (get_new M74 _) rfl) ?_
    rw [Mem.new_put]
    have hk82 := Keep.new h74.wf (.cells (tgC (lkT (rdE C1 b k) (rdB C1 b k))) true)
    have ht82' := get_new M74 (.cells (tgC (lkT (rdE C1 b k) (rdB C1 b k))) true)
    generalize M74.new (.cells (tgC (lkT (rdE C1 b k) (rdB C1 b k))) true) = M82 at hk82 ht82' ⊢
    have h82 := (h74.keep hk82).drop (Y := []) (by simp)
    have ht82 := hk82.get h74.wf ht74 (by simp)
    have hu82 : Gr M82 u (lkD (rdE C1 b k) (rdB C1 b k)) := hu74.mono fun c row _ hr => hk82.get h74.wf hr (by simp)
    have hx82 : Gr M82 x75 (lkD (rdE C1 b k) (rdB C1 b k)) := hx75.mono fun c row _ hr => hk82.get h74.wf hr (by simp)
    generalize lkD (rdE C1 b k) (rdB C1 b k) = dd at *
    generalize lkT (rdE C1 b k) (rdB C1 b k) = tt at *
    generalize ldE (rdE C1 b k) (rdB C1 b k) = ee
    generalize rdC C1 b k = C2 at *
    refine letP_i fun K106 hK106 => ?_
    have rest : K106 false M82 := by
      rw [hK106]
      clear hK106 K106
      simp only [condB_false]
      refine letP_i fun K129 hK129 => ?_
      have go : ∀ (N : Mem) (C3 : Chip) (S4 : DocS), Both N p C3 r S4 F B [] → Alike 100 C3 (vw S4) → K129 N := by
        intro N C3 S4 hN hA3
        rw [hK129]
        clear hK129 K129
        obtain ⟨en, e1, a1⟩ := l_ov fScan [] hA3 (by omega)
        refine (c_scan N hN.wf p C3 hN.c).mono ?_
        rintro y M131 ⟨x, rfl, hx, hfx, s131⟩
        obtain ⟨h131, _⟩ := hN.cstep s131
        refine ⟨x, _, rfl, ?_⟩
        refine (d_scan M131 h131.wf r S4 h131.d).mono ?_
        rintro y M135 ⟨x', S5, rfl, hx', hfx', v5, s135, _⟩
        obtain ⟨h135, _⟩ := h131.dstep s135
        rw [en] at v5 hx' ⊢
        rw [← e1] at hx' ⊢
        rw [← v5] at a1
        have hxl : (if (ovN fScan C3 [] (nP C3.g)).2.2 = 0 then (ovN fScan C3 [] (nP C3.g)).2.1 else []).length ≤ 1000 := by
          have := scan_len C3 (nP C3.g)
          obtain ⟨_, h2, _⟩ := nP_bnd hN.c.may
          split
          · omega
          · simp
        generalize (ovN fScan C3 [] (nP C3.g)).2.2 = e5 at *
        generalize (if e5 = 0 then (ovN fScan C3 [] (nP C3.g)).2.1 else []) = l5 at *
        generalize (ovN fScan C3 [] (nP C3.g)).1 = C4 at *
        have hx135 : GrF M135 x l5 := hx.mono fun c row hc hr => s135.keep.get h131.wf hr (fun hm => by
          have := hfx c hc
          have := hN.dlt.1 c hm
          omega)
        refine ⟨x', _, rfl, ?_⟩
        obtain ⟨en2, e2, a2⟩ := l_ov fCount [0, 0, 0] a1 (by omega)
        refine (c_count M135 h135.wf p C4 h135.c).mono ?_
        rintro y M139 ⟨rfl, s139⟩
        obtain ⟨h139, _⟩ := h135.cstep s139
        have hx139 : GrF M139 x l5 := hx135.mono fun c row hc hr => step_get s139 h135.wf hr (fun hm => by
          have := hfx c hc
          have h1 := h135.cr c hm
          have := hN.nxt
          omega)
        have hx139' : GrF M139 x' l5 := hx'.mono fun c row hc hr => step_get s139 h135.wf hr (fun hm => by
          have := hfx' c hc
          have h1 := h135.cr c hm
          have := h131.nxt
          omega)
        refine ⟨_, _, _, _, rfl, ?_⟩
        refine (d_count M139 h139.wf r S5 h139.d).mono ?_
        rintro y M145 ⟨S6, rfl, v6, s145, _⟩
        rw [en2, ← e2]
        have hown : ∀ c ∈ own r S5, c < M131.next := fun c hc => by rw [s135.own] at hc; exact h131.dlt.1 c hc
        have hown0 : ∀ c ∈ own r S5, c < N.next := fun c hc => by rw [s135.own] at hc; exact hN.dlt.1 c hc
        have hx145 : GrF M145 x l5 := hx139.mono fun c row hc hr => s145.keep.get h139.wf hr (fun hm => by
          have := hfx c hc
          have := hown0 c hm
          omega)
        have hx145' : GrF M145 x' l5 := hx139'.mono fun c row hc hr => s145.keep.get h139.wf hr (fun hm => by
          have := hfx' c hc
          have := hown c hm
          omega)
        refine ⟨_, _, _, _, rfl, ?_⟩
        refine letP_i fun K161 hK161 => ?_
        refine (same_founds M145 x x' l5 hx145.at hx145'.at hxl).mono ?_
        rintro y M151 ⟨rfl, rfl⟩
        simp only [zB_bool, condB_true]
        refine (l_num M151 _).mono ?_
        rintro y M154 ⟨rfl, rfl⟩
        simp only [zI_int, beq_self_eq_true, condB_true]
        refine (l_num M154 _).mono ?_
        rintro y M157 ⟨rfl, rfl⟩
        simp only [zI_int, beq_self_eq_true]
        rw [hK161]
        refine (over_founds M157 s145.keep.wf x l5 hx145 hxl).mono ?_
        intro y M163 hw163
        refine letP_i fun K169 hK169 => ?_
        simp only [condB_true]
        refine (leaf_awake M163 hw163).mono ?_
        rintro y N' rfl
        simp only [zB_bool]
        rw [hK169]
      refine condB_i (fun hc => ?_) (fun hc => go M82 C2 S3 h82 (q3.mono (by omega)))
      refine letP_i fun M107 hM107 => ?_
      subst hM107
      have hst : eSt tb 42 (.ptr M82.next 0) (cutA cut 0 0#8) (M82.new (.cells [i64 0, i64 0, bv8 0#8] true)) = some (undefA, (M82.new (.cells [i64 0, i64 0, bv8 0#8] true)).put M82.next (.cells [i64 cut, i64 0, bv8 0#8] true)) :=
        eSt_some (st_all ty42 rfl (get_new M82 _) rfl (by intro v hv; simp only [List.mem_cons, List.not_mem_nil, or_false] at hv; rcases hv with rfl | rfl | rfl <;> rfl))
      refine bindO_i hst ?_
      rw [Mem.new_put]
      have hk108 := Keep.new h82.wf (.cells [i64 cut, i64 0, bv8 0#8] true)
      have hc108 := get_new M82 (.cells [i64 cut, i64 0, bv8 0#8] true)
      generalize M82.new (.cells [i64 cut, i64 0, bv8 0#8] true) = M108 at hk108 hc108 ⊢
      have h108 : Both M108 p C2 r S3 F B [M82.next] := h82.add hk108 (Nat.le_refl _) (hk108.wf _ _ hc108)
      have ldc : ∀ {N : Mem}, N.get M82.next = some (.cells [i64 cut, i64 0, bv8 0#8] true) → eLd tb 42 (.ptr M82.next 0) N = some (cutA cut 0 0#8, N) := fun h => eLd_some (ld_agg (n := 3) ty42 rfl rfl h (by simp))
      refine bindO_i (ldc hc108) ?_
      refine ⟨_, _, _, rfl, ?_⟩
      refine bindO_i (ldc hc108) ?_
      refine ⟨_, _, _, rfl, ?_⟩
      refine (c_arm M108 h108.wf p C2 h108.c cut 0 0#8).mono ?_
      rintro y M118 ⟨rfl, s118⟩
      obtain ⟨h118, f118⟩ := h108.cstep s118
      have hc118 := f118 _ _ (.inr (by simp)) hc108
      obtain ⟨a1, a2⟩ := alike_arm q3 (by omega) cut 0 0#8
      simp only [i64, zI_int]
      refine ⟨bindO_i (ldc hc118) rfl, ?_⟩
      refine (l_num M118 _).mono ?_
      rintro y M122 ⟨rfl, rfl⟩
      simp only [zI_int]
      refine ⟨bindO_i (ldc hc118) rfl, ?_⟩
      refine (d_arm M122 h118.wf r S3 h118.d cut 0 0#8).mono ?_
      rintro y M126 ⟨S4, rfl, v4, s126⟩
      obtain ⟨h126, _⟩ := h118.dstep s126
      rw [← v4] at a2
      simp only [i64, zI_int]
      rw [a1, bne_self_eq_false]
      simp only [condB_false]
      exact go M126 _ S4 (h126.drop (Y := []) (by simp)) (a2.mono (by omega))
    clear hK106
    simp only [bne_self_eq_false, condB_false]
    refine (l_num M82 _).mono ?_
    rintro y M84 ⟨rfl, rfl⟩
    simp only [zI_int, bne_self_eq_false, condB_false]
    refine (same_bytes M84 u x75 _ _ hu82.at hx82.at (by omega)).mono ?_
    rintro y M87 ⟨rfl, rfl⟩
    rw [decide_eq_true rfl]
    simp only [zB_bool, Bool.not_true, condB_false]
    refine bindO_i (eLd_some (tg_ld ht82)) ?_
    refine ⟨_, _, _, _, rfl, ?_⟩
    refine bindO_i (eLd_some (tg_ld ht82')) ?_
    refine ⟨_, _, _, _, rfl, ?_⟩
    refine bindO_i (ne_tg _ _ tt M87) ?_
    simp only [zB_bool, condB_false]
    refine (l_num M87 _).mono ?_
    rintro y M102 ⟨rfl, rfl⟩
    simp only [zI_int, bne_self_eq_false]
    exact rest
  refine bindO_i (eLen_some hpx10.len) ?_
  simp only [zI_int]
  refine condB_i (fun _ => big) (fun h60 => ?_)
  have h60 : ps.length ≤ 60 := by have : ¬ (ps.length : Int) > 60 := by simpa using h60
                                  omega
  refine bindO_i (eLen_some hf10.len) ?_
  simp only [zI_int]
  cases decide ((fs.length : Int) > 20) with
  | true => exact big
  | false => exact small h60

end Go.Proofs.Ytjffimbigamadaa
