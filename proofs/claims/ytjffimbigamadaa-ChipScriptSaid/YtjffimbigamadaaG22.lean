import Derived.Test.YtjffimbigamadaaG21
set_option linter.unusedSimpArgs false
set_option linter.unusedVariables false
/- ChipApart. -/
namespace Go.Proofs.Ytjffimbigamadaa
open Go.AM

theorem chip_apart (M : Mem) (hw : M.WF) (g : Geo) (x : AV) (xs : List Act) (hx : ActsAt M x xs) (hxl : xs.length ≤ 9223372036854775807) (hxo : ∀ a ∈ xs, actOk a) (block : Int) (v : BitVec 8) :
    CallA tb.P 6 [geoA g, x, i64 block, .val (.int .u8 (v.toNat : Int))] M fun y _ => y = .val (.bool true) := by
  refine F6_ok ?_
  unfold F6
  refine ⟨_, _, _, _, _, rfl, ?_⟩
  rw [show i64 block = .val (.int .i64 block) from rfl, zI_int, zI_int]
  refine letP_i fun M8 hM8 => ?_
  have hM8' : M8 = M.new (.cells (geoC g) true) := hM8
  have hK8 : Keep M M8 [] := by rw [hM8']; exact Keep.new hw _
  have hg8 : M8.get M.next = some (.cells (geoC g) true) := by rw [hM8']; exact get_new _ _
  clear hM8 hM8'
  have hFn : M.next < M8.next := hK8.wf _ _ hg8
  have hx8 : ActsAt M8 x xs := SlAt.keep0 hx hw hK8
  have hxlt : ∀ c, inBlk x c → c < M8.next := fun c hc => SlAt.blk_lt hx8 hK8.wf hc
  obtain ⟨_, _, _, _, _, l5⟩ := geo_ld hg8
  refine bindO_i (eLd_some l5) ?_
  refine ⟨_, _, _, _, _, rfl, ?_⟩
  refine (c_new M8 hK8.wf g _ [] (SlAt.nil) (by simp)).mono ?_
  rintro y15 M16 ⟨hk16, hnew⟩
  rw [mayP_nil] at hnew
  refine letP_i fun K22 hK22 => ?_
  have aw : ∀ b : Bool, b = true → K22 b := fun b hb => by
    subst hb
    rw [hK22]
    simp only [condB_true]
    refine (chip_awake M16).mono ?_
    rintro y N' ⟨rfl, _⟩
    simp only [zB_bool]
  rcases hnew with ⟨hno, rfl⟩ | ⟨hmay, p, fsA, bb, bs, rfl, hchip, hblank, hfoot, _⟩
  · rw [nil_nil24, bindO_some]
    simp only [zB_bool, condB_true]
    exact aw _ rfl
  refine bindO_i nil_eq ?_
  simp only [zB_bool, condB_false]
  have hg16 := hk16.get hK8.wf hg8 (by simp)
  have hx16 : ActsAt M16 x xs := SlAt.keep0 hx8 hK8.wf hk16
  refine bindO_i (eLen_some hx16.len) ?_
  simp only [zI_int]
  by_cases h40 : (xs.length : Int) > 40
  · exact aw _ (by simpa using h40)
  rw [decide_eq_false h40, hK22]
  simp only [condB_false]
  clear aw hK22 K22
  have h40 : xs.length ≤ 40 := by omega
  have hH : Here M16 p M8.next M16.next (newChip g fsA [] bb bs) := ⟨hchip, hk16.wf, fun c hc => ⟨hfoot c hc, hchip.lt hk16.wf c hc⟩, Nat.le_refl _⟩
  obtain ⟨e1, e2, hbl1, hbl2, hpg1, hpg2, hr1, hr2, e16⟩ := geo_nums hmay
  have hbsl : bs.length = g.bl.toNat := hchip.len
  obtain ⟨n0, n1, n2, _⟩ := geo_ld hg16
  simp only [eLd_some n0, bindO_some, i64, zI_int]
  have lowB : CallA tb.P 18 [.val (.int .i64 block), .val (.int .i64 g.bl)] M16 fun y N => y = .val (.int .i64 (lowOf block g.bl.toNat : Int)) ∧ N = M16 := by
    rw [e1]
    exact low M16 block g.bl.toNat (by omega) (by omega)
  refine lowB.mono ?_
  rintro y M29 ⟨rfl, rfl⟩
  simp only [zI_int]
  have hi := lowOf_lt block (show 0 < g.bl.toNat by omega)
  generalize lowOf block g.bl.toNat = i at hi ⊢
  have hok := new_ok (fsA := fsA) (bb := bb) hblank (i := i) (by omega)
  refine bindO_i (eLd_some n2) ?_
  simp only [i64, zI_int]
  rw [e16]
  have hfs0 : (newChip g fsA [] bb bs).ops = 0 := rfl
  generalize newChip g fsA [] bb bs = C0 at *
  generalize hR : rawN g = R at *
  have hd : ∀ w : BitVec 8, (pat w R).length = rawN g := fun w => by rw [hR]; simp
  -- the programs
  refine ⟨fun z n P => ∃ (k : Nat) (C : Chip), z = k ∧ n = g.pg.toNat - k ∧ k + 1 ≤ g.pg.toNat ∧ Here P p M8.next M29.next C ∧ Ok C g i (pagesL g (fun q => v + BitVec.ofNat 8 q) k) k 0 ∧ C.ops = (k : Int) ∧ ActsAt P x xs ∧ P.get M.next = some (.cells (geoC g) true), ⟨g.pg.toNat, 0, C0, rfl, rfl, by omega, hH, by unfold pagesL; rw [hR]; exact hok, hfs0, hx16, hg16⟩, ?_⟩
  rintro _ z n P ⟨k, C, rfl, rfl, hk, hP, okP, hops, hxP, hgP⟩
  obtain ⟨_, b1, _⟩ := geo_ld hgP
  have ek : iAdd .i64 (k : Int) 1 = ((k + 1 : Nat) : Int) := iInc (by omega)
  simp only [eLd_some b1, bindO_some, i64, zI_int, ek]
  refine condB_i (fun hlt => ?_) (fun hge => ?_)
  · have hlt : k + 1 < g.pg.toNat := by have : ((k + 1 : Nat) : Int) < g.pg := by simpa using hlt
                                        omega
    rw [add_u8]
    refine (h_bytes hP (v + BitVec.ofNat 8 k) rfl (by omega)).mono ?_
    rintro x2 P2 ⟨hx2, hk2, hf2, hP2⟩
    have hg2 := hk2.get hP.wf hgP (by simp)
    have hxs2 : ActsAt P2 x xs := SlAt.keep0 hxP hP.wf hk2
    have hn1 := hP.nxt
    have hp := isG_nat (g := g) hi (show k < g.pg.toNat by omega)
    refine (h_program hP2 i k x2 _ hx2 (by simp; omega) (fun c hc => .inr (Nat.le_trans hn1 (hf2 c hc)))).mono ?_
    rintro y P5 ⟨rfl, s5, hP5⟩
    obtain ⟨h1, h2⟩ := okP.pg rfl hp (hd _)
    have h3 := okP.pgOps rfl hp (hd (v + BitVec.ofNat 8 k))
    rw [h1]
    simp only [i64, zI_int]
    refine condB_i (fun h => by simp at h) (fun _ => ?_)
    rw [ek, hR] at h2
    rw [hops, ek] at h3
    refine ⟨g.pg.toNat - (k + 1), by omega, k + 1, _, rfl, rfl, by omega, hP5, ?_, h3, SlAt.mono hxs2 fun c r hc hr => hP2.get s5 (.inl (hxlt c hc)) hr, hP2.get s5 (.inl hFn) hg2⟩
    have e : pagesL g (fun q => v + BitVec.ofNat 8 q) (k + 1) = over (pagesL g (fun q => v + BitVec.ofNat 8 q) k) (k * R) (pat (v + BitVec.ofNat 8 k) R) := by
      show over _ (k * rawN g) (pat _ (rawN g)) = _
      rw [hR]
    rw [e]
    exact h2
  have hge : k + 1 = g.pg.toNat := by have : ¬ ((k + 1 : Nat) : Int) < g.pg := by simpa using hge
                                      omega
  clear ek
  have hppage := pagesL_page g (fun q => v + BitVec.ofNat 8 q) k (by omega)
  rw [hR] at hppage
  generalize hL : pagesL g (fun q => v + BitVec.ofNat 8 q) k = L at *
  have hW0 : Wx C g i L k 0 8 := ⟨okP.g, okP.fs, okP.blk, by omega, by omega⟩
  -- the acts
  refine ⟨fun z n P => ∃ (t : Nat) (C : Chip), z = t ∧ n = xs.length - t ∧ t ≤ xs.length ∧ Here P p M8.next M29.next C ∧ Wx C g i L k 0 (8 + t) ∧ ActsAt P x xs ∧ P.get M.next = some (.cells (geoC g) true), ⟨xs.length, 0, C, rfl, rfl, Nat.zero_le _, hP, hW0, hxP, hgP⟩, ?_⟩
  clear hW0 hP okP hops hxP hgP b1
  rintro _ z n P ⟨t, C, rfl, rfl, ht, hP, hW, hxP, hgP⟩
  refine bindO_i (eLen_some hxP.len) ?_
  simp only [zI_int]
  refine condB_i (fun hlt => ?_) (fun hge2 => ?_)
  · have hlt : t < xs.length := by simpa using hlt
    refine letP_i fun K102 hK102 => ?_
    have next : ∀ (N : Mem) (C' : Chip), Here N p M8.next M29.next C' → Wx C' g i L k 0 (8 + t + 1) → ActsAt N x xs → N.get M.next = some (.cells (geoC g) true) → K102 N := by
      intro N C' h1 h2 h3 h4
      rw [hK102]
      exact ⟨xs.length - (t + 1), by omega, t + 1, C', iInc (by omega), rfl, hlt, h1, by rw [show 8 + (t + 1) = 8 + t + 1 by omega]; exact h2, h3, h4⟩
    clear hK102
    obtain ⟨b, o, h1, h2⟩ := hxP.at hlt
    refine bindO_i (eIA_some h1) ?_
    simp only [zP_ptr]
    refine bindO_i (eLd_some h2) ?_
    have hao := hxo _ (List.getElem_mem hlt)
    generalize xs[t] = a at *
    refine ⟨_, _, _, _, _, _, _, _, rfl, ?_⟩
    refine letP_i fun M65 hM65 => ?_
    subst hM65
    refine bindO_i (eSt_some (act_st a (get_new P _) rfl)) ?_
    rw [Mem.new_put]
    have hk1 := Keep.new hP.wf (.cells (actC a) true)
    have hb1 := get_new P (.cells (actC a) true)
    generalize P.new (.cells (actC a) true) = P1 at hk1 hb1 ⊢
    have hP1 := hP.keep hk1
    have hx1 : ActsAt P1 x xs := SlAt.keep0 hxP hP.wf hk1
    have hg1 := hk1.get hP.wf hgP (by simp)
    have hGP : M29.next ≤ P.next := hP.nxt
    have s0 : eLd tb 3 (.ptr P.next 0) P1 = some (i64 a.do', P1) := eLd_some (ld_cell ty3 rfl hb1 rfl)
    have s1 : eLd tb 3 (.ptr P.next 1) P1 = some (i64 a.b, P1) := eLd_some (ld_cell ty3 rfl hb1 rfl)
    simp only [i64] at s0 s1
    simp only [s0, s1, bindO_some, zI_int]
    refine condB_i (fun _ => next P1 C hP1 (hW.mono (by omega)) hx1 hg1) (fun hne => ?_)
    have hne : a.b ≠ (i : Int) := by simpa using hne
    refine letP_i fun K100 hK100 => ?_
    have go : ∀ (N : Mem) (C' : Chip), Step P1 N p C C' → Wx C' g i L k 0 (8 + t + 1) → K100 N := by
      intro N C' s hW'
      rw [hK100]
      exact next N C' (hP1.step s) hW' (SlAt.mono hx1 fun c r hc hr => hP1.get s (.inl (hxlt c hc)) hr) (hP1.get s (.inl hFn) hg1)
    clear hK100
    refine condB_i (fun _ => ?_) (fun _ => ?_)
    · -- a program
      have sp : eLd tb 30 (.ptr P.next 1) P1 = some (placeA a.b a.k, P1) := eLd_some (ld_agg (n := 2) ty30 rfl rfl hb1 (by simp [actC]))
      have sn : eLd tb 5 (.ptr P.next 3) P1 = some (bv8 a.n, P1) := eLd_some (ld_cell ty5 rfl hb1 rfl)
      have sl : eLd tb 3 (.ptr P.next 4) P1 = some (i64 a.len, P1) := eLd_some (ld_cell ty3 rfl hb1 rfl)
      refine bindO_i sp ?_
      refine ⟨_, _, rfl, ?_⟩
      refine bindO_i sn ?_
      simp only [bv8, zI_int]
      refine bindO_i sl ?_
      simp only [i64, zI_int]
      refine (h_bytesZ hP1 a.n (by unfold actOk inI64 at hao; exact hao)).mono ?_
      rintro x2 P2 ⟨n2, hn2, hx2, hk2, hf2, hP2⟩
      have hb2 := hk2.get hP1.wf hb1 (by simp)
      have sp2 : eLd tb 30 (.ptr P.next 1) P2 = some (placeA a.b a.k, P2) := eLd_some (ld_agg (n := 2) ty30 rfl rfl hb2 (by simp [actC]))
      refine ⟨bindO_i sp2 rfl, ?_⟩
      have hn1 := hP1.nxt
      refine (h_program hP2 a.b a.k x2 _ hx2 (by simp; omega) (fun c hc => .inr (Nat.le_trans hn1 (hf2 c hc)))).mono ?_
      rintro y P3 ⟨rfl, s3, hP3⟩
      simp only [i64, zI_int]
      exact go P3 _ (s3.pre hk2) (hW.pg (by omega) hne _ _)
    refine condB_i (fun _ => ?_) (fun _ => ?_)
    · refine (c_erase P1 hP1.wf p C hP1.at' a.b).mono ?_
      rintro y P2 ⟨rfl, s2⟩
      simp only [i64, zI_int]
      exact go P2 _ s2 (hW.er (by omega) hne)
    refine condB_i (fun _ => ?_) (fun _ => ?_)
    · have sc : eLd tb 42 (.ptr P.next 5) P1 = some (cutA a.op a.by' a.f, P1) := eLd_some (ld_agg (n := 3) ty42 rfl rfl hb1 (by simp [actC]))
      refine bindO_i sc ?_
      refine ⟨_, _, _, rfl, ?_⟩
      refine (c_arm P1 hP1.wf p C hP1.at' a.op a.by' a.f).mono ?_
      rintro y P2 ⟨rfl, s2⟩
      simp only [i64, zI_int]
      exact go P2 _ s2 ((hW.arm _ _ _).mono (by omega))
    refine condB_i (fun _ => ?_) (fun _ => ?_)
    · refine (c_boot P1 hP1.wf p C hP1.at').mono ?_
      rintro y P2 ⟨rfl, s2⟩
      simp only [i64, zI_int]
      exact go P2 _ s2 (hW.boot.mono (by omega))
    · exact go P1 C (Step.refl hP1.wf hP1.at') (hW.mono (by omega))
  have hW := hW.mono (o' := 100) (by omega)
  -- power, a cut far off
  refine letP_i fun K118 hK118 => ?_
  have rest : ∀ (N : Mem) (C1 : Chip), Here N p M8.next M29.next C1 → Wx C1 g i L k 0 100 → C1.off = false → N.get M.next = some (.cells (geoC g) true) →
      CallA tb.P 26 [.ptr p 0, cutA 1073741824 0 0#8] N fun y N1 => zI .i64 y fun z => K118 (z != 0) N1 := by
    intro N C1 hN hW1 hoff hgN
    refine (c_arm N hN.wf p C1 hN.at' 1073741824 0 0#8).mono ?_
    rintro y N1 ⟨rfl, s1⟩
    obtain ⟨o, ho⟩ : ∃ o : Nat, C1.ops = (o : Int) := ⟨C1.ops.toNat, by have := hW1.o0; omega⟩
    have ho2 : o ≤ 100 := by have := hW1.o1; omega
    have e : armR C1 1073741824 0 0#8 = ({ C1 with cop := 1073741824, cby := 0, cf := 0#8, turn := ((o + 1073741824 : Nat) : Int) }, 0) := by
      unfold armR
      rw [hoff, if_neg (by decide), if_neg (by omega), ho, iAdd, wrap_i64' (by omega) (by omega)]
      rfl
    rw [e] at s1 ⊢
    have hN1 := hN.step s1
    have hgN1 := hN.get s1 (.inl hFn) hgN
    have hR1 : Rx ({ C1 with cop := 1073741824, cby := 0, cf := 0#8, turn := ((o + 1073741824 : Nat) : Int) } : Chip) g i L k 0 o (o + 1073741824) := ⟨hW1.g, hW1.fs, hoff, hW1.blk, ho, rfl⟩
    generalize ({ C1 with cop := 1073741824, cby := 0, cf := 0#8, turn := ((o + 1073741824 : Nat) : Int) } : Chip) = C2 at *
    simp only [i64, zI_int]
    rw [bne_self_eq_false, hK118]
    simp only [condB_false]
    clear hK118
    obtain ⟨T, hT⟩ : ∃ T, T = o + 1073741824 := ⟨_, rfl⟩
    rw [← hT] at hR1
    refine ⟨fun z n Q => ∃ (q : Nat) (D : Chip), z = q ∧ n = g.pg.toNat - q ∧ q ≤ g.pg.toNat ∧ Here Q p M8.next M29.next D ∧ Rx D g i L k 0 (o + q) T ∧ Q.get M.next = some (.cells (geoC g) true), ⟨g.pg.toNat, 0, C2, rfl, rfl, Nat.zero_le _, hN1, hR1, hgN1⟩, ?_⟩
    rintro _ z n Q ⟨q, D, rfl, rfl, hq, hQ, hRQ, hgQ⟩
    obtain ⟨_, b1, _⟩ := geo_ld hgQ
    simp only [eLd_some b1, bindO_some, i64, zI_int]
    refine condB_i (fun hlt => ?_) (fun hge3 => ?_)
    · have hlt : q < g.pg.toNat := by have : (q : Int) < g.pg := by simpa using hlt
                                      omega
      refine (x_read hQ i q).mono ?_
      rintro y Q1 ⟨u, rfl, hu, hfu, s2, hQ1⟩
      obtain ⟨r1, r2, r3⟩ := hRQ.rd (by omega) (by omega) (isG_nat hi hlt)
      rw [r1]
      refine ⟨u, 0, rfl, ?_⟩
      have hgq1 := hQ.get s2 (.inl hFn) hgQ
      rw [r2, hR, hppage q hlt] at hu
      have hul : (if q < k then pat (v + BitVec.ofNat 8 q) R else List.replicate R 255#8).length = R := by split <;> simp
      refine letP_i fun K hK => ?_
      generalize rdC D (i : Int) (q : Int) = D1 at *
      have good : ∀ N : Mem, Here N p M8.next M29.next D1 → N.get M.next = some (.cells (geoC g) true) → K false N := by
        intro N hN' hgN'
        rw [hK]
        simp only [condB_false]
        exact ⟨g.pg.toNat - (q + 1), by omega, q + 1, D1, iInc (by omega), rfl, hlt, hN', r3, hgN'⟩
      refine condB_i (fun h => by simp at h) (fun _ => ?_)
      refine bindO_i (eLen_some hu.at.len) ?_
      simp only [zI_int]
      rw [hul, bne_self_eq_false]
      simp only [condB_false]
      obtain ⟨_, b2, _⟩ := geo_ld hgq1
      have eq1 : iAdd .i64 (q : Int) 1 = ((q + 1 : Nat) : Int) := iInc (by omega)
      simp only [eLd_some b2, bindO_some, i64, zI_int, eq1]
      refine condB_i (fun hqk => ?_) (fun hqk => ?_)
      · have hqk : q < k := by have : ((q + 1 : Nat) : Int) < g.pg := by simpa using hqk
                               omega
        rw [if_pos hqk] at hu
        rw [add_u8]
        refine (h_bytes hQ1 (v + BitVec.ofNat 8 q) rfl (by omega)).mono ?_
        rintro x2 Q2 ⟨hx2, hk2, _, hQ2⟩
        have hu2 : BytesAt Q2 u (pat (v + BitVec.ofNat 8 q) R) := SlAt.keep0 hu.at hQ1.wf hk2
        have hgq2 := hk2.get hQ1.wf hgq1 (by simp)
        refine (same_bytes Q2 u x2 _ _ hu2 hx2 (by simp; omega)).mono ?_
        rintro y N' ⟨rfl, rfl⟩
        simp only [zB_bool]
        refine condB_i (fun h => by simp at h) (fun _ => ?_)
        obtain ⟨_, b3, _⟩ := geo_ld hgq2
        simp only [eLd_some b3, bindO_some, i64, zI_int]
        refine condB_i (fun h => ?_) (fun _ => good _ hQ2 hgq2)
        have : ((q + 1 : Nat) : Int) = g.pg := by simpa using h
        omega
      · have hqk : ¬ q < k := by
          have : ¬ ((q + 1 : Nat) : Int) < g.pg := by simpa using hqk
          omega
        rw [if_neg hqk] at hu
        refine condB_i (fun _ => ?_) (fun _ => good _ hQ1 hgq1)
        obtain ⟨b', o', h1, h2⟩ := hu.at.at (i := 0) (by simp; omega)
        have h1' : eIA tb 33 u (.val (.int .i64 0)) Q1 = some (.ptr b' o', Q1) := eIA_some h1
        refine bindO_i h1' ?_
        simp only [zP_ptr]
        refine bindO_i (eLd_some h2) ?_
        simp only [zI_int, List.getElem_replicate]
        exact good _ hQ1 hgq1
    refine letP_i fun K hK => ?_
    obtain ⟨B, hB, hBl, hBn, hBw⟩ := hRQ.blk
    have hus : usedOf D i = k ∧ wearOf D i = 0 := by
      unfold usedOf wearOf
      rw [if_pos (by omega), if_pos (by omega), Int.toNat_natCast, hB]
      exact ⟨hBn, hBw⟩
    refine (c_used Q hQ.wf p D hQ.at' i).mono ?_
    rintro y Q1 ⟨rfl, hk1⟩
    have hQ1 := hQ.keep hk1
    have hgq1 := hk1.get hQ.wf hgQ (by simp)
    obtain ⟨_, b2, _⟩ := geo_ld hgq1
    rw [hus.1]
    simp only [i64, zI_int]
    refine ⟨bindO_i (eLd_some b2) rfl, ?_⟩
    have epg : iSub .i64 g.pg 1 = (k : Int) := by rw [iSub, wrap_i64' (by omega) (by omega)]; omega
    rw [epg]
    refine condB_i (fun _ => ?_) (fun h => by simp at h)
    refine (c_wear Q1 hQ1.wf p D hQ1.at' i).mono ?_
    rintro y Q2 ⟨rfl, hk2⟩
    have hQ2 := hQ1.keep hk2
    rw [hus.2]
    simp only [i64, zI_int]
    refine condB_i (fun _ => ?_) (fun h => by simp at h)
    refine (c_failed Q2 hQ2.wf p D hQ2.at' i).mono ?_
    rintro y Q3 ⟨rfl, hk3⟩
    have hfl : failed D (i : Int) = false := by
      unfold failed
      rw [Int.toNat_natCast, hB, hRQ.fs]
      simp [failsF_nil]
    rw [hfl]
    simp only [zB_bool]
    refine condB_i (fun _ => ?_) (fun h => by simp at h)
    refine (chip_awake Q3).mono ?_
    rintro y N' ⟨rfl, _⟩
    simp only [zB_bool]
    rw [hK]
  clear hK118
  refine (c_on P hP.wf p C hP.at').mono ?_
  rintro y P1 ⟨rfl, rfl⟩
  simp only [zB_bool]
  refine condB_i (fun hoff => ?_) (fun hon => ?_)
  · have hoff : C.off = true := by simpa using hoff
    refine (c_boot P1 hP.wf p C hP.at').mono ?_
    rintro y P2 ⟨rfl, s2⟩
    have hW2 := hW.boot
    have hb : (bootR C).2 = 0 ∧ (bootR C).1.off = false := by unfold bootR; rw [if_pos hoff]; exact ⟨rfl, rfl⟩
    rw [hb.1]
    simp only [i64, zI_int]
    refine condB_i (fun h => by simp at h) (fun _ => ?_)
    exact rest P2 _ (hP.step s2) hW2 hb.2 (hP.get s2 (.inl hFn) hgP)
  · have hon : C.off = false := by simpa using hon
    exact rest P1 C hP hW hon hgP

end Go.Proofs.Ytjffimbigamadaa
