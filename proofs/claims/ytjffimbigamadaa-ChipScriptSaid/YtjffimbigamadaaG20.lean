import Derived.Test.YtjffimbigamadaaB3
import Derived.Test.YtjffimbigamadaaG19
set_option linter.unusedSimpArgs false
set_option linter.unusedVariables false
/- ChipFaults. -/
namespace Go.Proofs.Ytjffimbigamadaa
open Go.AM

theorem rem_i64 {a b : Nat} (hb : 0 < b) (hb2 : b ≤ 1000000) (xo yo : Operand) (M : Mem) : eBin tb .rem 3 xo yo (.val (.int .i64 (a : Int))) (.val (.int .i64 (b : Int))) M = some (.val (.int .i64 ((a % b : Nat) : Int)), M) := by
  refine eBin_some ?_
  rw [evBin_int (by simp) (by simp)]
  have hnn : ((b : Nat) : Int) ≠ 0 := by omega
  have e : ((a : Int)).tmod (b : Int) = ((a % b : Nat) : Int) := by
    rw [Int.tmod_eq_emod_of_nonneg (by omega)]; omega
  simp only [intBin, hnn, decide_false, cond_false, e, Option.map_some]

theorem chip_faults (M : Mem) (hw : M.WF) (g : Geo) (block after : Int) (v : BitVec 8) :
    CallA tb.P 7 [geoA g, i64 block, i64 after, .val (.int .u8 (v.toNat : Int))] M fun y _ => y = .val (.bool true) := by
  refine F7_ok ?_
  unfold F7
  refine ⟨_, _, _, _, _, rfl, ?_⟩
  rw [show i64 block = .val (.int .i64 block) from rfl, zI_int, show i64 after = .val (.int .i64 after) from rfl, zI_int, zI_int]
  refine letP_i fun M9 hM9 => ?_
  have hM9' : M9 = M.new (.cells (geoC g) true) := hM9
  have hK9 : Keep M M9 [] := by rw [hM9']; exact Keep.new hw _
  have hg9 : M9.get M.next = some (.cells (geoC g) true) := by rw [hM9']; exact get_new _ _
  clear hM9 hM9'
  have hFn : M.next < M9.next := hK9.wf _ _ hg9
  refine (low M9 after 20 (by omega) (by omega)).mono ?_
  rintro y M11 ⟨rfl, rfl⟩
  simp only [zI_int]
  have ha0 := lowOf_lt after (show 0 < 20 by omega)
  generalize lowOf after 20 = a0 at ha0 ⊢
  have eat : iAdd .i64 1 (a0 : Int) = ((a0 + 1 : Nat) : Int) := by rw [iAdd, wrap_i64' (by omega) (by omega)]; omega
  rw [eat]
  obtain ⟨a, ha⟩ : ∃ a, a = a0 + 1 := ⟨_, rfl⟩
  rw [← ha]
  have ha1 : 1 ≤ a := by omega
  have ha2 : a ≤ 20 := by omega
  clear eat
  refine letP_i fun K34 hK34 => ?_
  have aw : ∀ N : Mem, K34 true N := fun N => by
    rw [hK34]
    simp only [condB_true]
    refine (chip_awake N).mono ?_
    rintro y N' ⟨rfl, _⟩
    simp only [zB_bool]
  obtain ⟨_, _, _, _, _, l5⟩ := geo_ld hg9
  refine bindO_i (eLd_some l5) ?_
  refine ⟨_, _, _, _, _, rfl, ?_⟩
  refine (c_new M11 hK9.wf g _ [] (SlAt.nil) (by simp)).mono ?_
  rintro y19 M20 ⟨hk20, hnew⟩
  rw [mayP_nil] at hnew
  rcases hnew with ⟨hno, rfl⟩ | ⟨hmay, p0, _, _, _, rfl, _⟩
  · rw [nil_nil24, bindO_some]
    simp only [zB_bool, condB_true]
    exact aw _
  refine bindO_i nil_eq ?_
  simp only [zB_bool, condB_false]
  have hg20 := hk20.get hK9.wf hg9 (by simp)
  obtain ⟨_, _, _, _, _, m5⟩ := geo_ld hg20
  refine bindO_i (eLd_some m5) ?_
  refine ⟨_, _, _, _, _, rfl, ?_⟩
  refine (c_may16 M20 hk20.wf g).mono ?_
  rintro y M30 ⟨rfl, hk30⟩
  simp only [zB_bool, hmay, hK34]
  refine condB_i (fun h => by simp at h) (fun _ => ?_)
  clear aw hK34 K34
  have hg30 := hk30.get hk20.wf hg20 (by simp)
  obtain ⟨e1, e2, hbl1, hbl2, hpg1, hpg2, hr1, hr2, e16⟩ := geo_nums hmay
  obtain ⟨n0, n1, n2, _, _, n5⟩ := geo_ld hg30
  simp only [eLd_some n0, bindO_some, i64, zI_int]
  have lowB : CallA tb.P 18 [.val (.int .i64 block), .val (.int .i64 g.bl)] M30 fun y N => y = .val (.int .i64 (lowOf block g.bl.toNat : Int)) ∧ N = M30 := by
    rw [e1]
    exact low M30 block g.bl.toNat (by omega) (by omega)
  refine lowB.mono ?_
  rintro y M41 ⟨rfl, rfl⟩
  simp only [zI_int]
  have hi := lowOf_lt block (show 0 < g.bl.toNat by omega)
  generalize lowOf block g.bl.toNat = i at hi ⊢
  refine bindO_i (eLd_some n5) ?_
  refine ⟨_, _, _, _, _, rfl, ?_⟩
  refine letP_i fun M49 hM49 => ?_
  have hM49' : M49 = M41.new (.cells ([(⟨(i : Int), false, (a : Int)⟩ : Flt)].flatMap fltC) true) := hM49
  have hK49 : Keep M41 M49 [] := by rw [hM49']; exact Keep.new hk30.wf _
  have hf49 : M49.get M41.next = some (.cells ([(⟨(i : Int), false, (a : Int)⟩ : Flt)].flatMap fltC) true) := by rw [hM49']; exact get_new _ _
  clear hM49 hM49'
  have hFl : FltsAt M49 (.sl M41.next 0 1 1 none) [⟨(i : Int), false, (a : Int)⟩] := ⟨rfl, .inr ⟨_, _, _, _, rfl, ⟨Nat.le_refl _, .inl rfl⟩, .inr ⟨_, _, hf49, by simp [fltC], by rfl⟩⟩⟩
  have hg49 := hK49.get hk30.wf hg30 (by simp)
  have hn49 : M.next < M49.next := hK49.wf _ _ hg49
  refine (c_new M49 hK49.wf g _ _ hFl (by simp)).mono ?_
  rintro y50 M51 ⟨hk51, hnew⟩
  rw [mayP_one hmay hi (by omega)] at hnew
  rcases hnew with ⟨hno, _⟩ | ⟨_, p, fsA, bb, bs, rfl, hchip, hblank, hfoot, _⟩
  · cases hno
  refine bindO_i nil_eq ?_
  simp only [zB_bool, condB_false]
  have hg51 := hk51.get hK49.wf hg49 (by simp)
  obtain ⟨_, _, q2, _⟩ := geo_ld hg51
  simp only [eLd_some q2, bindO_some, i64, zI_int]
  rw [e16]
  have hbsl : bs.length = g.bl.toNat := hchip.len
  have hH : Here M51 p M49.next M51.next (newChip g fsA [⟨(i : Int), false, (a : Int)⟩] bb bs) := ⟨hchip, hk51.wf, fun c hc => ⟨hfoot c hc, hchip.lt hk51.wf c hc⟩, Nat.le_refl _⟩
  obtain ⟨hFx, hBl⟩ := newF_ok (fsA := fsA) (bb := bb) hblank (i := i) (by omega) a
  have hlen0 : (newChip g fsA [⟨(i : Int), false, (a : Int)⟩] bb bs).bs.length = g.bl.toNat := hbsl
  generalize newChip g fsA [⟨(i : Int), false, (a : Int)⟩] bb bs = C0 at *
  generalize hR : rawN g = R at *
  have hp0 : isG g i 0 = true := isG_nat (j := 0) hi (by omega)
  have hd : (pat v R).length = rawN g := by rw [hR]; simp
  -- as often as told
  refine ⟨fun z z' n P => ∃ (k t : Nat) (C : Chip) (l : List (BitVec 8)) (wr : Int), z = k ∧ z' = t ∧ n = a - t ∧ t ≤ a ∧ k ≤ g.pg.toNat ∧ Here P p M49.next M51.next C ∧ Fx C g i a ∧ BlkD C i l k wr t ∧ l.length = g.pg.toNat * R ∧ (0 < k → (l.drop (0 * R)).take R = pat v R) ∧ C.bs.length = g.bl.toNat ∧ P.get M.next = some (.cells (geoC g) true),
    ⟨a, 0, 0, C0, _, 0, rfl, rfl, rfl, Nat.zero_le _, Nat.zero_le _, hH, hFx, hBl, by simp, fun h => by omega, hlen0, hg51⟩, ?_⟩
  rintro _ z z' n P ⟨k, t, C, l, wr, rfl, rfl, rfl, ht, hk, hP, hx, hB, hlen, hpg, hcl, hgP⟩
  have hlenOf : ∀ (C' : Chip) (N : Mem), Here N p M49.next M51.next C' → C'.g = g → C'.bs.length = g.bl.toNat := fun C' N hN e => by
    have := hN.at'.len; rw [e] at this; exact this
  refine condB_i (fun hlt => ?_) (fun hge => ?_)
  · have hlt : t < a := by simpa using hlt
    refine (c_failed P hP.wf p C hP.at' i).mono ?_
    rintro y P1 ⟨rfl, hk1⟩
    have hP1 := hP.keep hk1
    have hg1 := hk1.get hP.wf hgP (by simp)
    simp only [zB_bool]
    rw [hx.failed hB, decide_eq_false (by omega)]
    simp only [condB_false]
    refine letP_i fun K78 hK78 => ?_
    have go : ∀ (k' : Nat) (N : Mem) (C' : Chip) (l' : List (BitVec 8)) (wr' : Int), k' ≤ g.pg.toNat → Here N p M49.next M51.next C' → Fx C' g i a → BlkD C' i l' k' wr' (t + 1) → l'.length = g.pg.toNat * R → (0 < k' → (l'.drop (0 * R)).take R = pat v R) → N.get M.next = some (.cells (geoC g) true) → K78 (k' : Int) 0 N := by
      intro k' N C' l' wr' h1 h2 h3 h4 h5 h6 h7
      rw [hK78]
      refine condB_i (fun h => by simp at h) (fun _ => ?_)
      exact ⟨a - (t + 1), by omega, k', t + 1, C', l', wr', rfl, iInc (by omega), rfl, hlt, h1, h2, h3, h4, h5, h6, hlenOf _ _ h2 h3.g, h7⟩
    obtain ⟨_, b1, _⟩ := geo_ld hg1
    simp only [eLd_some b1, bindO_some, i64, zI_int]
    refine condB_i (fun he => ?_) (fun he => ?_)
    · refine (c_erase P1 hP1.wf p C hP1.at' i).mono ?_
      rintro y P2 ⟨rfl, s2⟩
      obtain ⟨t1, t2, t3⟩ := hx.er hB hlt (by omega) hp0
      rw [t1]
      simp only [i64, zI_int]
      rw [hlen] at t3
      exact go 0 P2 _ _ _ (Nat.zero_le _) (hP1.step s2) t2 t3 (by simp) (fun h => by omega) (hP1.get s2 (.inl hn49) hg1)
    · have he : k < g.pg.toNat := by
        have : ¬ (k : Int) = g.pg := by simpa using he
        omega
      refine (h_bytes hP1 v rfl (by omega)).mono ?_
      rintro x2 P2 ⟨hx2, hk2, hf2, hP2⟩
      have hg2 := hk2.get hP1.wf hg1 (by simp)
      have hnx := hP1.nxt
      refine (h_program hP2 i k x2 _ hx2 (by simp; omega) (fun c hc => .inr (Nat.le_trans hnx (hf2 c hc)))).mono ?_
      rintro y P3 ⟨rfl, s3, hP3⟩
      obtain ⟨t1, t2, t3⟩ := hx.prog hB hlt (by omega) (isG_nat hi he) hd
      rw [t1]
      simp only [i64, zI_int]
      have ek : iAdd .i64 (k : Int) 1 = ((k + 1 : Nat) : Int) := iInc (by omega)
      rw [ek, hR] at t3
      rw [ek]
      refine go (k + 1) P3 _ _ _ (by omega) hP3 t2 t3 (over_len hlen (by simp) he) (fun _ => ?_) (hP2.get s3 (.inl hn49) hg2)
      rw [over_page hlen (by simp) he (by omega)]
      by_cases hk0 : 0 = k
      · rw [if_pos hk0]
      · rw [if_neg hk0]; exact hpg (by omega)
  have hge : t = a := by have : ¬ (t : Int) < a := by simpa using hge
                         omega
  subst hge
  refine (c_wear P hP.wf p C hP.at' i).mono ?_
  rintro y P1 ⟨rfl, hk1⟩
  have hP1 := hP.keep hk1
  have hg1 := hk1.get hP.wf hgP (by simp)
  rw [(hx.used hB).2]
  simp only [i64, zI_int]
  refine (c_used P1 hP1.wf p C hP1.at' i).mono ?_
  rintro y P2 ⟨rfl, hk2⟩
  have hP2 := hP1.keep hk2
  have hg2 := hk2.get hP1.wf hg1 (by simp)
  rw [(hx.used hB).1]
  simp only [i64, zI_int]
  refine (c_erase P2 hP2.wf p C hP2.at' i).mono ?_
  rintro y P3 ⟨rfl, s3⟩
  obtain ⟨t1, hx3, hB3⟩ := hx.erFail hB (Nat.le_refl _) hp0
  have hP3 := hP2.step s3
  have hg3 := hP2.get s3 (.inl hn49) hg2
  rw [t1]
  generalize (erR C (i : Int)).1 = C3 at *
  obtain ⟨_, c1, _⟩ := geo_ld hg3
  simp only [eLd_some c1, bindO_some, i64, zI_int]
  have epg : iSub .i64 g.pg 1 = ((g.pg.toNat - 1 : Nat) : Int) := by rw [iSub, wrap_i64' (by omega) (by omega)]; omega
  have hmin : eMin tb #[3, 3] 3 [.int .i64 (k : Int), .int .i64 (iSub .i64 g.pg 1)] P3 = some (.val (.int .i64 ((min k (g.pg.toNat - 1) : Nat) : Int)), P3) := by
    rw [epg]
    have : eMin tb #[3, 3] 3 [.int .i64 (k : Int), .int .i64 ((g.pg.toNat - 1 : Nat) : Int)] P3 = some (.val (.int .i64 (if ((g.pg.toNat - 1 : Nat) : Int) < (k : Int) then ((g.pg.toNat - 1 : Nat) : Int) else (k : Int))), P3) := rfl
    rw [this]
    congr 4
    split <;> omega
  refine bindO_i hmin ?_
  simp only [zI_int]
  refine (h_bytes hP3 v rfl (by omega)).mono ?_
  rintro x4 P4 ⟨hx4, hk4, hf4, hP4⟩
  have hg4 := hk4.get hP3.wf hg3 (by simp)
  obtain ⟨_, d1, _⟩ := geo_ld hg4
  refine ⟨bindO_i (eLd_some d1) rfl, ?_⟩
  have hnx3 := hP3.nxt
  refine (h_program hP4 i (min k (g.pg.toNat - 1) : Nat) x4 _ hx4 (by simp; omega) (fun c hc => .inr (Nat.le_trans hnx3 (hf4 c hc)))).mono ?_
  rintro y P5 ⟨rfl, s5, hP5⟩
  obtain ⟨u1, hx5, hB5⟩ := hx3.progFail hB3 (Nat.le_refl _) (k := ((min k (g.pg.toNat - 1) : Nat) : Int)) (isG_nat hi (by omega)) hd
  have hg5 := hP4.get s5 (.inl hn49) hg4
  rw [u1]
  simp only [i64, zI_int]
  generalize (pgR C3 (i : Int) ((min k (g.pg.toNat - 1) : Nat) : Int) (pat v R)).1 = C5 at *
  refine (x_read hP5 i (0 : Nat)).mono ?_
  rintro y P6 ⟨w, rfl, hwd, hfw, s6, hP6⟩
  obtain ⟨r1, r2, hx6, hB6⟩ := hx5.rd hB5 (j := 0) hp0
  rw [r1]
  refine ⟨w, 0, rfl, ?_⟩
  rw [r2, hR] at hwd
  have hg6 := hP5.get s6 (.inl hn49) hg5
  generalize rdC C5 (i : Int) ((0 : Nat) : Int) = C6 at *
  refine letP_i fun K hK => ?_
  refine (c_failed P6 hP6.wf p C6 hP6.at' i).mono ?_
  rintro y P7 ⟨rfl, hk7⟩
  have hP7 := hP6.keep hk7
  have hg7 := hk7.get hP6.wf hg6 (by simp)
  rw [hx6.failed hB6, decide_eq_true (Nat.le_refl _)]
  simp only [zB_bool, condB_true]
  refine (c_badOf P7 hP7.wf p C6 hP7.at' i).mono ?_
  rintro y P8 ⟨rfl, hk8⟩
  have hP8 := hP7.keep hk8
  have hg8 := hk8.get hP7.wf hg7 (by simp)
  rw [hx6.bad]
  simp only [zB_bool]
  refine condB_i (fun _ => ?_) (fun h => by simp at h)
  refine condB_i (fun _ => ?_) (fun h => by simp at h)
  refine condB_i (fun _ => ?_) (fun h => by simp at h)
  refine condB_i (fun _ => ?_) (fun h => by simp at h)
  have hwd8 : BytesAt P8 w ((l.drop (0 * R)).take R) := SlAt.keep0 (SlAt.keep0 hwd.at hP6.wf hk7) hP7.wf hk8
  have hmod : (i + 1) % g.bl.toNat ≠ i ∧ (i + 1) % g.bl.toNat < g.bl.toNat := by
    refine ⟨?_, Nat.mod_lt _ (by omega)⟩
    by_cases h : i + 1 = g.bl.toNat
    · rw [h, Nat.mod_self]; omega
    · rw [Nat.mod_eq_of_lt (by omega)]; omega
  -- the end, alike on both roads
  have hend : ∀ (N : Mem), Here N p M49.next M51.next C6 → N.get M.next = some (.cells (geoC g) true) →
      ∀ K2 : Bool → Mem → Prop, (∀ N, K2 true N) → CallA tb.P 25 [.ptr p 0, .val (.int .i64 (i : Int))] N fun y N1 => zI .i64 y fun z => condB (z == wr) (CallA tb.P 23 [.ptr p 0, .val (.int .i64 (i : Int))] N1 fun y N2 => zI .i64 y fun z => condB (z == (k : Int)) (bindO (eLd tb 3 (.ptr M.next 0) N2) fun y => zI .i64 y.1 fun z116 => bindO (eBin tb .rem 3 (.tmp 151) (.tmp 153) (.val (.int .i64 (iAdd .i64 (i : Int) 1))) (.val (.int .i64 z116)) N2) fun y => zI .i64 y.1 fun z118 => CallA tb.P 24 [.ptr p 0, .val (.int .i64 z118)] N2 fun y N3 => zI .i64 y fun z => condB (z == (0 : Int)) (CallA tb.P 17 [] N3 fun y N4 => zB y fun b => K2 b N4) (K2 false N3)) (K2 false N2)) (K2 false N1) := by
    intro N hN hgN K2 hK2
    refine (c_wear N hN.wf p C6 hN.at' i).mono ?_
    rintro y N1 ⟨rfl, hj1⟩
    have hN1 := hN.keep hj1
    have hgN1 := hj1.get hN.wf hgN (by simp)
    rw [(hx6.used hB6).2]
    simp only [i64, zI_int]
    refine condB_i (fun _ => ?_) (fun h => by simp at h)
    refine (c_used N1 hN1.wf p C6 hN1.at' i).mono ?_
    rintro y N2 ⟨rfl, hj2⟩
    have hN2 := hN1.keep hj2
    have hgN2 := hj2.get hN1.wf hgN1 (by simp)
    rw [(hx6.used hB6).1]
    simp only [i64, zI_int]
    refine condB_i (fun _ => ?_) (fun h => by simp at h)
    obtain ⟨z0, _⟩ := geo_ld hgN2
    refine bindO_i (eLd_some z0) ?_
    have ei : iAdd .i64 (i : Int) 1 = ((i + 1 : Nat) : Int) := iInc (by omega)
    simp only [i64, zI_int]
    rw [ei, e1]
    refine bindO_i (rem_i64 (by omega) (by omega) _ _ _) ?_
    simp only [zI_int]
    refine (c_erase N2 hN2.wf p C6 hN2.at' ((i + 1) % g.bl.toNat : Nat)).mono ?_
    rintro y N3 ⟨rfl, _⟩
    rw [hx6.erOther hmod.1 (by rw [hlenOf _ _ hN2 hx6.g]; exact hmod.2) (isG_nat (j := 0) hmod.2 (by omega))]
    simp only [i64, zI_int]
    refine condB_i (fun _ => ?_) (fun h => by simp at h)
    refine (chip_awake N3).mono ?_
    rintro y N ⟨rfl, _⟩
    simp only [zB_bool]
    exact hK2 _
  refine condB_i (fun hz => ?_) (fun hz => ?_)
  · exact hend P8 hP8 hg8 K (fun N => by rw [hK])
  · have hk0 : 0 < k := by have : ¬ (k : Int) = 0 := by simpa using hz
                           omega
    rw [hpg hk0] at hwd8
    refine (h_bytes hP8 v rfl (by omega)).mono ?_
    rintro x9 P9 ⟨hx9, hk9, _, hP9⟩
    have hg9' := hk9.get hP8.wf hg8 (by simp)
    refine (same_bytes P9 w x9 _ _ (SlAt.keep0 hwd8 hP8.wf hk9) hx9 (by simp; omega)).mono ?_
    rintro y P10 ⟨rfl, rfl⟩
    simp only [zB_bool]
    refine condB_i (fun _ => ?_) (fun h => by simp at h)
    exact hend P10 hP9 hg9' K (fun N => by rw [hK])

end Go.Proofs.Ytjffimbigamadaa
