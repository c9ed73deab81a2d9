import Derived.Test.YtjffimbigamadaaG14
set_option linter.unusedSimpArgs false
set_option linter.unusedVariables false
/- ChipOnce. -/
namespace Go.Proofs.Ytjffimbigamadaa
open Go.AM

theorem chip_once (M : Mem) (hw : M.WF) (g : Geo) (block many : Int) (v : BitVec 8) :
    CallA tb.P 3 [geoA g, i64 block, i64 many, .val (.int .u8 (v.toNat : Int))] M fun y _ => y = .val (.bool true) := by
  refine F3_ok ?_
  unfold F3
  refine ⟨_, _, _, _, _, rfl, ?_⟩
  simp only [i64, zI_int]
  refine letP_i fun M9 hM9 => ?_
  have hM9' : M9 = M.new (.cells (geoC g) true) := hM9
  have hK9 : Keep M M9 [] := by rw [hM9']; exact Keep.new hw _
  have hg9 : M9.get M.next = some (.cells (geoC g) true) := by rw [hM9']; exact get_new _ _
  clear hM9 hM9'
  have hFn : M.next < M9.next := hK9.wf _ _ hg9
  obtain ⟨_, _, _, _, _, l5⟩ := geo_ld hg9
  refine bindO_i (eLd_some l5) ?_
  refine ⟨_, _, _, _, _, rfl, ?_⟩
  refine (c_new M9 hK9.wf g _ [] (SlAt.nil) (by simp)).mono ?_
  rintro y16 M17 ⟨hk17, hnew⟩
  rw [mayP_nil] at hnew
  refine letP_i fun K31 hK31 => ?_
  have aw : ∀ N : Mem, K31 true N := fun N => by
    rw [hK31]
    simp only [condB_true]
    refine (chip_awake N).mono ?_
    rintro y N' ⟨rfl, _⟩
    simp only [zB_bool]
  rcases hnew with ⟨hno, rfl⟩ | ⟨hmay, p, fsA, bb, bs, rfl, hchip, hblank, hfoot, _⟩
  · rw [nil_nil24, bindO_some]
    simp only [zB_bool, condB_true]
    exact aw _
  refine bindO_i nil_eq ?_
  simp only [zB_bool, condB_false]
  have hg17 := hk17.get hK9.wf hg9 (by simp)
  obtain ⟨_, _, _, _, _, m5⟩ := geo_ld hg17
  refine bindO_i (eLd_some m5) ?_
  refine ⟨_, _, _, _, _, rfl, ?_⟩
  refine (c_may16 M17 hk17.wf g).mono ?_
  rintro y M27 ⟨rfl, hk27⟩
  simp only [zB_bool, hmay, hK31]
  refine condB_i (fun h => by simp at h) (fun _ => ?_)
  clear aw hK31 K31
  have hg27 := hk27.get hk17.wf hg17 (by simp)
  have hH : Here M27 p M9.next M17.next (newChip g fsA [] bb bs) := Here.keep (M := M17) ⟨hchip, hk17.wf, fun c hc => ⟨hfoot c hc, hchip.lt hk17.wf c hc⟩, Nat.le_refl _⟩ hk27
  obtain ⟨e1, e2, hbl1, hbl2, hpg1, hpg2, hr1, hr2, e16⟩ := geo_nums hmay
  have hbsl : bs.length = g.bl.toNat := hchip.len
  obtain ⟨n0, n1, n2, _⟩ := geo_ld hg27
  simp only [eLd_some n0, eLd_some n1, bindO_some, i64, zI_int]
  have lowB : CallA tb.P 18 [.val (.int .i64 block), .val (.int .i64 g.bl)] M27 fun y N => y = .val (.int .i64 (lowOf block g.bl.toNat : Int)) ∧ N = M27 := by
    rw [e1]
    exact low M27 block g.bl.toNat (by omega) (by omega)
  refine lowB.mono ?_
  rintro y M40 ⟨rfl, rfl⟩
  simp only [zI_int]
  refine ⟨bindO_i (eLd_some n1) rfl, ?_⟩
  have epg : iAdd .i64 g.pg 1 = ((g.pg.toNat + 1 : Nat) : Int) := by
    rw [iAdd, wrap_i64' (by omega) (by omega)]; omega
  rw [epg]
  refine (low M40 many (g.pg.toNat + 1) (by omega) (by omega)).mono ?_
  rintro y M44 ⟨rfl, rfl⟩
  simp only [zI_int]
  have hi := lowOf_lt block (show 0 < g.bl.toNat by omega)
  have hm := lowOf_lt many (show 0 < g.pg.toNat + 1 by omega)
  generalize lowOf block g.bl.toNat = i at hi ⊢
  generalize lowOf many (g.pg.toNat + 1) = m at hm ⊢
  have hok := new_ok (fsA := fsA) (bb := bb) hblank (i := i) (by omega)
  refine bindO_i (eLd_some n2) ?_
  simp only [i64, zI_int]
  rw [e16]
  generalize hR : rawN g = R at *
  have hpat : ∀ k : Nat, (pat (v + BitVec.ofNat 8 k) R).length = R := fun k => pat_length _ _
  -- the programs
  refine ⟨fun z n P => ∃ (k : Nat) (C : Chip), z = k ∧ n = m - k ∧ k ≤ m ∧ Here P p M9.next M17.next C ∧ Ok C g i (pagesL g (fun q => v + BitVec.ofNat 8 q) k) k 0 ∧ P.get M.next = some (.cells (geoC g) true), ⟨m, 0, _, rfl, rfl, Nat.zero_le _, hH, by unfold pagesL; rw [hR]; exact hok, hg27⟩, ?_⟩
  rintro _ z n P ⟨k, C, rfl, rfl, hk, hP, okP, hgP⟩
  refine condB_i (fun hlt => ?_) (fun hge => ?_)
  · have hlt : k < m := by simpa using hlt
    refine box_place (i : Int) (k : Int) fun P1 hP1 => ?_
    have hk1 : Keep P P1 [] := by rw [hP1]; exact Keep.new hP.wf _
    have hbx1 : P1.get P.next = some (.cells [i64 (i : Int), i64 (k : Int)] true) := by rw [hP1]; exact get_new _ _
    clear hP1
    have hP1 := hP.keep hk1
    have hg1 := hk1.get hP.wf hgP (by simp)
    have hGP : M17.next ≤ P.next := hP.nxt
    refine letP_i fun K80 hK80 => ?_
    simp only
    refine (h_bytes hP1 v rfl (by omega)).mono ?_
    rintro x2 P2 ⟨hx2, hk2, hf2, hP2⟩
    have hbx2 := hk2.get hP1.wf hbx1 (by simp)
    have hg2 := hk2.get hP1.wf hg1 (by simp)
    have ek : iAdd .i64 (k : Int) 1 = ((k + 1 : Nat) : Int) := iInc (by omega)
    rw [ek]
    have hn1 := hP1.nxt
    refine (h_progNo hP2 okP (k := ((k + 1 : Nat) : Int)) (by omega) hx2 (by simp; omega) (fun c hc => .inr (Nat.le_trans hn1 (hf2 c hc)))).mono ?_
    rintro y P3 ⟨⟨z3, rfl, hz3⟩, C3, s3, hP3, ok3⟩
    simp only [i64, zI_int]
    refine condB_i (fun h => absurd (by simpa using h) hz3) (fun _ => ?_)
    have hbx3 := hP2.get s3 (.inr hGP) hbx2
    have hg3 := hP2.get s3 (.inl hFn) hg2
    obtain ⟨_, _, q3⟩ := place_ld hbx3
    refine bindO_i (eLd_some q3) ?_
    refine ⟨_, _, rfl, ?_⟩
    rw [add_u8]
    refine (h_bytes hP3 (v + BitVec.ofNat 8 k) rfl (by omega)).mono ?_
    rintro x4 P4 ⟨hx4, hk4, hf4, hP4⟩
    have hbx4 := hk4.get hP3.wf hbx3 (by simp)
    have hg4 := hk4.get hP3.wf hg3 (by simp)
    obtain ⟨_, _, q4⟩ := place_ld hbx4
    refine ⟨bindO_i (eLd_some q4) rfl, ?_⟩
    have hn3 := hP3.nxt
    refine (h_prog hP4 ok3 (j := k) rfl (isG_nat hi (by omega)) hx4 (by rw [hR]; exact pat_length _ _) (by omega) (fun c hc => .inr (Nat.le_trans hn3 (hf4 c hc)))).mono ?_
    rintro y P5 ⟨rfl, C5, s5, hP5, ok5⟩
    simp only [i64, zI_int]
    refine condB_i (fun h => by simp at h) (fun _ => ?_)
    have hbx5 := hP4.get s5 (.inr hGP) hbx4
    have hg5 := hP4.get s5 (.inl hFn) hg4
    obtain ⟨_, _, q5⟩ := place_ld hbx5
    refine bindO_i (eLd_some q5) ?_
    refine ⟨_, _, rfl, ?_⟩
    refine (h_bytes hP5 v rfl (by omega)).mono ?_
    rintro x6 P6 ⟨hx6, hk6, hf6, hP6⟩
    have hbx6 := hk6.get hP5.wf hbx5 (by simp)
    have hg6 := hk6.get hP5.wf hg5 (by simp)
    obtain ⟨_, _, q6⟩ := place_ld hbx6
    refine ⟨bindO_i (eLd_some q6) rfl, ?_⟩
    have hn5 := hP5.nxt
    rw [ek, hR] at ok5
    refine (h_progNo hP6 ok5 (k := (k : Int)) (by omega) hx6 (by simp; omega) (fun c hc => .inr (Nat.le_trans hn5 (hf6 c hc)))).mono ?_
    rintro y P7 ⟨⟨z7, rfl, hz7⟩, C7, s7, hP7, ok7⟩
    simp only [i64, zI_int]
    rw [show (z7 == 0) = false from beq_eq_false_iff_ne.2 hz7, hK80]
    simp only [condB_false]
    refine ⟨m - (k + 1), by omega, k + 1, C7, by rw [ek], rfl, hlt, hP7, ?_, hP6.get s7 (.inl hFn) hg6⟩
    have e : pagesL g (fun q => v + BitVec.ofNat 8 q) (k + 1) = over (pagesL g (fun q => v + BitVec.ofNat 8 q) k) (k * R) (pat (v + BitVec.ofNat 8 k) R) := by
      show over _ (k * rawN g) (pat _ (rawN g)) = _
      rw [hR]
    rw [e]
    exact ok7
  have hge : k = m := by have : ¬ (k : Int) < m := by simpa using hge
                         omega
  subst hge
  clear hk
  have hplen := pagesL_len g (fun q => v + BitVec.ofNat 8 q) k (by omega)
  have hppage := pagesL_page g (fun q => v + BitVec.ofNat 8 q) k (by omega)
  rw [hR] at hplen hppage
  -- the reads
  refine ⟨fun z n P => ∃ (q : Nat) (C : Chip), z = q ∧ n = g.pg.toNat - q ∧ q ≤ g.pg.toNat ∧ Here P p M9.next M17.next C ∧ Ok C g i (pagesL g (fun q => v + BitVec.ofNat 8 q) k) k 0 ∧ P.get M.next = some (.cells (geoC g) true), ⟨g.pg.toNat, 0, C, rfl, rfl, Nat.zero_le _, hP, okP, hgP⟩, ?_⟩
  clear hP okP hgP P C
  rintro _ z n P ⟨q, C, rfl, rfl, hq, hP, okP, hgP⟩
  obtain ⟨_, b1, _⟩ := geo_ld hgP
  simp only [eLd_some b1, bindO_some, i64, zI_int]
  refine condB_i (fun hlt => ?_) (fun hge => ?_)
  · have hlt : q < g.pg.toNat := by have : (q : Int) < g.pg := by simpa using hlt
                                    omega
    refine (h_read hP okP (isG_nat hi hlt)).mono ?_
    rintro y P1 ⟨u, rfl, hu, hfu, C1, s1, hP1, ok1⟩
    refine ⟨u, 0, rfl, ?_⟩
    have hg1 := hP.get s1 (.inl hFn) hgP
    rw [hR, hppage q hlt] at hu
    have hul : (if q < k then pat (v + BitVec.ofNat 8 q) R else List.replicate R 255#8).length = R := by split <;> simp
    refine letP_i fun K hK => ?_
    have good : ∀ N : Mem, ∀ C2 : Chip, Here N p M9.next M17.next C2 → Ok C2 g i (pagesL g (fun q => v + BitVec.ofNat 8 q) k) k 0 → N.get M.next = some (.cells (geoC g) true) → K false N := by
      intro N C2 hN okN hgN
      rw [hK]
      simp only [condB_false]
      exact ⟨g.pg.toNat - (q + 1), by omega, q + 1, C2, iInc (by omega), rfl, hlt, hN, okN, hgN⟩
    refine condB_i (fun h => by simp at h) (fun _ => ?_)
    refine bindO_i (eLen_some hu.len) ?_
    simp only [zI_int]
    rw [hul, bne_self_eq_false]
    simp only [condB_false]
    refine condB_i (fun hqk => ?_) (fun hqk => ?_)
    · have hqk : q < k := by simpa using hqk
      rw [if_pos hqk] at hu
      rw [add_u8]
      refine (h_bytes hP1 (v + BitVec.ofNat 8 q) rfl (by omega)).mono ?_
      rintro x2 P2 ⟨hx2, hk2, _, hP2⟩
      have hu2 : BytesAt P2 u (pat (v + BitVec.ofNat 8 q) R) := SlAt.keep0 hu hP1.wf hk2
      refine (same_bytes P2 u x2 _ _ hu2 hx2 (by simp; omega)).mono ?_
      rintro y N ⟨rfl, rfl⟩
      simp only [zB_bool]
      refine condB_i (fun h => by simp at h) (fun _ => ?_)
      refine condB_i (fun h => ?_) (fun _ => good _ _ hP2 ok1 (hk2.get hP1.wf hg1 (by simp)))
      have : (k : Int) ≤ q := by simpa using h
      omega
    · have hqk : ¬ q < k := by simpa using hqk
      rw [if_neg hqk] at hu
      refine condB_i (fun _ => ?_) (fun h => ?_)
      rotate_left
      · have : ¬ (k : Int) ≤ q := by simpa using h
        omega
      obtain ⟨b, o, h1, h2⟩ := hu.at (i := 0) (by simp; omega)
      have h1' : eIA tb 33 u (.val (.int .i64 0)) P1 = some (.ptr b o, P1) := eIA_some h1
      refine bindO_i h1' ?_
      simp only [zP_ptr]
      refine bindO_i (eLd_some h2) ?_
      simp only [zI_int, List.getElem_replicate]
      refine condB_i (fun h => by simp at h) (fun _ => ?_)
      have e : iSub .i64 (R : Int) 1 = ((R - 1 : Nat) : Int) := by rw [iSub, wrap_i64' (by omega) (by omega)]; omega
      rw [e]
      obtain ⟨b', o', h3, h4⟩ := hu.at (i := R - 1) (by simp; omega)
      refine bindO_i (eIA_some h3) ?_
      simp only [zP_ptr]
      refine bindO_i (eLd_some h4) ?_
      simp only [zI_int, List.getElem_replicate]
      exact good _ _ hP1 ok1 hg1
  -- behind the reads
  clear hge hq
  refine (h_used hP okP).mono ?_
  rintro y P1 ⟨rfl, hk1, hP1⟩
  simp only [i64, zI_int]
  have hp0 : isG g i 0 = true := isG_nat (j := 0) hi (by omega)
  refine (h_erase hP1 okP hp0).mono ?_
  rintro y P2 ⟨rfl, C2, s2, hP2, ok2⟩
  simp only [i64, zI_int]
  rw [hplen] at ok2
  refine (h_read hP2 ok2 (j := 0) hp0).mono ?_
  rintro y P3 ⟨u, rfl, hu, hfu, C3, s3, hP3, ok3⟩
  refine ⟨u, 0, rfl, ?_⟩
  rw [hR, rep_page (by omega)] at hu
  refine letP_i fun K hK => ?_
  refine condB_i (fun _ => ?_) (fun h => by simp at h)
  refine condB_i (fun _ => ?_) (fun h => by simp at h)
  refine condB_i (fun _ => ?_) (fun h => by simp at h)
  refine bindO_i (eLen_some hu.len) ?_
  simp only [zI_int, List.length_replicate]
  refine condB_i (fun _ => ?_) (fun h => by simp at h)
  obtain ⟨b, o, h1, h2⟩ := hu.at (i := 0) (by simp; omega)
  have h1' : eIA tb 33 u (.val (.int .i64 0)) P3 = some (.ptr b o, P3) := eIA_some h1
  refine bindO_i h1' ?_
  simp only [zP_ptr]
  refine bindO_i (eLd_some h2) ?_
  simp only [zI_int, List.getElem_replicate]
  refine condB_i (fun _ => ?_) (fun h => by simp at h)
  refine (h_used hP3 ok3).mono ?_
  rintro y P4 ⟨rfl, hk4, hP4⟩
  simp only [i64, zI_int]
  refine condB_i (fun _ => ?_) (fun h => by simp at h)
  refine (h_wear hP4 ok3).mono ?_
  rintro y P5 ⟨rfl, hk5, hP5⟩
  simp only [i64, zI_int]
  refine condB_i (fun _ => ?_) (fun h => by simp [iAdd] at h; exact absurd h (by decide))
  refine (h_bytes hP5 v rfl (by omega)).mono ?_
  rintro x6 P6 ⟨hx6, hk6, hf6, hP6⟩
  have hn5 := hP5.nxt
  refine (h_prog hP6 ok3 (j := 0) rfl hp0 hx6 (by rw [hR]; exact pat_length _ _) (by omega) (fun c hc => .inr (Nat.le_trans hn5 (hf6 c hc)))).mono ?_
  rintro y P7 ⟨rfl, C7, s7, hP7, ok7⟩
  simp only [i64, zI_int]
  refine condB_i (fun _ => ?_) (fun h => by simp at h)
  refine (chip_awake P7).mono ?_
  rintro y N ⟨rfl, _⟩
  simp only [zB_bool]
  rw [hK]

end Go.Proofs.Ytjffimbigamadaa
