import Derived.Test.YtjffimbigamadaaB3
import Derived.Test.YtjffimbigamadaaG17
set_option linter.unusedSimpArgs false
set_option linter.unusedVariables false
/- ChipCuts. -/
namespace Go.Proofs.Ytjffimbigamadaa
open Go.AM

theorem x_read {M : Mem} {p F G : Nat} {C : Chip} (h : Here M p F G C) (i k : Int) :
    CallA tb.P 21 [.ptr p 0, placeA i k] M fun y N => ∃ u, y = .tup [u, i64 (rdE C i k)] ∧ Gr N u (rdB C i k) ∧ (∀ c, inBlk u c → M.next ≤ c) ∧ Step M N p C (rdC C i k) ∧ Here N p F G (rdC C i k) := by
  refine (c_read M h.wf p C h.at' i k).mono ?_
  rintro y N ⟨u, rfl, hu, hfr, s⟩
  exact ⟨u, rfl, hu, hfr, s, h.step s⟩

theorem pat_get {v : BitVec 8} {n k : Nat} (h : k < (pat v n).length) : (pat v n)[k] = v + BitVec.ofNat 8 (k * 7) := by
  simp [pat]

theorem chip_cuts (M : Mem) (hw : M.WF) (g : Geo) (at' : Int) (op by' : Int) (f : BitVec 8) (er : Bool) :
    CallA tb.P 4 [geoA g, i64 at', cutA op by' f, .val (.bool er)] M fun y _ => y = .val (.bool true) := by
  refine F4_ok ?_
  unfold F4
  refine ⟨_, _, _, _, _, rfl, ?_⟩
  rw [show i64 at' = .val (.int .i64 at') from rfl, zI_int]
  refine ⟨op, by', (f.toNat : Int), rfl, ?_⟩
  rw [zB_bool]
  refine letP_i fun M11 hM11 => ?_
  have hM11' : M11 = M.new (.cells (geoC g) true) := hM11
  have hK11 : Keep M M11 [] := by rw [hM11']; exact Keep.new hw _
  have hg11 : M11.get M.next = some (.cells (geoC g) true) := by rw [hM11']; exact get_new _ _
  clear hM11 hM11'
  have hFn : M.next < M11.next := hK11.wf _ _ hg11
  refine letP_i fun M12 hM12 => ?_
  have hM12' : M12 = M11.new (.cells [i64 op, i64 by', bv8 f] true) := hM12
  have hK12 : Keep M11 M12 [] := by rw [hM12']; exact Keep.new hK11.wf _
  have hc12 : M12.get M11.next = some (.cells [i64 op, i64 by', bv8 f] true) := by rw [hM12']; exact get_new _ _
  clear hM12 hM12'
  have hg12 := hK12.get hK11.wf hg11 (by simp)
  have hFc : M11.next < M12.next := hK12.wf _ _ hc12
  obtain ⟨_, _, _, _, _, l5⟩ := geo_ld hg12
  refine bindO_i (eLd_some l5) ?_
  refine ⟨_, _, _, _, _, rfl, ?_⟩
  refine (c_new M12 hK12.wf g _ [] (SlAt.nil) (by simp)).mono ?_
  rintro y19 M20 ⟨hk20, hnew⟩
  rw [mayP_nil] at hnew
  refine letP_i fun K34 hK34 => ?_
  have aw : ∀ N : Mem, K34 true N := fun N => by
    rw [hK34]
    simp only [condB_true]
    refine (chip_awake N).mono ?_
    rintro y N' ⟨rfl, _⟩
    simp only [zB_bool]
  rcases hnew with ⟨hno, rfl⟩ | ⟨hmay, p, fsA, bb, bs, rfl, hchip, hblank, hfoot, hfsA⟩
  · rw [nil_nil24, bindO_some]
    simp only [zB_bool, condB_true]
    exact aw _
  refine bindO_i nil_eq ?_
  simp only [zB_bool, condB_false]
  have hg20 := hk20.get hK12.wf hg12 (by simp)
  have hc20 := hk20.get hK12.wf hc12 (by simp)
  obtain ⟨_, _, _, _, _, m5⟩ := geo_ld hg20
  refine bindO_i (eLd_some m5) ?_
  refine ⟨_, _, _, _, _, rfl, ?_⟩
  refine (c_may16 M20 hk20.wf g).mono ?_
  rintro y M30 ⟨rfl, hk30⟩
  simp only [zB_bool, hmay, hK34]
  refine condB_i (fun h => by simp at h) (fun _ => ?_)
  clear aw hK34 K34
  have hg30 := hk30.get hk20.wf hg20 (by simp)
  have hc30 := hk30.get hk20.wf hc20 (by simp)
  have hH : Here M30 p M12.next M20.next (newChip g fsA [] bb bs) := Here.keep (M := M20) ⟨hchip, hk20.wf, fun c hc => ⟨hfoot c hc, hchip.lt hk20.wf c hc⟩, Nat.le_refl _⟩ hk30
  obtain ⟨e1, e2, hbl1, hbl2, hpg1, hpg2, hr1, hr2, e16⟩ := geo_nums hmay
  have hbsl : bs.length = g.bl.toNat := hchip.len
  obtain ⟨n0, n1, n2, _⟩ := geo_ld hg30
  simp only [eLd_some n2, eLd_some n1, bindO_some, i64, zI_int]
  have epg : iSub .i64 g.pg 1 = ((g.pg.toNat - 1 : Nat) : Int) := by
    rw [iSub, wrap_i64' (by omega) (by omega)]; omega
  rw [epg]
  refine (low M30 at' (g.pg.toNat - 1) (by omega) (by omega)).mono ?_
  rintro y M43 ⟨rfl, rfl⟩
  simp only [zI_int]
  have ha0 := lowOf_lt at' (show 0 < g.pg.toNat - 1 by omega)
  generalize lowOf at' (g.pg.toNat - 1) = a0 at ha0 ⊢
  have k1 : eLd tb 3 (.ptr M11.next 1) M43 = some (i64 by', M43) := eLd_some (ld_cell ty3 rfl hc30 rfl)
  simp only [k1, bindO_some, i64, zI_int]
  refine (low M43 by' 100 (by omega) (by omega)).mono ?_
  rintro y M48 ⟨rfl, rfl⟩
  simp only [zI_int]
  have hb := lowOf_lt by' (show 0 < 100 by omega)
  generalize lowOf by' 100 = b at hb ⊢
  have eat : iAdd .i64 1 (a0 : Int) = ((a0 + 1 : Nat) : Int) := by rw [iAdd, wrap_i64' (by omega) (by omega)]; omega
  rw [eat]
  obtain ⟨a, ha⟩ : ∃ a, a = a0 + 1 := ⟨_, rfl⟩
  rw [← ha]
  have ha1 : 1 ≤ a := by omega
  have ha2 : a < g.pg.toNat := by omega
  clear eat
  -- the cut's box
  have st1 : eSt tb 3 (.ptr M11.next 0) (.val (.int .i64 (a : Int))) M48 = some (undefA, M48.put M11.next (.cells [i64 (a : Int), i64 by', bv8 f] true)) := eSt_some (st_cell ty3 rfl rfl hc30 (by simp))
  refine bindO_i st1 ?_
  have st2 : eSt tb 3 (.ptr M11.next 1) (.val (.int .i64 (b : Int))) (M48.put M11.next (.cells [i64 (a : Int), i64 by', bv8 f] true)) = some (undefA, M48.put M11.next (.cells [i64 (a : Int), i64 (b : Int), bv8 f] true)) := by
    have := st_cell (T := tb) (x := i64 (b : Int)) (o := 1) ty3 rfl rfl (show (M48.put M11.next (.cells [i64 (a : Int), i64 by', bv8 f] true)).get M11.next = some (.cells [i64 (a : Int), i64 by', bv8 f] true) by rw [Mem.get_put, if_pos rfl]) (by simp)
    rw [Mem.put_put] at this
    exact eSt_some this
  refine bindO_i st2 ?_
  have hkb : Keep M48 (M48.put M11.next (.cells [i64 (a : Int), i64 (b : Int), bv8 f] true)) [M11.next] := Keep.put hH.wf (hH.wf _ _ hc30) _
  have hcB : (M48.put M11.next (.cells [i64 (a : Int), i64 (b : Int), bv8 f] true)).get M11.next = some (.cells [i64 (a : Int), i64 (b : Int), bv8 f] true) := by rw [Mem.get_put, if_pos rfl]
  have hgB := hkb.get hH.wf hg30 (by simp only [List.mem_singleton]; omega)
  have hHB : Here (M48.put M11.next (.cells [i64 (a : Int), i64 (b : Int), bv8 f] true)) p M12.next M20.next (newChip g fsA [] bb bs) := hH.keepS hkb fun c hc => by
    simp only [List.mem_singleton] at hc
    subst hc
    exact ⟨.inl hFc, fun hin => by have := hfsA _ hin; omega⟩
  generalize M48.put M11.next (.cells [i64 (a : Int), i64 (b : Int), bv8 f] true) = MB at *
  rw [e16]
  have hsx := new_sx g fsA bb bs
  have hb1 := new_blk (fsA := fsA) (bb := bb) hblank (i := 1) (by omega)
  have hb2 := new_blk (fsA := fsA) (bb := bb) hblank (i := 2) (by omega)
  generalize newChip g fsA [] bb bs = C0 at *
  generalize hR : rawN g = R at *
  refine letP_i fun K66 hK66 => ?_
  refine (h_bytes hHB 3#8 rfl (by omega)).mono ?_
  rintro x1 P1 ⟨hx1, hkk1, hf1, hP1⟩
  have hg1 := hkk1.get hHB.wf hgB (by simp)
  have hc1 := hkk1.get hHB.wf hcB (by simp)
  have hn1 := hHB.nxt
  have hp10 : isG g (1 : Nat) (0 : Nat) = true := isG_nat (by omega) (by omega)
  have hd1 : (pat 3#8 R).length = rawN g := by rw [hR]; simp
  refine (h_program hP1 (1 : Nat) (0 : Nat) x1 _ hx1 (by simp; omega) (fun c hc => .inr (Nat.le_trans hn1 (hf1 c hc)))).mono ?_
  rintro y P2 ⟨rfl, s2, hP2⟩
  obtain ⟨r1, r2, r3, r4⟩ := hsx.prog (by omega) (.inl rfl) (j := 0) hb1 hp10 hd1
  have hb2' := r4 2 _ _ _ (by omega) hb2
  rw [r1]
  simp only [i64, zI_int]
  refine condB_i (fun h => by simp at h) (fun _ => ?_)
  have hg2 := hP1.get s2 (.inl (by omega)) hg1
  have hc2 := hP1.get s2 (.inl hFc) hc1
  generalize (pgR C0 (1 : Nat) (0 : Nat) (pat 3#8 R)).1 = C1 at *
  have kA : eLd tb 42 (.ptr M11.next 0) P2 = some (cutA a b f, P2) := eLd_some (ld_agg (n := 3) ty42 rfl rfl hc2 (by simp))
  refine bindO_i kA ?_
  refine ⟨_, _, _, rfl, ?_⟩
  refine (c_arm P2 hP2.wf p C1 hP2.at' a b f).mono ?_
  rintro y P3 ⟨rfl, s3⟩
  obtain ⟨q1, q2, q3⟩ := r2.arm' (by omega) (op := a) (by' := b) ha1 (by omega) (by omega) f
  have hP3 := hP2.step s3
  have hg3 := hP2.get s3 (.inl (by omega)) hg2
  have hc3 := hP2.get s3 (.inl hFc) hc2
  rw [q1]
  simp only [i64, zI_int]
  rw [bne_self_eq_false, hK66]
  simp only [condB_false]
  have r3' := blk_bs q3 r3
  have hb2'' := blk_bs q3 hb2'
  generalize (armR C1 (a : Int) (b : Int) f).1 = C2 at *
  rw [hR] at r3'
  have h1page : ((over (List.replicate (g.pg.toNat * R) 255#8) (0 * R) (pat 3#8 R)).drop (0 * R)).take R = pat 3#8 R := by
    rw [over_page (n := g.pg.toNat) (by simp) (by simp) (by omega) (by omega), if_pos rfl]
  generalize over (List.replicate (g.pg.toNat * R) 255#8) (0 * R) (pat 3#8 R) = L1 at *
  -- the programs ahead
  refine ⟨fun z n P => ∃ (k : Nat) (C : Chip) (l : List (BitVec 8)) (wr1 : Int), z = ((k + 1 : Nat) : Int) ∧ n = a - k ∧ k + 1 ≤ a ∧ Here P p M12.next M20.next C ∧ Sx C g (k + 1) (a + 1) b f 0 ∧ BlkIs C 1 L1 (iAdd .i64 ((0 : Nat) : Int) 1) 0 ∧ BlkIs C 2 l k 0 ∧ l.length = g.pg.toNat * R ∧ (∀ q, k ≤ q → q < g.pg.toNat → (l.drop (q * R)).take R = List.replicate R 255#8) ∧ P.get M.next = some (.cells (geoC g) true) ∧ P.get M11.next = some (.cells [i64 (a : Int), i64 (b : Int), bv8 f] true),
    ⟨a, 0, C2, _, 0, rfl, rfl, ha1, hP3, by rw [Nat.add_comm a 1]; exact q2, r3', hb2'', by simp, fun q _ hq => rep_page hq, hg3, hc3⟩, ?_⟩
  rintro _ z n P ⟨k, C, l, _, rfl, rfl, hk, hP, hsP, hB1, hB2, hlen, hrest, hgP, hcP⟩
  refine condB_i (fun hlt => ?_) (fun hge => ?_)
  · have hlt : k + 1 < a := by have : ((k : Int) + 1) < a := by simpa using hlt
                               omega
    refine (h_bytes hP 5#8 rfl (by omega)).mono ?_
    rintro x2 P4 ⟨hx4, hk4, hf4, hP4⟩
    have hg4 := hk4.get hP.wf hgP (by simp)
    have hc4 := hk4.get hP.wf hcP (by simp)
    have hn4 := hP.nxt
    have ek : iSub .i64 ((k + 1 : Nat) : Int) 1 = ((k : Nat) : Int) := by rw [iSub, wrap_i64' (by omega) (by omega)]; omega
    rw [ek]
    have hp2k : isG g (2 : Nat) k = true := isG_nat (by omega) (by omega)
    have hd2 : (pat 5#8 R).length = rawN g := by rw [hR]; simp
    refine (h_program hP4 (2 : Nat) k x2 _ hx4 (by simp; omega) (fun c hc => .inr (Nat.le_trans hn4 (hf4 c hc)))).mono ?_
    rintro y P5 ⟨rfl, s5, hP5⟩
    obtain ⟨t1, t2, t3, t4⟩ := hsP.prog (by omega) (.inr (by omega)) hB2 hp2k hd2
    rw [t1]
    simp only [i64, zI_int]
    refine condB_i (fun h => by simp at h) (fun _ => ?_)
    have ek2 : iAdd .i64 (k : Int) 1 = ((k + 1 : Nat) : Int) := iInc (by omega)
    rw [ek2, hR] at t3
    refine ⟨a - (k + 1), by omega, k + 1, _, _, 0, iInc (by omega), rfl, by omega, hP5, t2, t4 1 _ _ _ (by omega) hB1, t3, over_len hlen (by simp) (by omega), fun q h1 h2 => ?_, hP4.get s5 (.inl (by omega)) hg4, hP4.get s5 (.inl hFc) hc4⟩
    rw [over_page hlen (by simp) (by omega) h2, if_neg (by omega)]
    exact hrest q (by omega) h2
  have hge : k + 1 = a := by have : ¬ ((k + 1 : Nat) : Int) < a := by simpa using hge
                             omega
  have hp2k : isG g (2 : Nat) k = true := isG_nat (by omega) (by omega)
  have hkpage := hrest k (Nat.le_refl _) (by omega)
  have ek : iSub .i64 (a : Int) 1 = ((k : Nat) : Int) := by rw [iSub, wrap_i64' (by omega) (by omega)]; omega
  rw [ek]
  -- what is behind the cut
  refine letP_i fun K88 hK88 => ?_
  have rest : ∀ (N : Mem) (C3 : Chip) (l3 : List (BitVec 8)) (nx3 wr3 : Int), Here N p M12.next M20.next C3 → Sf C3 g (a + 1) b f 1 → BlkIs C3 1 L1 (iAdd .i64 ((0 : Nat) : Int) 1) 0 → BlkIs C3 2 l3 nx3 wr3 →
      (l3.drop (k * R)).take R = (if er = true then List.replicate R f else (pat 5#8 R).take (min b R) ++ List.replicate (R - min b R) 255#8) → N.get M.next = some (.cells (geoC g) true) → N.get M11.next = some (.cells [i64 (a : Int), i64 (b : Int), bv8 f] true) → K88 9 N := by
    intro N C3 l3 nx3 wr3 hN hsN hN1 hN2 hpg hgN hcN
    rw [hK88]
    clear hK88
    refine (x_read hN (1 : Nat) (0 : Nat)).mono ?_
    rintro y N1 ⟨u1, rfl, _, _, s1, hN1h⟩
    obtain ⟨f1, f2, f3⟩ := hsN.rd (1 : Nat) (0 : Nat)
    rw [f1]
    rw [f3] at hN1h s1
    refine ⟨u1, 9, rfl, ?_⟩
    have hgN1 := hN.get s1 (.inl (by omega)) hgN
    have hcN1 := hN.get s1 (.inl hFc) hcN
    refine (c_erase N1 hN1h.wf p C3 hN1h.at' (1 : Nat)).mono ?_
    rintro y N2 ⟨rfl, s2⟩
    rw [hsN.er] at s2 ⊢
    have hN2h := hN1h.step s2
    have hgN2 := hN1h.get s2 (.inl (by omega)) hgN1
    have hcN2 := hN1h.get s2 (.inl hFc) hcN1
    simp only [i64, zI_int]
    refine letP_i fun K123 hK123 => ?_
    refine condB_i (fun h => by simp at h) (fun _ => ?_)
    refine condB_i (fun h => by simp at h) (fun _ => ?_)
    refine condB_i (fun h => by simp at h) (fun _ => ?_)
    refine (c_on N2 hN2h.wf p C3 hN2h.at').mono ?_
    rintro y N3 ⟨rfl, rfl⟩
    simp only [zB_bool, hsN.off]
    refine condB_i (fun h => by simp at h) (fun _ => ?_)
    have kA2 : eLd tb 42 (.ptr M11.next 0) N3 = some (cutA a b f, N3) := eLd_some (ld_agg (n := 3) ty42 rfl rfl hcN2 (by simp))
    refine bindO_i kA2 ?_
    refine ⟨_, _, _, rfl, ?_⟩
    refine (c_arm N3 hN2h.wf p C3 hN2h.at' a b f).mono ?_
    rintro y N4 ⟨rfl, s4⟩
    rw [hsN.arm] at s4 ⊢
    have hN4 := hN2h.step s4
    have hgN4 := hN2h.get s4 (.inl (by omega)) hgN2
    have hcN4 := hN2h.get s4 (.inl hFc) hcN2
    simp only [i64, zI_int]
    refine condB_i (fun h => by simp at h) (fun _ => ?_)
    refine (c_ops N4 hN4.wf p C3 hN4.at').mono ?_
    rintro y N5 ⟨rfl, rfl⟩
    simp only [i64, zI_int, hsN.ops]
    have ea : iAdd .i64 (a : Int) 1 = ((a + 1 : Nat) : Int) := iInc (by omega)
    rw [ea]
    refine condB_i (fun h => by simp at h) (fun _ => ?_)
    refine (c_boot N5 hN4.wf p C3 hN4.at').mono ?_
    rintro y N6 ⟨rfl, s6⟩
    obtain ⟨b1, b2, b3⟩ := hsN.boot
    have hN6 := hN4.step s6
    have hgN6 := hN4.get s6 (.inl (by omega)) hgN4
    have hcN6 := hN4.get s6 (.inl hFc) hcN4
    rw [b1]
    simp only [i64, zI_int]
    refine condB_i (fun h => by simp at h) (fun _ => ?_)
    have hB1' := blk_bs b3 hN1
    have hB2' := blk_bs b3 hN2
    generalize (bootR C3).1 = C4 at *
    refine (c_boot N6 hN6.wf p C4 hN6.at').mono ?_
    rintro y N7 ⟨rfl, s7⟩
    rw [b2.boot] at s7 ⊢
    have hN7 := hN6.step s7
    have hgN7 := hN6.get s7 (.inl (by omega)) hgN6
    have hcN7 := hN6.get s7 (.inl hFc) hcN6
    simp only [i64, zI_int]
    refine condB_i (fun h => by simp at h) (fun _ => ?_)
    refine (c_on N7 hN7.wf p C4 hN7.at').mono ?_
    rintro y N8 ⟨rfl, rfl⟩
    simp only [zB_bool, b2.off]
    refine condB_i (fun h => by simp at h) (fun _ => ?_)
    refine (c_cuts N8 hN7.wf p C4 hN7.at').mono ?_
    rintro y N9 ⟨rfl, rfl⟩
    simp only [i64, zI_int, b2.cuts]
    rw [show (((1 : Nat) : Int) != (1 : Int)) = false from rfl, hK123]
    simp only [condB_false]
    -- the reads
    refine (x_read hN7 (1 : Nat) (0 : Nat)).mono ?_
    rintro y N10 ⟨u10, rfl, hu10, hf10, s10, hN10⟩
    obtain ⟨v1, v2, v3, v4⟩ := b2.rd (by omega) (.inl rfl) (j := 0) hB1' hp10
    rw [v1]
    refine ⟨u10, 0, rfl, ?_⟩
    rw [v2, hR, h1page] at hu10
    have hgN10 := hN7.get s10 (.inl (by omega)) hgN7
    have hcN10 := hN7.get s10 (.inl hFc) hcN7
    have hB2'' := blk_bs v4 hB2'
    generalize rdC C4 ((1 : Nat) : Int) ((0 : Nat) : Int) = C5 at *
    refine (x_read hN10 (2 : Nat) k).mono ?_
    rintro y N11 ⟨u11, rfl, hu11, hf11, s11, hN11⟩
    obtain ⟨w1, w2, w3, w4⟩ := v3.rd (by omega) (.inl rfl) hB2'' hp2k
    rw [w1]
    refine ⟨u11, 0, rfl, ?_⟩
    rw [w2, hR, hpg] at hu11
    have hgN11 := hN10.get s11 (.inl (by omega)) hgN10
    have hcN11 := hN10.get s11 (.inl hFc) hcN10
    have hu10' : BytesAt N11 u10 (pat 3#8 R) := hN10.bytes s11 hu10.at fun c hc => .inr (Nat.le_trans hN7.nxt (hf10 c hc))
    refine letP_i fun K141 hK141 => ?_
    refine condB_i (fun h => by simp at h) (fun _ => ?_)
    refine condB_i (fun h => by simp at h) (fun _ => ?_)
    refine (h_bytes hN11 3#8 rfl (by omega)).mono ?_
    rintro x12 N12 ⟨hx12, hk12, _, hN12⟩
    have hcN12 := hk12.get hN11.wf hcN11 (by simp)
    refine (same_bytes N12 u10 x12 _ _ (SlAt.keep0 hu10' hN11.wf hk12) hx12 (by simp; omega)).mono ?_
    rintro y N13 ⟨rfl, rfl⟩
    simp only [zB_bool]
    refine condB_i (fun h => by simp at h) (fun _ => ?_)
    have hu12 : BytesAt N13 u11 _ := SlAt.keep0 hu11.at hN11.wf hk12
    have hlw : (if er = true then List.replicate R f else (pat 5#8 R).take (min b R) ++ List.replicate (R - min b R) 255#8).length = R := by
      split
      · simp
      · simp only [List.length_append, List.length_take, pat_length, List.length_replicate]; omega
    refine bindO_i (eLen_some hu12.len) ?_
    simp only [zI_int]
    rw [hlw, bne_self_eq_false, hK141]
    simp only [condB_false]
    clear hK141 hK123
    have k12 : eLd tb 3 (.ptr M11.next 1) N13 = some (i64 (b : Int), N13) := eLd_some (ld_cell ty3 rfl hcN12 rfl)
    refine bindO_i k12 ?_
    simp only [i64, zI_int]
    have hmin : eMin tb #[3, 3] 3 [.int .i64 (b : Int), .int .i64 (R : Int)] N13 = some (.val (.int .i64 ((min b R : Nat) : Int)), N13) := by
      have : eMin tb #[3, 3] 3 [.int .i64 (b : Int), .int .i64 (R : Int)] N13 = some (.val (.int .i64 (if (R : Int) < (b : Int) then (R : Int) else (b : Int))), N13) := rfl
      rw [this]
      congr 4
      split <;> omega
    refine bindO_i hmin ?_
    simp only [zI_int]
    refine ⟨fun z n Q => ∃ t : Nat, z = t ∧ n = R - t ∧ t ≤ R ∧ Here Q p M12.next M20.next (rdC C5 (2 : Nat) k) ∧ BytesAt Q u11 (if er = true then List.replicate R f else (pat 5#8 R).take (min b R) ++ List.replicate (R - min b R) 255#8) ∧ Q.get M11.next = some (.cells [i64 (a : Int), i64 (b : Int), bv8 f] true), ⟨R, 0, rfl, rfl, Nat.zero_le _, hN12, hu12, hcN12⟩, ?_⟩
    rintro _ z n Q ⟨t, rfl, rfl, ht, hQ, huQ, hcQ⟩
    refine condB_i (fun hlt => ?_) (fun hge2 => ?_)
    rotate_left
    · refine (chip_awake Q).mono ?_
      rintro y N ⟨rfl, _⟩
      simp only [zB_bool]
    have hlt : t < R := by simpa using hlt
    refine letP_i fun K162 hK162 => ?_
    have kk : ∀ (w : BitVec 8) (Q2 : Mem), (if er = true then List.replicate R f else (pat 5#8 R).take (min b R) ++ List.replicate (R - min b R) 255#8)[t]'(by rw [hlw]; exact hlt) = w → Here Q2 p M12.next M20.next (rdC C5 (2 : Nat) k) → BytesAt Q2 u11 (if er = true then List.replicate R f else (pat 5#8 R).take (min b R) ++ List.replicate (R - min b R) 255#8) → Q2.get M11.next = some (.cells [i64 (a : Int), i64 (b : Int), bv8 f] true) → K162 (w.toNat : Int) Q2 := by
      intro w Q2 hw' hQ2 huQ2 hcQ2
      rw [hK162]
      obtain ⟨b', o', h1, h2⟩ := huQ2.at (i := t) (by rw [hlw]; exact hlt)
      refine bindO_i (eIA_some h1) ?_
      simp only [zP_ptr]
      refine bindO_i (eLd_some h2) ?_
      simp only [zI_int]
      rw [hw', bne_self_eq_false]
      simp only [condB_false]
      exact ⟨R - (t + 1), by omega, t + 1, iInc (by omega), rfl, hlt, hQ2, huQ2, hcQ2⟩
    refine condB_i (fun he => ?_) (fun he => ?_)
    · have kf : eLd tb 5 (.ptr M11.next 2) Q = some (bv8 f, Q) := eLd_some (ld_cell ty5 rfl hcQ rfl)
      refine bindO_i kf ?_
      simp only [bv8, zI_int]
      refine kk f Q ?_ hQ huQ hcQ
      simp only [he, if_true, List.getElem_replicate]
    · have he' : ¬ er = true := by rw [he]; simp
      refine condB_i (fun hlt2 => ?_) (fun hge2 => ?_)
      · have hlt2 : t < min b R := by
          have : (t : Int) < ((min b R : Nat) : Int) := by simpa using hlt2
          omega
        refine (h_bytes hQ 5#8 rfl (by omega)).mono ?_
        rintro x14 Q2 ⟨hx14, hk14, _, hQ2⟩
        obtain ⟨b', o', h1, h2⟩ := hx14.at (i := t) (by simp; omega)
        refine bindO_i (eIA_some h1) ?_
        simp only [zP_ptr]
        refine bindO_i (eLd_some h2) ?_
        simp only [zI_int]
        refine kk _ Q2 ?_ hQ2 (SlAt.keep0 huQ hQ.wf hk14) (hk14.get hQ.wf hcQ (by simp))
        simp only [if_neg he']
        rw [List.getElem_append_left (by simp; omega), List.getElem_take]
      · have hge2 : ¬ t < min b R := by
          intro h
          have : ¬ (t : Int) < ((min b R : Nat) : Int) := by simpa using hge2
          omega
        refine kk 255#8 Q ?_ hQ huQ hcQ
        simp only [if_neg he']
        rw [List.getElem_append_right (by simp; omega), List.getElem_replicate]
  clear hK88
  refine condB_i (fun he => ?_) (fun he => ?_)
  · refine (c_erase P hP.wf p C hP.at' (2 : Nat)).mono ?_
    rintro y N ⟨rfl, s⟩
    obtain ⟨t1, t2, t3, t4⟩ := hsP.erCut (by omega) (by omega) (by omega) hB2 (isG_nat (j := 0) (by omega) (by omega))
    rw [t1]
    simp only [i64, zI_int]
    rw [hlen] at t3
    refine rest N _ _ _ _ (hP.step s) (by rw [← hge]; exact t2) (t4 1 _ _ _ (by omega) hB1) t3 ?_ (hP.get s (.inl (by omega)) hgP) (hP.get s (.inl hFc) hcP)
    rw [if_pos he, rep_page (by omega)]
  · refine (h_bytes hP 5#8 rfl (by omega)).mono ?_
    rintro x2 P4 ⟨hx4, hk4, hf4, hP4⟩
    have hg4 := hk4.get hP.wf hgP (by simp)
    have hc4 := hk4.get hP.wf hcP (by simp)
    have hn4 := hP.nxt
    have hd2 : (pat 5#8 R).length = rawN g := by rw [hR]; simp
    refine (h_program hP4 (2 : Nat) k x2 _ hx4 (by simp; omega) (fun c hc => .inr (Nat.le_trans hn4 (hf4 c hc)))).mono ?_
    rintro y N ⟨rfl, s, hN⟩
    obtain ⟨t1, t2, t3, t4⟩ := hsP.progCut (by omega) (by omega) (by omega) hB2 hp2k hd2
    rw [t1]
    simp only [i64, zI_int]
    rw [hR, pat_length] at t3
    refine rest N _ _ _ _ hN (by rw [← hge]; exact t2) (t4 1 _ _ _ (by omega) hB1) t3 ?_ (hP4.get s (.inl (by omega)) hg4) (hP4.get s (.inl hFc) hc4)
    rw [if_neg (by rw [he]; simp), over_page_short (n := g.pg.toNat) hlen (by simp; omega) (by omega), hkpage, List.length_take, pat_length, List.drop_replicate, show min (min b R) R = min b R by omega]

end Go.Proofs.Ytjffimbigamadaa
