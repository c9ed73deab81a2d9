import Derived.Test.YtjffimbigamadaaG15
set_option linter.unusedSimpArgs false
set_option linter.unusedVariables false
/- ChipTears. -/
namespace Go.Proofs.Ytjffimbigamadaa
open Go.AM

section
variable {C : Chip} {g : Geo} {i : Nat} {l : List (BitVec 8)} {nx wr : Int}

theorem Ok.pgOps (h : Ok C g i l nx wr) {j : Nat} (hj : nx = (j : Int)) (hp : isG g i j = true) {d : List (BitVec 8)} (hd : d.length = rawN g) : (pgR C i j d).1.ops = iAdd .i64 C.ops 1 := by
  obtain ⟨h1, h2, h3⟩ := h.bg
  obtain ⟨B, hB, hl, hn, hwr⟩ := h3.blk
  unfold pgR
  rw [h.askd, if_pos hp, if_pos rfl, h.g, if_pos hd, h1]
  unfold pgS
  rw [Int.toNat_natCast, Int.toNat_natCast, hB]
  simp only [h3.fs, failsF_nil, hn, hj]
  simp [Chip.upB, h2]

theorem Ok.arm (h : Ok C g i l nx wr) {o op by' : Nat} (ho : C.ops = (o : Int)) (hb : o ≤ 1000000) (h1 : 1 ≤ op) (h2 : op ≤ 1000000) (h3 : by' ≤ 1000000) (f : BitVec 8) :
    armR C op by' f = ({ C with cop := op, cby := by', cf := f, turn := ((o + op : Nat) : Int) }, 0) := by
  unfold armR
  rw [h.off, if_neg (by decide), if_neg (by omega), ho, iAdd, wrap_i64' (by omega) (by omega), ← Int.natCast_add]

/-- A cut erase, and power again. -/
theorem Ok.tear (h : Ok C g i l nx wr) (hp : isG g i 0 = true) {o : Nat} (ho : C.ops = (o : Int)) (hb : o ≤ 1000000) (by' : Nat) (f : BitVec 8) :
    let C1 : Chip := { C with cop := (1 : Nat), cby := by', cf := f, turn := ((o + 1 : Nat) : Int) }
    (erR C1 i).2 = 9 ∧ (bootR (erR C1 i).1).2 = 0 ∧ Ok (bootR (erR C1 i).1).1 g i (List.replicate l.length f) (if f = 255#8 then 0 else g.pg) (iAdd .i64 wr 1) := by
  intro C1
  obtain ⟨B, hB, hl, hn, hwr⟩ := h.blk
  have hlt : i < C.bs.length := (List.getElem?_eq_some_iff.1 hB).1
  have e1 : iAdd .i64 C.ops 1 = ((o + 1 : Nat) : Int) := by rw [ho, iAdd, wrap_i64' (by omega) (by omega)]; omega
  have hbg : bgn C1 = true := by
    show (!(((o + 1 : Nat) : Int) == 0) && !(iAdd .i64 C.ops 1 != ((o + 1 : Nat) : Int))) = true
    rw [e1]
    simp
    omega
  have hC2 : bgC C1 = { C1 with ops := ((o + 1 : Nat) : Int), turn := 0, off := true, cuts := iAdd .i64 C.cuts 1 } := by
    unfold bgC
    rw [if_pos hbg]
    show ({ C1 with ops := iAdd .i64 C.ops 1, turn := 0, off := true, cuts := iAdd .i64 C.cuts 1 } : Chip) = _
    rw [e1]
  have hask : Go.Proofs.Ytjffimbigamadaa.askd C1 i 0 = 0 := by
    unfold Go.Proofs.Ytjffimbigamadaa.askd
    have h1 : C1.off = false := h.off
    have h2 : C1.g = g := h.g
    rw [h1, h2, hp]; rfl
  have hB2 : (bgC C1).bs[i]? = some B := by rw [hC2]; exact hB
  have hf2 : (bgC C1).fs = [] := by rw [hC2]; exact h.fs
  have hg2 : (bgC C1).g = g := by rw [hC2]; exact h.g
  have hcf : C1.cf = f := rfl
  have e : erR C1 i = ((bgC C1).upB i { B with by' := List.replicate B.by'.length f, next := if f = 255#8 then 0 else g.pg, wear := iAdd .i64 B.wear 1, done := iAdd .i64 B.done 1 }, 9) := by
    unfold erR erF
    rw [hask, if_pos rfl, if_pos hbg, if_pos hbg, hcf]
    unfold erS
    rw [Int.toNat_natCast, hB2]
    simp only [hf2, failsF_nil, hg2]
    rfl
  rw [e]
  refine ⟨rfl, ?_⟩
  have hoff : ((bgC C1).upB i { B with by' := List.replicate B.by'.length f, next := if f = 255#8 then 0 else g.pg, wear := iAdd .i64 B.wear 1, done := iAdd .i64 B.done 1 }).off = true := by
    show (bgC C1).off = true
    rw [hC2]
  unfold bootR
  simp only
  rw [if_pos hoff]
  refine ⟨rfl, ⟨hg2, hf2, rfl, rfl, ⟨{ B with by' := List.replicate B.by'.length f, next := if f = 255#8 then 0 else g.pg, wear := iAdd .i64 B.wear 1, done := iAdd .i64 B.done 1 }, ?_, ?_, rfl, ?_⟩⟩⟩
  · show ((bgC C1).bs.set i _)[i]? = _
    rw [List.getElem?_set_self (by rw [hC2]; exact hlt)]
  · simp only [hl]
  · simp only [hwr]
end

theorem rep_page' {v : BitVec 8} {L r k n : Nat} (hL : L = n * r) (hk : k < n) : ((List.replicate L v).drop (k * r)).take r = List.replicate r v := by
  subst hL; exact rep_page hk

theorem chip_tears (M : Mem) (hw : M.WF) (g : Geo) (block many : Int) (f : BitVec 8) :
    CallA tb.P 5 [geoA g, i64 block, i64 many, .val (.int .u8 (f.toNat : Int))] M fun y _ => y = .val (.bool true) := by
  refine F5_ok ?_
  unfold F5
  refine ⟨_, _, _, _, _, rfl, ?_⟩
  simp only [i64, zI_int]
  refine letP_i fun M9 hM9 => ?_
  have hM9' : M9 = M.new (.cells (geoC g) true) := hM9
  have hK9 : Keep M M9 [] := by rw [hM9']; exact Keep.new hw _
  have hg9 : M9.get M.next = some (.cells (geoC g) true) := by rw [hM9']; exact get_new _ _
  clear hM9 hM9'
  have hFn : M.next < M9.next := hK9.wf _ _ hg9
  obtain ⟨_, _, _, _, _, l5⟩ := geo_ld hg9
  refine bindO_i (eLd_some l5) ?_
  refine ⟨_, _, _, _, _, rfl, ?_⟩
  refine (c_new M9 hK9.wf g _ [] (SlAt.nil) (by simp)).mono ?_
  rintro y16 M17 ⟨hk17, hnew⟩
  rw [mayP_nil] at hnew
  refine letP_i fun K31 hK31 => ?_
  have aw : ∀ N : Mem, K31 true N := fun N => by
    rw [hK31]
    simp only [condB_true]
    refine (chip_awake N).mono ?_
    rintro y N' ⟨rfl, _⟩
    simp only [zB_bool]
  rcases hnew with ⟨hno, rfl⟩ | ⟨hmay, p, fsA, bb, bs, rfl, hchip, hblank, hfoot, _⟩
  · rw [nil_nil24, bindO_some]
    simp only [zB_bool, condB_true]
    exact aw _
  refine bindO_i nil_eq ?_
  simp only [zB_bool, condB_false]
  have hg17 := hk17.get hK9.wf hg9 (by simp)
  obtain ⟨_, _, _, _, _, m5⟩ := geo_ld hg17
  refine bindO_i (eLd_some m5) ?_
  refine ⟨_, _, _, _, _, rfl, ?_⟩
  refine (c_may16 M17 hk17.wf g).mono ?_
  rintro y M27 ⟨rfl, hk27⟩
  simp only [zB_bool, hmay, hK31]
  refine condB_i (fun h => by simp at h) (fun _ => ?_)
  clear aw hK31 K31
  have hg27 := hk27.get hk17.wf hg17 (by simp)
  have hH : Here M27 p M9.next M17.next (newChip g fsA [] bb bs) := Here.keep (M := M17) ⟨hchip, hk17.wf, fun c hc => ⟨hfoot c hc, hchip.lt hk17.wf c hc⟩, Nat.le_refl _⟩ hk27
  obtain ⟨e1, e2, hbl1, hbl2, hpg1, hpg2, hr1, hr2, e16⟩ := geo_nums hmay
  have hbsl : bs.length = g.bl.toNat := hchip.len
  obtain ⟨n0, n1, n2, _⟩ := geo_ld hg27
  simp only [eLd_some n0, eLd_some n1, bindO_some, i64, zI_int]
  have lowB : CallA tb.P 18 [.val (.int .i64 block), .val (.int .i64 g.bl)] M27 fun y N => y = .val (.int .i64 (lowOf block g.bl.toNat : Int)) ∧ N = M27 := by
    rw [e1]
    exact low M27 block g.bl.toNat (by omega) (by omega)
  refine lowB.mono ?_
  rintro y M40 ⟨rfl, rfl⟩
  simp only [zI_int]
  refine ⟨bindO_i (eLd_some n1) rfl, ?_⟩
  have epg : iAdd .i64 g.pg 1 = ((g.pg.toNat + 1 : Nat) : Int) := by
    rw [iAdd, wrap_i64' (by omega) (by omega)]; omega
  rw [epg]
  refine (low M40 many (g.pg.toNat + 1) (by omega) (by omega)).mono ?_
  rintro y M44 ⟨rfl, rfl⟩
  simp only [zI_int]
  have hi := lowOf_lt block (show 0 < g.bl.toNat by omega)
  have hm := lowOf_lt many (show 0 < g.pg.toNat + 1 by omega)
  generalize lowOf block g.bl.toNat = i at hi ⊢
  generalize lowOf many (g.pg.toNat + 1) = m at hm ⊢
  have hok := new_ok (fsA := fsA) (bb := bb) hblank (i := i) (by omega)
  refine bindO_i (eLd_some n2) ?_
  simp only [i64, zI_int]
  rw [e16]
  generalize hR : rawN g = R at *
  -- the programs
  refine ⟨fun z n P => ∃ (k : Nat) (C : Chip) (l : List (BitVec 8)), z = k ∧ n = m - k ∧ k ≤ m ∧ Here P p M9.next M17.next C ∧ Ok C g i l k 0 ∧ l.length = g.pg.toNat * R ∧ C.ops = (k : Int) ∧ P.get M.next = some (.cells (geoC g) true), ⟨m, 0, _, _, rfl, rfl, Nat.zero_le _, hH, hok, by simp, rfl, hg27⟩, ?_⟩
  rintro _ z n P ⟨k, C, l, rfl, rfl, hk, hP, okP, hlen, hops, hgP⟩
  refine condB_i (fun hlt => ?_) (fun hge => ?_)
  · have hlt : k < m := by simpa using hlt
    refine (h_bytes hP 9#8 rfl (by omega)).mono ?_
    rintro x2 P2 ⟨hx2, hk2, hf2, hP2⟩
    have hg2 := hk2.get hP.wf hgP (by simp)
    have hn1 := hP.nxt
    have ek : iAdd .i64 (k : Int) 1 = ((k + 1 : Nat) : Int) := iInc (by omega)
    refine (h_program hP2 i k x2 _ hx2 (by simp; omega) (fun c hc => .inr (Nat.le_trans hn1 (hf2 c hc)))).mono ?_
    rintro y P5 ⟨rfl, s5, hP5⟩
    have hp := isG_nat (g := g) hi (show k < g.pg.toNat by omega)
    have hd : (pat 9#8 R).length = rawN g := by rw [hR]; simp
    obtain ⟨h1, h2⟩ := okP.pg rfl hp hd
    have h3 := okP.pgOps rfl hp hd
    rw [h1]
    simp only [i64, zI_int]
    refine condB_i (fun h => by simp at h) (fun _ => ?_)
    rw [ek, hR] at h2
    rw [hops, ek] at h3
    exact ⟨m - (k + 1), by omega, k + 1, _, _, by rw [ek], rfl, hlt, hP5, h2, over_len hlen (by simp) (by omega), h3, hP2.get s5 (.inl hFn) hg2⟩
  have hge : k = m := by have : ¬ (k : Int) < m := by simpa using hge
                         omega
  subst hge
  -- the cut
  refine letP_i fun K73 hK73 => ?_
  refine (c_arm P hP.wf p C hP.at' 1 0 f).mono ?_
  rintro y P1 ⟨rfl, s1⟩
  have harm := okP.arm (op := 1) (by' := 0) hops (by omega) (Nat.le_refl _) (by omega) (by omega) f
  have hp0 : isG g i 0 = true := isG_nat (j := 0) hi (by omega)
  obtain ⟨t1, t2, t3⟩ := okP.tear hp0 hops (by omega) 0 f
  have harm' : armR C 1 0 f = ({ C with cop := (1 : Nat), cby := (0 : Nat), cf := f, turn := ((k + 1 : Nat) : Int) }, 0) := harm
  rw [harm'] at s1 ⊢
  simp only [i64, zI_int] at s1 ⊢
  have hP1 := hP.step s1
  have hg1 := hP.get s1 (.inl hFn) hgP
  generalize hC1 : ({ C with cop := (1 : Nat), cby := (0 : Nat), cf := f, turn := ((k + 1 : Nat) : Int) } : Chip) = C1 at *
  refine condB_i (fun h => by simp at h) (fun _ => ?_)
  refine (c_erase P1 hP1.wf p C1 hP1.at' i).mono ?_
  rintro y P2 ⟨rfl, s2⟩
  have hP2 := hP1.step s2
  have hg2 := hP1.get s2 (.inl hFn) hg1
  rw [t1]
  simp only [i64, zI_int]
  refine condB_i (fun h => by simp at h) (fun _ => ?_)
  refine (c_boot P2 hP2.wf p _ hP2.at').mono ?_
  rintro y P3 ⟨rfl, s3⟩
  have hP3 := hP2.step s3
  have hg3 := hP2.get s3 (.inl hFn) hg2
  rw [t2]
  simp only [i64, zI_int]
  refine condB_i (fun h => by simp at h) (fun _ => ?_)
  refine (h_wear hP3 t3).mono ?_
  rintro y P4 ⟨rfl, hk4, hP4⟩
  have hg4 := hk4.get hP3.wf hg3 (by simp)
  simp only [i64, zI_int]
  have ew : iAdd .i64 0 1 = 1 := rfl
  rw [show (iAdd .i64 0 1 != (1 : Int)) = false from rfl, hK73]
  simp only [condB_false]
  generalize (bootR (erR C1 (i : Int)).1).1 = C4 at *
  rw [hlen] at t3
  -- the reads
  refine ⟨fun z n P => ∃ (q : Nat) (C : Chip), z = q ∧ n = g.pg.toNat - q ∧ q ≤ g.pg.toNat ∧ Here P p M9.next M17.next C ∧ Ok C g i (List.replicate (g.pg.toNat * R) f) (if f = 255#8 then 0 else g.pg) 1 ∧ P.get M.next = some (.cells (geoC g) true), ⟨g.pg.toNat, 0, C4, rfl, rfl, Nat.zero_le _, hP4, t3, hg4⟩, ?_⟩
  rintro _ z n Q ⟨q, D, rfl, rfl, hq, hQ, okQ, hgQ⟩
  obtain ⟨_, b1, _⟩ := geo_ld hgQ
  simp only [eLd_some b1, bindO_some, i64, zI_int]
  refine condB_i (fun hlt => ?_) (fun hge => ?_)
  · have hlt : q < g.pg.toNat := by have : (q : Int) < g.pg := by simpa using hlt
                                    omega
    refine (h_read hQ okQ (isG_nat hi hlt)).mono ?_
    rintro y Q1 ⟨u, rfl, hu, hfu, D1, s1', hQ1, ok1⟩
    refine ⟨u, 0, rfl, ?_⟩
    have hgq1 := hQ.get s1' (.inl hFn) hgQ
    rw [hR, rep_page hlt] at hu
    refine letP_i fun K hK => ?_
    refine condB_i (fun h => by simp at h) (fun _ => ?_)
    refine bindO_i (eLen_some hu.len) ?_
    simp only [zI_int, List.length_replicate]
    rw [bne_self_eq_false, hK]
    simp only [condB_false]
    refine ⟨fun z n N => ∃ t : Nat, z = t ∧ n = R - t ∧ t ≤ R ∧ N = Q1, ⟨R, 0, rfl, rfl, Nat.zero_le _, rfl⟩, ?_⟩
    rintro _ z n N ⟨t, rfl, rfl, ht, rfl⟩
    refine condB_i (fun hlt2 => ?_) (fun hge2 => ?_)
    · have hlt2 : t < R := by simpa using hlt2
      obtain ⟨b, o, h1, h2⟩ := hu.at (i := t) (by simpa using hlt2)
      refine bindO_i (eIA_some h1) ?_
      simp only [zP_ptr]
      refine bindO_i (eLd_some h2) ?_
      simp only [zI_int, List.getElem_replicate]
      refine condB_i (fun h => by simp at h) (fun _ => ?_)
      exact ⟨R - (t + 1), by omega, t + 1, iInc (by omega), rfl, hlt2, by trivial⟩
    · exact ⟨g.pg.toNat - (q + 1), by omega, q + 1, D1, iInc (by omega), rfl, hlt, hQ1, ok1, hgq1⟩
  refine letP_i fun K104 hK104 => ?_
  have fin : K104 (if f = 255#8 then 0 else g.pg) := by
    rw [hK104]
    refine letP_i fun K hK => ?_
    refine (h_used hQ okQ).mono ?_
    rintro y Q1 ⟨rfl, hk1, hQ1⟩
    simp only [i64, zI_int]
    refine condB_i (fun _ => ?_) (fun h => by simp at h)
    refine (h_erase hQ1 okQ hp0).mono ?_
    rintro y Q2 ⟨rfl, D2, s2', hQ2, ok2⟩
    simp only [i64, zI_int]
    refine condB_i (fun _ => ?_) (fun h => by simp at h)
    refine (h_used hQ2 ok2).mono ?_
    rintro y Q3 ⟨rfl, hk3, hQ3⟩
    simp only [i64, zI_int]
    refine condB_i (fun _ => ?_) (fun h => by simp at h)
    refine (h_wear hQ3 ok2).mono ?_
    rintro y Q4 ⟨rfl, hk4, hQ4⟩
    simp only [i64, zI_int]
    refine condB_i (fun _ => ?_) (fun h => absurd h (by decide))
    refine (chip_awake Q4).mono ?_
    rintro y N ⟨rfl, _⟩
    simp only [zB_bool]
    rw [hK]
  have hz : ((f.toNat : Int) == 255) = decide (f = 255#8) := by
    have h1 := ne_u8 f 255 (by omega)
    have h2 : ((f.toNat : Int) != ((255 : Nat) : Int)) = !((f.toNat : Int) == 255) := rfl
    rw [h2] at h1
    rw [← Bool.not_not ((f.toNat : Int) == 255), h1]
    simp
  rw [hz]
  refine condB_i (fun h => ?_) (fun h => ?_)
  · rw [if_pos (by simpa using h)] at fin; exact fin
  · rw [if_neg (by simpa using h)] at fin; exact fin

end Go.Proofs.Ytjffimbigamadaa
