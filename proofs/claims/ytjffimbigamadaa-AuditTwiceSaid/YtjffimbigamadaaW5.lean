import Derived.Test.YtjffimbigamadaaW4
set_option linter.unusedSimpArgs false
set_option linter.unusedVariables false
set_option linter.unusedSectionVars false
/- AuditTwice. -/
namespace Go.Proofs.Ytjffimbigamadaa
open Go.AM

theorem filter_two {p : Nat → Bool} {u v : Nat} (huv : u < v) : ∀ n, (∀ i, i < n → p i = (i == u || i == v)) → (List.range n).filter p = (if u < n then [u] else []) ++ (if v < n then [v] else [])
  | 0, _ => by simp
  | n + 1, h => by
    have ih := filter_two huv n fun i hi => h i (by omega)
    rw [List.range_succ, List.filter_append, ih]
    have hn := h n (by omega)
    simp only [List.filter_cons, List.filter_nil]
    rw [hn]
    by_cases h1 : n = u
    · rw [if_neg (show ¬ u < n by omega), if_neg (show ¬ v < n by omega), if_pos (show u < n + 1 by omega), if_neg (show ¬ v < n + 1 by omega), if_pos (by simp [h1])]
      simp [h1]
    · by_cases h2 : n = v
      · rw [if_pos (show u < n by omega), if_neg (show ¬ v < n by omega), if_pos (show u < n + 1 by omega), if_pos (show v < n + 1 by omega), if_pos (by simp [h2])]
        simp [h2]
      · rw [if_neg (by simp [h1, h2] : ¬ (n == u || n == v) = true)]
        by_cases h3 : u < n
        · rw [if_pos h3, if_pos (show u < n + 1 by omega)]
          by_cases h4 : v < n
          · rw [if_pos h4, if_pos (show v < n + 1 by omega)]; simp
          · rw [if_neg h4, if_neg (show ¬ v < n + 1 by omega)]; simp
        · rw [if_neg h3, if_neg (show ¬ u < n + 1 by omega), if_neg (show ¬ v < n by omega), if_neg (show ¬ v < n + 1 by omega)]; simp

/-- The first page of a block is programmed, on a calm chip. -/
theorem calm_pg0 {C : Chip} (h : Calm C) (hfs : C.fs = []) {b : Nat} (hb : b < C.bs.length) (hp : isG C.g (b : Int) 0 = true) (hnx : C.bs[b].next = 0) {d : List (BitVec 8)} (hd : d.length = rawN C.g) :
    ∃ B', (pgR C (b : Int) 0 d).2 = 0 ∧ (pgR C (b : Int) 0 d).1.g = C.g ∧ (pgR C (b : Int) 0 d).1.fs = [] ∧ Calm (pgR C (b : Int) 0 d).1 ∧ (pgR C (b : Int) 0 d).1.bs = C.bs.set b B' ∧ (pgR C (b : Int) 0 d).1.cuts = C.cuts ∧ (pgR C (b : Int) 0 d).1.ops = iAdd .i64 C.ops 1 ∧ B'.by' = over C.bs[b].by' (0 * rawN C.g) d ∧ B'.wear = C.bs[b].wear := by
  obtain ⟨h1, h2, h3⟩ := h.bg
  have hbb := bgC_bs C
  have ha : askd C (b : Int) 0 = 0 := by unfold askd; rw [h.off, hp]; rfl
  have hS : pgS (bgC C) false b 0 d = ((bgC C).upB b { C.bs[b] with by' := over C.bs[b].by' (0 * rawN (bgC C).g) d, next := iAdd .i64 C.bs[b].next 1, done := iAdd .i64 C.bs[b].done 1 }, 0) := by
    unfold pgS
    rw [hbb.1, hbb.2.2.1, List.getElem?_eq_getElem hb]
    simp only
    rw [if_neg (by rw [hfs]; simp [failsF_nil]), if_neg (by rw [hnx]; simp), if_neg (by simp)]
  have e : pgR C (b : Int) 0 d = ((bgC C).upB b { C.bs[b] with by' := over C.bs[b].by' (0 * rawN (bgC C).g) d, next := iAdd .i64 C.bs[b].next 1, done := iAdd .i64 C.bs[b].done 1 }, 0) := by
    unfold pgR
    rw [if_pos ha, if_pos hd, h1, Int.toNat_natCast]
    have : (0 : Int).toNat = 0 := rfl
    rw [this, hS]
    rfl
  rw [e]
  refine ⟨{ C.bs[b] with by' := over C.bs[b].by' (0 * rawN (bgC C).g) d, next := iAdd .i64 C.bs[b].next 1, done := iAdd .i64 C.bs[b].done 1 }, rfl, hbb.2.1, hbb.2.2.1.trans hfs, ⟨h3.off, h3.turn⟩, ?_, ?_, ?_, ?_, ?_⟩
  · show (bgC C).bs.set b _ = _
    rw [hbb.1]
  · show (bgC C).cuts = _
    rw [h2]
  · show (bgC C).ops = _
    rw [h2]
  · rw [hbb.2.1]
  · rfl

theorem two_pg {g : Geo} {fsA : AV} {bb : Nat} {bs : List Blk} (hm : mayG g = true) (hb : blank g bs) (hl : bs.length = g.bl.toNat) {X Y : List (BitVec 8)} (hX : X.length = rawN g) (hY : Y.length = rawN g) (sX : state X = 1) (sY : state Y = 1) :
    (pgR (newChip g fsA [] bb bs) 3 0 X).2 = 0 ∧ (pgR (pgR (newChip g fsA [] bb bs) 3 0 X).1 4 0 Y).2 = 0 ∧
    ∀ C, C = (pgR (pgR (newChip g fsA [] bb bs) 3 0 X).1 4 0 Y).1 → C.g = g ∧ Calm C ∧ C.cuts = 0 ∧ 0 ≤ C.ops ∧ C.ops ≤ 2 ∧ (∀ B ∈ C.bs, 0 ≤ B.wear ∧ B.wear ≤ ((0 : Nat) : Int)) ∧ sqC C = [(tgOf X).s, (tgOf Y).s] := by
  obtain ⟨hn1, hn2, e1, e2, h3, h3', h4, h4'⟩ := nP_bnd hm
  have hr : 40 ≤ rawN g ∧ rawN g ≤ 80 := by have := mayG_iff.1 hm; unfold rawN; omega
  have hc1 : Calm (newChip g fsA [] bb bs) := ⟨rfl, rfl⟩
  have hby : ∀ j (hj : j < bs.length), bs[j].by' = List.replicate (g.pg.toNat * rawN g) 255#8 := fun j hj => by rw [hb _ (List.getElem_mem hj)]; rfl
  have hwr : ∀ j (hj : j < bs.length), bs[j].wear = 0 := fun j hj => by rw [hb _ (List.getElem_mem hj)]; rfl
  have hnx : ∀ j (hj : j < bs.length), bs[j].next = 0 := fun j hj => by rw [hb _ (List.getElem_mem hj)]; rfl
  have hp : ∀ b : Nat, b < 8 → isG g (b : Int) 0 = true := fun b hb' => isG_iff.2 ⟨⟨by omega, by omega⟩, by omega, by omega⟩
  obtain ⟨B3, a1, a2, a3, a4, a5, a6, a7, a8, a9⟩ := calm_pg0 hc1 rfl (b := 3) (by show 3 < bs.length; omega) (hp 3 (by omega)) (hnx 3 (by omega)) (d := X) hX
  have n3 : ((3 : Nat) : Int) = 3 := rfl
  have n4 : ((4 : Nat) : Int) = 4 := rfl
  rw [n3] at a1 a2 a3 a4 a5 a6 a7
  generalize (pgR (newChip g fsA [] bb bs) 3 0 X).1 = C2 at *
  have a2 : C2.g = g := a2
  have a5 : C2.bs = bs.set 3 B3 := a5
  have a6 : C2.cuts = 0 := a6
  have a7 : C2.ops = 1 := a7
  have a8 : B3.by' = over (List.replicate (g.pg.toNat * rawN g) 255#8) (0 * rawN g) X := by
    rw [← hby 3 (by omega)]; exact a8
  have a9 : B3.wear = 0 := by rw [← hwr 3 (by omega)]; exact a9
  have hb4 : 4 < C2.bs.length := by rw [a5, List.length_set]; omega
  have g4 : C2.bs[4] = bs[4]'(by omega) := by
    have : C2.bs[4]? = bs[4]? := by rw [a5, List.getElem?_set, if_neg (by omega)]
    rw [List.getElem?_eq_getElem hb4, List.getElem?_eq_getElem (by omega)] at this
    exact Option.some.inj this
  obtain ⟨B4, b1, b2, b3, b4, b5, b6, b7, b8, b9⟩ := calm_pg0 a4 a3 (b := 4) hb4 (by rw [a2]; exact hp 4 (by omega)) (by rw [g4]; exact hnx 4 (by omega)) (d := Y) (by rw [a2]; exact hY)
  rw [n4] at b1 b2 b3 b4 b5 b6 b7
  refine ⟨a1, b1, fun C hC => ?_⟩
  rw [← hC] at b2 b3 b4 b5 b6 b7
  clear hC b1 a1
  have b2 : C.g = g := b2.trans a2
  have b5 : C.bs = (bs.set 3 B3).set 4 B4 := by rw [b5, a5]
  have b8 : B4.by' = over (List.replicate (g.pg.toNat * rawN g) 255#8) (0 * rawN g) Y := by
    rw [← hby 4 (by omega), ← g4, ← a2]; exact b8
  have b9 : B4.wear = 0 := by rw [← hwr 4 (by omega), ← g4]; exact b9
  have b7 : C.ops = 2 := by rw [b7, a7]; rfl
  refine ⟨b2, b4, b6.trans a6, by omega, by omega, fun B hB => ?_, ?_⟩
  · rw [b5] at hB
    rcases List.mem_or_eq_of_mem_set hB with hB | rfl
    · rcases List.mem_or_eq_of_mem_set hB with hB | rfl
      · rw [hb B hB]; exact ⟨Int.le_refl _, Int.le_refl _⟩
      · rw [a9]; exact ⟨Int.le_refl _, Int.le_refl _⟩
    · rw [b9]; exact ⟨Int.le_refl _, Int.le_refl _⟩
  have page : ∀ i, i < nP g → pgI C i = if plB g i = 4 then (if plK g i = 0 then Y else List.replicate (rawN g) 255#8) else if plB g i = 3 then (if plK g i = 0 then X else List.replicate (rawN g) 255#8) else List.replicate (rawN g) 255#8 := by
    intro i hi
    obtain ⟨_, p1, p2, _⟩ := pl_is hm hi
    unfold pgI
    rw [b2, b5, List.getElem?_set, List.getElem?_set, List.length_set]
    generalize plB g i = b at *
    generalize plK g i = k at *
    by_cases q4 : b = 4
    · subst q4
      rw [if_pos rfl, if_pos rfl, if_pos (by omega)]
      show pageB B4 _ _ = _
      unfold pageB
      rw [b8, over_page (by rw [List.length_replicate]) hY (by omega) p2, rep_page p2]
    · rw [if_neg (fun e => q4 e.symm), if_neg q4]
      by_cases q3 : b = 3
      · subst q3
        rw [if_pos rfl, if_pos rfl, if_pos (by omega)]
        show pageB B3 _ _ = _
        unfold pageB
        rw [a8, over_page (by rw [List.length_replicate]) hX (by omega) p2, rep_page p2]
      · rw [if_neg (fun e => q3 e.symm), if_neg q3, List.getElem?_eq_getElem (by omega)]
        show pageB _ _ _ = _
        unfold pageB
        rw [hby b (by omega), rep_page p2]
  have hb0 := state_blank hr.1 hr.2
  obtain ⟨u1, u2⟩ := pl_at (g := g) (b := 3) (j := 0) (by omega)
  obtain ⟨v1, v2⟩ := pl_at (g := g) (b := 4) (j := 0) (by omega)
  rw [Nat.add_zero] at u1 u2 v1 v2
  have hnPl : 4 * g.pg.toNat < nP g := by
    have : 8 * g.pg.toNat ≤ g.bl.toNat * g.pg.toNat := Nat.mul_le_mul_right _ h4
    unfold nP; omega
  have ok : ∀ i, i < nP g → okI C i = (i == 3 * g.pg.toNat || i == 4 * g.pg.toNat) := by
    intro i hi
    obtain ⟨_, p1, p2, p3⟩ := pl_is hm hi
    have hbf : badF C.fs (plB C.g i : Int) = false := by rw [b3]; rfl
    unfold okI
    rw [hbf, page i hi]
    by_cases q4 : i = 4 * g.pg.toNat
    · subst q4
      rw [v1, v2, if_pos rfl, if_pos rfl, sY]; simp
    · by_cases q3 : i = 3 * g.pg.toNat
      · subst q3
        rw [u1, u2, if_neg (by omega), if_pos rfl, if_pos rfl, sX]; simp
      · have h0 : state (if plB g i = 4 then (if plK g i = 0 then Y else List.replicate (rawN g) 255#8) else if plB g i = 3 then (if plK g i = 0 then X else List.replicate (rawN g) 255#8) else List.replicate (rawN g) 255#8) = 0 := by
          split
          · rename_i hb'
            rw [if_neg (fun hk => q4 (by rw [hb', hk] at p3; omega))]; exact hb0
          · split
            · rename_i hb'
              rw [if_neg (fun hk => q3 (by rw [hb', hk] at p3; omega))]; exact hb0
            · exact hb0
        rw [h0]; simp [q3, q4]
  have hidx : idx C (nP C.g) = [3 * g.pg.toNat, 4 * g.pg.toNat] := by
    unfold idx
    rw [b2, filter_two (p := okI C) (u := 3 * g.pg.toNat) (v := 4 * g.pg.toNat) (by omega) (nP g) ok, if_pos (by omega), if_pos (by omega)]
    rfl
  unfold sqC
  rw [hidx]
  show [(tgOf (pgI C (3 * g.pg.toNat))).s, (tgOf (pgI C (4 * g.pg.toNat))).s] = _
  rw [page _ (by omega), page _ hnPl, u1, u2, v1, v2, if_neg (by omega), if_pos rfl, if_pos rfl, if_pos rfl, if_pos rfl]

theorem ws_bnd {C : Chip} {i : Nat} (h : ∀ B ∈ C.bs, 0 ≤ B.wear ∧ B.wear ≤ (i : Int)) (n k : Nat) : 0 ≤ (wsN C n).getD k 0 ∧ (wsN C n).getD k 0 ≤ (i : Int) := by
  rw [List.getD_eq_getElem?_getD]
  cases hk : (wsN C n)[k]? with
  | none => exact ⟨Int.le_refl _, Int.natCast_nonneg _⟩
  | some w =>
    have hm := List.mem_of_getElem? hk
    unfold wsN at hm
    rw [List.mem_map] at hm
    obtain ⟨b, _, rfl⟩ := hm
    show 0 ≤ wearOf C b ∧ wearOf C b ≤ i
    unfold wearOf
    split
    · split
      · rename_i B hB
        exact h B (List.mem_of_getElem? hB)
      · exact ⟨Int.le_refl _, Int.natCast_nonneg _⟩
    · exact ⟨Int.le_refl _, Int.natCast_nonneg _⟩

theorem str_same (s : AV) (hs : s = sTwice ∨ s = sNone) {M : Mem} {xo yo : Operand} : eBin tb .neq 9 xo yo s s M = some (bv false, M) := by
  rcases hs with rfl | rfl
  · exact eBin_some (by kernel_rfl)
  · exact eBin_some (by kernel_rfl)

/-- Zeros are laid. -/
theorem lay_zeros (M : Mem) (hw : M.WF) (g : Geo) (hm : mayG g = true) (k p : Int) (s : Nat) (hs : s < 9) (hk : 1 ≤ k ∧ k ≤ 2) (hp : 0 ≤ p ∧ p ≤ 9) :
    ∃ x N, evMakeSlice tb 33 (.val (.int .i64 g.by')) (.val (.int .i64 g.by')) M = some (x, N) ∧ Keep M N [] ∧ CallA tb.P 61 [x, tagA k p (s : Int) 1] N fun y N' => ∃ u, y = .tup [u, i64 0] ∧ Keep M N' [] ∧ Gr N' u (laid (List.replicate g.by'.toNat 0#8) k p (s : Int) 1) ∧ (∀ c, inBlk u c → M.next ≤ c) := by
  have hmi := mayG_iff.1 hm
  have hby : g.by' = (g.by'.toNat : Int) := by omega
  have hl : 24 ≤ g.by'.toNat ∧ g.by'.toNat ≤ 64 := by omega
  rw [hby, Int.toNat_natCast]
  generalize g.by'.toNat = n at *
  have hmk := make_sl (T := tb) (M := M) ty33 rfl ty5 (l := n) (c := n) (Nat.le_refl _) (by show 1 * n ≤ _; omega) (by omega) (k1 := .i64) (k2 := .i64)
  refine ⟨_, _, hmk, Keep.new hw _, ?_⟩
  have hrep : repA n (ofVs [Value.int .u8 0]) = bvs (List.replicate n 0#8) := by
    show repA n [AV.val (.int .u8 0)] = _
    rw [repA_one']
    simp [bvs, bv8]
  have hbytes : BytesAt (M.new (.cells (repA n (ofVs [Value.int .u8 0])) true)) (.sl M.next 0 n n none) (List.replicate n 0#8) := by
    rw [hrep]
    exact ⟨by simp, .inr ⟨M.next, 0, n, none, by simp, ⟨by simp, .inl rfl⟩, .inr ⟨_, _, get_new _ _, by simp, by rw [List.drop_zero, List.take_of_length_le (by simp)]⟩⟩⟩
  have hkn := Keep.new hw (.cells (repA n (ofVs [Value.int .u8 0])) true)
  refine (t_reflay _ hkn.wf _ (List.replicate n 0#8) k p (s : Int) 1 hbytes (by simp; omega)).mono ?_
  rintro y N' ⟨hk', hres⟩
  have hok : okL (List.replicate n 0#8) k p (s : Int) 1 = true := by
    unfold okL mayT
    rw [List.length_replicate, Bool.and_eq_true, decide_eq_true_eq, decide_eq_true_eq]
    omega
  rcases hres with ⟨_, u, rfl, hu, hfu⟩ | ⟨hno, _⟩
  · exact ⟨u, rfl, hkn.trans0 hk', hu, fun c hc => Nat.le_trans hkn.nxt (hfu c hc)⟩
  · rw [hok] at hno; cases hno

set_option maxRecDepth 100000 in
theorem audit_twice (M : Mem) (hw : M.WF) (g : Geo) (a b : Int) :
    CallA tb.P 14 [geoA g, i64 a, i64 b] M fun y _ => y = .val (.bool true) := by
  refine F14_ok ?_
  unfold F14
  refine ⟨_, _, _, _, _, rfl, ?_⟩
  simp only [i64, zI_int]
  refine letP_i fun M8 hM8 => ?_
  have hM8' : M8 = M.new (.cells (geoC g) true) := hM8
  have hk8 : Keep M M8 [] := by rw [hM8']; exact Keep.new hw _
  have hg8 : M8.get M.next = some (.cells (geoC g) true) := by rw [hM8']; exact get_new _ _
  clear hM8 hM8'
  refine bindO_i (eLd_some (geo_ld hg8).2.2.2.2.2) ?_
  refine ⟨_, _, _, _, _, rfl, ?_⟩
  refine (c_new M8 hk8.wf g _ [] SlAt.nil (by simp)).mono ?_
  rintro y M16 ⟨hk16, hc⟩
  have hg16 := hk16.get hk8.wf hg8 (by simp)
  refine letP_i fun K30 hK30 => ?_
  rcases hc with ⟨hno, rfl⟩ | ⟨hmay, p, fsA, bb, bs, rfl, hchip, hblank, hfoot, hfsA⟩
  · rw [nil_nil24, bindO_some]
    simp only [zB_bool, condB_true]
    rw [hK30]
    simp only [condB_true]
    refine (a_awake M16 hk16.wf).mono ?_
    rintro y N rfl
    simp only [zB_bool]
  rw [nil_eq, bindO_some]
  simp only [zB_bool, condB_false]
  refine bindO_i (eLd_some (geo_ld hg16).2.2.2.2.2) ?_
  refine ⟨_, _, _, _, _, rfl, ?_⟩
  have hmg : mayG g = true := hchip.may
  refine (c_may16 M16 hk16.wf g).mono ?_
  rintro y M26 ⟨rfl, hk26⟩
  rw [hmg, hK30]
  simp only [zB_bool, Bool.not_true, condB_false]
  clear hK30 K30
  have hg26 := hk26.get hk16.wf hg16 (by simp)
  have h26 := hchip.keep hk16.wf hk26
  have hmn : M.next < M8.next := hk8.wf _ _ hg8
  have hft : ∀ c ∈ foot p (newChip g fsA [] bb bs), M8.next ≤ c ∧ c < M26.next := fun c hc => ⟨hfoot c hc, h26.lt hk26.wf c hc⟩
  have hgnf : M.next ∉ foot p (newChip g fsA [] bb bs) := fun hm => by have := hft _ hm; omega
  refine (low M26 a 9 (by omega) (by omega)).mono ?_
  rintro y M35 ⟨rfl, rfl⟩
  simp only [zI_int]
  refine (low M35 b 9 (by omega) (by omega)).mono ?_
  rintro y M38 ⟨rfl, rfl⟩
  simp only [zI_int]
  have ha := lowOf_lt a (n := 9) (by omega)
  have hb := lowOf_lt b (n := 9) (by omega)
  generalize lowOf a 9 = s at *
  generalize lowOf b 9 = t at *
  refine bindO_i (eLd_some (geo_ld hg26).2.2.1) ?_
  simp only [i64, zI_int]
  obtain ⟨x1, N1, m1, k1, c1⟩ := lay_zeros M38 hk26.wf g hmg 1 1 s ha (by omega) (by omega)
  refine bindO_i m1 ?_
  refine c1.mono ?_
  rintro y M44 ⟨x45, rfl, hk44, hx45, fx45⟩
  refine ⟨_, _, rfl, ?_⟩
  have hg44 := hk44.get hk26.wf hg26 (by simp)
  refine bindO_i (eLd_some (geo_ld hg44).2.2.1) ?_
  simp only [i64, zI_int]
  obtain ⟨x2, N2, m2, k2, c2⟩ := lay_zeros M44 hk44.wf g hmg 2 2 t hb (by omega) (by omega)
  refine bindO_i m2 ?_
  refine c2.mono ?_
  rintro y M51 ⟨x52, rfl, hk51, hx52, fx52⟩
  refine ⟨_, _, rfl, ?_⟩
  clear c1 c2 m1 m2 k1 k2 N1 N2 x1 x2
  refine letP_i fun K62 hK62 => ?_
  have hK51 := hk44.trans0 hk51
  have hx45' : Gr M51 x45 (laid (List.replicate g.by'.toNat 0#8) 1 1 (s : Int) 1) := hx45.mono fun c r _ hr => hk51.get hk44.wf hr (by simp)
  have h51 := h26.keep hk26.wf hK51
  have hmi := mayG_iff.1 hmg
  have hX : (laid (List.replicate g.by'.toNat 0#8) 1 1 (s : Int) 1).length = rawN g := by rw [laid_length, List.length_replicate]; unfold rawN; omega
  have hY : (laid (List.replicate g.by'.toNat 0#8) 2 2 (t : Int) 1).length = rawN g := by rw [laid_length, List.length_replicate]; unfold rawN; omega
  have okT : ∀ (k p : Int) (q : Nat), 1 ≤ k ∧ k ≤ 2 → 0 ≤ p ∧ p ≤ 9 → q < 9 → mayT k p (q : Int) 1 = true := fun k p q h1 h2 h3 => by
    unfold mayT; rw [decide_eq_true_eq]; omega
  have okA : ∀ (k p : Int) (q : Nat), 1 ≤ k ∧ k ≤ 2 → 0 ≤ p ∧ p ≤ 9 → q < 9 → state (laid (List.replicate g.by'.toNat 0#8) k p (q : Int) 1) = 1 ∧ (tgOf (laid (List.replicate g.by'.toNat 0#8) k p (q : Int) 1)).s = q := fun k p q h1 h2 h3 => by
    refine ⟨laid_state ?_, ?_⟩
    · unfold okL
      rw [okT k p q h1 h2 h3, List.length_replicate, Bool.and_true, decide_eq_true_eq]
      omega
    · unfold tgOf
      rw [laid_drop]
      exact (tail16_fields (okT k p q h1 h2 h3)).2.2.1
  obtain ⟨sX, tX⟩ := okA 1 1 s (by omega) (by omega) ha
  obtain ⟨sY, tY⟩ := okA 2 2 t (by omega) (by omega) hb
  obtain ⟨r1, r2, r3⟩ := two_pg (fsA := fsA) (bb := bb) hmg hblank hchip.len hX hY sX sY
  have hXl : rawN g ≤ 80 := by unfold rawN; omega
  generalize laid (List.replicate g.by'.toNat 0#8) 1 1 (s : Int) 1 = X at *
  generalize laid (List.replicate g.by'.toNat 0#8) 2 2 (t : Int) 1 = Y at *
  generalize newChip g fsA [] bb bs = C at *
  refine condB_i (fun h => by simp at h) (fun _ => ?_)
  refine condB_i (fun h => by simp at h) (fun _ => ?_)
  refine (c_program M51 hK51.wf p C h51 3 0 x45 X hx45'.at (by omega) (fun c hc hm => by have := fx45 c hc; have := (hft c hm).2; omega)).mono ?_
  rintro y M55 ⟨rfl, s55⟩
  rw [r1]
  simp only [i64, zI_int]
  refine condB_i (fun h => by simp at h) (fun _ => ?_)
  have nf51 : ∀ c, M44.next ≤ c → c ∉ foot p C := fun c hc hm => by have := (hft c hm).2; have := hk44.nxt; omega
  have hx52' : Gr M55 x52 Y := hx52.mono fun c r hc hr => step_get s55 hK51.wf hr (nf51 c (fx52 c hc))
  generalize (pgR C 3 0 X).1 = C2 at *
  refine (c_program M55 s55.wf p C2 s55.at' 4 0 x52 Y hx52'.at (by omega) (fun c hc hm => nf51 c (fx52 c hc) (s55.foot ▸ hm))).mono ?_
  rintro y M58 ⟨rfl, s58⟩
  rw [r2]
  simp only [i64, zI_int]
  obtain ⟨q1, q2, q3, q4, q5, q6, q7⟩ := r3 _ rfl
  have s58M := s55.trans s58
  generalize (pgR C2 4 0 Y).1 = C3 at *
  rw [tX, tY] at q7
  rw [bne_self_eq_false, hK62]
  clear hK62 r1 r2 r3 K62
  simp only [condB_false]
  refine letP_i fun K64 hK64 => ?_
  have hc3 := s58.at'
  have hspr : sprC C3 = 0 := sprL_zero fun k => by have := ws_bnd q6 C3.g.bl.toNat k; omega
  have hlim : 0 ≤ limI C3 := by
    unfold limI
    rw [q1, q3]
    have e1 : iMul .i64 2 g.bl = 2 * g.bl := by rw [iMul, wrap_i64' (by omega) (by omega)]
    have e2 : iAdd .i64 g.tr (2 * g.bl) = g.tr + 2 * g.bl := by rw [iAdd, wrap_i64' (by omega) (by omega)]
    rw [e1, e2, iAdd, wrap_i64' (by omega) (by omega)]
    omega
  have fin : ∀ w : AV, w = (if s = t then sTwice else sNone) → K64 w := by
    intro w hw'
    rw [hK64]
    refine letP_i fun K74 hK74 => ?_
    refine (a_why M58 s58.wf p C3 hc3 q2).mono ?_
    rintro y M66 ⟨d, C4, rfl, hd, s66, r66, o66⟩
    have hdd : whyC C3 d = w := by
      rw [hw']
      unfold whyC
      by_cases hst : s = t
      · have : d = true := hd.2 (by rw [q7, hst]; simp)
        rw [if_pos this, if_pos hst]
      · have : ¬ d = true := fun e => hd.1 e (by rw [q7]; simp; omega)
        rw [if_neg this, if_neg hst, hspr, if_neg (fun h => by omega)]
    rw [hdd]
    refine bindO_i (str_same w (by rw [hw']; split; exact .inl rfl; exact .inr rfl)) ?_
    simp only [zB_bool, condB_false]
    have hoff : C4.off = false := r66.calm.off
    obtain ⟨p1, p2⟩ := o66.ops 2 q4 q5 (by omega)
    have harm : armR C4 1 0 0#8 = ({ C4 with cop := 1, cby := 0, cf := 0#8, turn := iAdd .i64 C4.ops 1 }, 0) := by
      unfold armR
      rw [if_neg (by rw [hoff]; simp), if_neg (by omega)]
    refine (c_arm M66 s66.wf p C4 s66.at' 1 0 0#8).mono ?_
    rintro y M70 ⟨rfl, s70⟩
    rw [harm] at s70 ⊢
    simp only [i64, zI_int]
    rw [bne_self_eq_false, hK74]
    clear hK74 K74
    simp only [condB_false]
    refine (c_read M70 s70.wf p _ s70.at' 0 0).mono ?_
    rintro y M76 ⟨u, rfl, _, _, s76⟩
    refine ⟨_, _, rfl, ?_⟩
    refine letP_i fun K88 hK88 => ?_
    have hg4 : C4.g = g := r66.g.trans q1
    have hopn : iAdd .i64 C4.ops 1 = C4.ops + 1 := by rw [iAdd, wrap_i64' (by omega) (by omega)]
    have hoffr : (rdC { C4 with cop := 1, cby := 0, cf := 0#8, turn := iAdd .i64 C4.ops 1 } 0 0).off = true := by
      have ha : askd { C4 with cop := 1, cby := 0, cf := 0#8, turn := iAdd .i64 C4.ops 1 } 0 0 = 0 := by
        unfold askd
        show (if C4.off = true then (9 : Int) else if isG C4.g 0 0 = true then 0 else 2) = 0
        rw [hoff, hg4, if_neg (by simp), if_pos (isG_iff.2 ⟨⟨by omega, by omega⟩, by omega, by omega⟩)]
      have hbn : bgn { C4 with cop := 1, cby := 0, cf := 0#8, turn := iAdd .i64 C4.ops 1 } = true := by
        unfold bgn
        show (!(iAdd .i64 C4.ops 1 == 0) && !(iAdd .i64 C4.ops 1 != iAdd .i64 C4.ops 1)) = true
        rw [hopn, bne_self_eq_false]
        have : (C4.ops + 1 == 0) = false := by
          rw [beq_eq_false_iff_ne]; omega
        rw [this]; rfl
      unfold rdC
      rw [if_pos ha]
      unfold bgC
      rw [hbn]; rfl
    refine (a_off M76 s76.wf p _ s76.at' hoffr).mono ?_
    rintro y N ⟨rfl, rfl⟩
    rw [str_off, bindO_some]
    simp only [zB_bool, condB_true]
    refine (a_awake N s76.wf).mono ?_
    rintro y N3 rfl
    simp only [zB_bool]
    rw [hK88]
  clear hK64
  refine condB_i (fun h => ?_) (fun h => ?_)
  · have h : s = t := Int.ofNat.inj (eq_of_beq h)
    exact fin _ (by rw [if_pos h])
  · have h : ¬ s = t := fun e => by rw [e] at h; simp at h
    exact fin _ (by rw [if_neg h])

end Go.Proofs.Ytjffimbigamadaa
