import Derived.Test.YtgoehfelpekhcaaGreatDoorPF
set_option linter.unusedSimpArgs false
set_option linter.unusedVariables false
set_option linter.unusedSectionVars false
/- PlayMany: of more events than are played the first ones are. -/
set_option maxRecDepth 100000
namespace Go.Proofs.YtgoehfelpekhcaaGreatDoor
open Go.AM

theorem pt32 : tb.ty.get 32 = some ⟨.st [(0, 1, false), (1, 1, false), (2, 1, false), (3, 1, false), (4, 1, false)], 5, 88, [.int .i64 0, .int .i64 0, .slice none 0 0, .slice none 0 0, .slice none 0 0], some [23, 3, 27, 28, 30]⟩ := by kernel_rfl
theorem pt48 : tb.ty.get 48 = some ⟨.st [(0, 1, false), (1, 6, true), (7, 3, true)], 10, 112, [.int .i64 0, .int .i64 0, .int .i64 0, .int .i64 0, .string ⟨#[]⟩, .complex .f64 0 0, .slice none 0 0, .int .i64 0, .int .i64 0, .int .u8 0], some [3, 36, 46]⟩ := by kernel_rfl
theorem pt51 : tb.ty.get 51 = some ⟨.sli 48, 1, 24, [.slice none 0 0], none⟩ := by kernel_rfl
theorem pt52 : tb.ty.get 52 = some ⟨.sli 32, 1, 24, [.slice none 0 0], none⟩ := by kernel_rfl
theorem pt55 : tb.ty.get 55 = some ⟨.st [(0, 1, false), (1, 1, false), (2, 1, false), (3, 1, false), (4, 1, false)], 5, 40, [.int .i64 0, .int .i64 0, .int .i64 0, .int .i64 0, .int .i64 0], some [3, 3, 3, 3, 3]⟩ := by kernel_rfl

theorem p_low (M : Mem) (z : Int) : CallA tb.P 17 [.val (.int .i64 z), .val (.int .i64 300)] M fun y N => ∃ q : Nat, q < 300 ∧ y = .val (.int .i64 (q : Int)) ∧ N = M := by
  refine F17_ok ?_
  unfold F17
  simp only [zI_int]
  have h3 : IntKind.wrap .u64 300 = 300 := by rw [wrap_u64]; rfl
  have hz : 0 ≤ IntKind.wrap .u64 z := by rw [wrap_u64]; omega
  rw [h3]
  generalize IntKind.wrap .u64 z = w at hz
  have e : eBin tb .rem 80 (.tmp 6) (.tmp 8) (.val (.int .u64 w)) (.val (.int .u64 300)) M = some (.val (.int .u64 ((w.toNat % 300 : Nat) : Int)), M) := by
    refine eBin_some ?_
    rw [evBin_int (by simp) (by simp)]
    have hnn : (300 : Int) ≠ 0 := by omega
    have e : w.tmod 300 = ((w.toNat % 300 : Nat) : Int) := by
      rw [Int.tmod_eq_emod_of_nonneg hz]; omega
    simp only [intBin, hnn, decide_false, cond_false, e, Option.map_some]
  refine bindO_i e ?_
  simp only [zI_int]
  refine ⟨w.toNat % 300, Nat.mod_lt _ (by omega), ?_, by trivial⟩
  rw [wrap_i64' (by omega) (by omega)]

theorem p_min (n : Nat) (M : Mem) : eMin tb #[3, 3] 3 [.int .i64 (n : Int), .int .i64 200] M = some (.val (.int .i64 ((min n 200 : Nat) : Int)), M) := by
  have : eMin tb #[3, 3] 3 [.int .i64 (n : Int), .int .i64 200] M = some (.val (.int .i64 (if (200 : Int) < (n : Int) then 200 else (n : Int))), M) := rfl
  rw [this]
  congr 4
  split <;> omega

theorem behind_wf {M : Mem} (hw : M.WF) {n : Nat} {L : List (Nat × Row)} (hL : bndL n L = true) : (behind M n L).WF := fun b r h => by
  show b < M.next + n
  rcases addRows_get _ _ _ h with ⟨b0, r0, rfl, h1, _⟩ | h1
  · have := (bndL_get hL h1).1; omega
  · have := hw b r h1; omega
theorem behind_old {M : Mem} (hw : M.WF) {n : Nat} {L : List (Nat × Row)} {b : Nat} {r : Row} (h : M.get b = some r) : (behind M n L).get b = some r := by
  show (addRows M.next L M.rows).get b = some r
  rw [addRows_old _ _ _ (hw b r h)]; exact h

theorem p_new (M : Mem) : CallA tb.P 39 [geo0, nil0] M fun y N => y = .ptr (M.next + 741) 0 ∧ N = behind M 742 newL :=
  new_fact.behind (fun ι ι' vs h => VRs.plain (fun x hx => by
    simp only [List.mem_cons, List.not_mem_nil, or_false] at hx
    rcases hx with rfl | rfl
    · exact geo_plain
    · exact .val _) h) (by kernel_rfl) new_bnd M

theorem p_step {M : Mem} {k : Nat} (h : Go.AM.Bears M k 742 newL) : CallA tb.P 13 [.ptr (k + 741) 0, .agg evC] M fun y N => y = .agg rpC ∧ N = M :=
  CallA.bears step_fact (by kernel_rfl) (plain_any rp_plain) new_bnd h

theorem ones_ev : ∀ v ∈ evC, v.one = true := by
  intro v hv
  simp only [evC, List.mem_cons, List.not_mem_nil, or_false] at hv
  rcases hv with rfl | rfl | rfl | rfl | rfl | rfl | rfl | rfl | rfl | rfl <;> rfl
theorem ones_rp : ∀ v ∈ rpC, v.one = true := by
  intro v hv
  simp only [rpC, List.mem_cons, List.not_mem_nil, or_false] at hv
  rcases hv with rfl | rfl | rfl | rfl | rfl <;> rfl

theorem p_nil {p : Nat} {M : Mem} {xo yo : Operand} : eBin tb .eql 43 xo yo (.ptr p 0) (.val (.pointer none)) M = some (.val (.bool false), M) := eBin_some (by kernel_rfl)

theorem p_run (M : Mem) (hw : M.WF) (x : AV) (n : Nat) (hn : n < 300) (h : GrK 10 M x n (repL evC n)) : CallA tb.P 18 [geo0, nil0, x] M fun y N => GrK 5 N y (min n 200) (repL rpC (min n 200)) ∧ N.WF := by
  refine F18_ok ?_
  unfold F18
  refine ⟨_, _, _, _, _, rfl, ?_⟩
  refine letP_i fun M6 hM6 => ?_
  have hw6 : M6.WF := by rw [hM6]; exact hw.new _
  have h6 : GrK 10 M6 x n (repL evC n) := h.mono fun c r _ hr => by
    rw [hM6, Mem.get_new, if_neg (by have := hw c r hr; omega)]; exact hr
  have hg6 : M6.get M.next = some (.cells [.val (.int .i64 8), .val (.int .i64 4), .val (.int .i64 32), .val (.int .i64 0), .val (.int .i64 2)] true) := by rw [hM6, Mem.get_new, if_pos rfl]
  refine bindO_i (eLd_some (ld_agg (n := 5) pt55 rfl rfl hg6 (by simp))) ?_
  refine ⟨_, _, _, _, _, rfl, ?_⟩
  refine (p_new M6).mono ?_
  rintro y13 M14 ⟨rfl, hM14⟩
  have hB : Go.AM.Bears M14 M6.next 742 newL := by rw [hM14]; exact Go.AM.Bears.behind _ _ _
  have hw14 : M14.WF := by rw [hM14]; exact behind_wf hw6 new_bnd
  have h14 : GrK 10 M14 x n (repL evC n) := h6.mono fun c r _ hr => by rw [hM14]; exact behind_old hw6 hr
  clear hM14 hg6 h6 hM6 h
  generalize M6.next = k at hB
  rw [p_nil, bindO_some]
  simp only [zB_bool, condB_false]
  refine bindO_i (eLen_some (h14.at.len pt51 rfl)) ?_
  simp only [zI_int]
  refine bindO_i (p_min n M14) ?_
  simp only [zI_int]
  have hmn : min n 200 ≤ n := Nat.min_le_left _ _
  generalize hm : min n 200 = m at hmn
  have hm2 : m ≤ 200 := by omega
  obtain ⟨y21, s1, s2, s3⟩ := SlAt.slice h14.at pt51 rfl pt48 rfl (lo := none) (hi := some (.val (.int .i64 (m : Int)))) (l := 0) (r := m) (k1 := .i64) (k2 := .i64) (.inl ⟨rfl, rfl⟩) (.inr rfl) (Nat.zero_le _) hmn
  rw [Nat.sub_zero, Nat.zero_mul, List.drop_zero] at s2
  refine bindO_i (eSl_some s1) ?_
  refine bindO_i (eLen_some (s2.len pt51 rfl)) ?_
  simp only [zI_int]
  refine ⟨fun x26 z27 q N => ∃ j : Nat, z27 = (j : Int) ∧ q = m - j ∧ j ≤ m ∧ GrK 5 N x26 j (repL rpC j) ∧ N.WF ∧ M14.next ≤ N.next ∧ (∀ b r, M14.get b = some r → N.get b = some r) ∧ ∀ c, inBlk x26 c → M14.next ≤ c,
    ⟨m, 0, rfl, rfl, Nat.zero_le _, .inl ⟨rfl, rfl, rfl⟩, hw14, Nat.le_refl _, fun _ _ h => h, fun c hc => hc.elim⟩, ?_⟩
  rintro _ x26 z27 q N ⟨j, rfl, rfl, hj, hg, hwN, hnN, hkN, hfx⟩
  refine condB_i (fun hlt => ?_) (fun hge => ?_)
  rotate_left
  · have hge : j = m := by have : ¬ (j : Int) < m := of_decide_eq_false hge; omega
    rw [← hge]
    exact ⟨hg, hwN⟩
  have hlt : j < m := Int.ofNat_lt.1 (of_decide_eq_true hlt)
  have s2N : SlAt 10 N y21 m ((repL evC n).take (m * 10)) := s2.mono fun b r _ hr => hkN b r hr
  obtain ⟨b, o, e1, e2, e3⟩ := SlAt.agg s2N pt51 rfl pt48 rfl rfl hlt
  refine bindO_i (e1 N) ?_
  simp only [zP_ptr]
  have hel : (((repL evC n).take (m * 10)).drop (j * 10)).take 10 = evC := by
    rw [List.drop_take, List.take_take, Nat.min_eq_left (by omega)]
    exact repL_at evC (n := n) (i := j) (by omega)
  rw [hel] at e3
  refine bindO_i e3 ?_
  refine ⟨_, _, _, _, _, _, _, _, _, _, rfl, ?_⟩
  refine letP_i fun M44 hM44 => ?_
  have hg44 : M44.get N.next = some (.cells [.val (.int .i64 0), .val (.int .i64 0), .val (.int .i64 0), .val (.int .i64 0), .val (.string ⟨#[]⟩), .val (.complex .f64 0 0), .val (.slice none 0 0), .val (.int .i64 0), .val (.int .i64 0), .val (.int .u8 0)] true) := by rw [hM44, Mem.get_new, if_pos rfl]
  refine bindO_i (eSt_some (st_all (vs := evC) pt48 rfl hg44 rfl ones_ev)) ?_
  have hM45 : M44.put N.next (.cells evC true) = N.new (.cells evC true) := by rw [hM44, Mem.new_put]
  rw [hM45]
  have hg45 : (N.new (.cells evC true)).get N.next = some (.cells evC true) := by rw [Mem.get_new, if_pos rfl]
  refine bindO_i (eLd_some (ld_agg (n := 10) pt48 rfl rfl hg45 (by simp))) ?_
  refine ⟨_, _, _, _, _, _, _, _, _, _, rfl, ?_⟩
  have hk45 : ∀ b r, M14.get b = some r → (N.new (.cells evC true)).get b = some r := fun b r hb => by
    have := hwN b r (hkN b r hb)
    rw [Mem.get_new, if_neg (by omega)]; exact hkN b r hb
  have hw45 : (N.new (.cells evC true)).WF := hwN.new _
  have hn45 : M14.next ≤ (N.new (.cells evC true)).next := by show M14.next ≤ N.next + 1; omega
  have hg5 : GrK 5 (N.new (.cells evC true)) x26 j (repL rpC j) := hg.mono fun c r _ hr => by
    rw [Mem.get_new, if_neg (by have := hwN c r hr; omega)]; exact hr
  clear hM45 hg45 hg44 hM44 e3 e1
  generalize N.new (.cells evC true) = M45 at hk45 hw45 hn45 hg5
  have hB45 : Go.AM.Bears M45 k 742 newL := ⟨fun b r hb => hk45 _ _ (hB.rows b r hb), Nat.le_trans hB.nxt hn45⟩
  refine (p_step hB45).mono ?_
  rintro y57 M58 ⟨rfl, hM58⟩
  rw [hM58]
  refine ⟨_, _, _, _, _, rfl, ?_⟩
  obtain ⟨x', N', g1, g2, g3, g4, g5, g6⟩ := GrK.grow pt52 pt32 rfl (by decide) (by decide) hw45 hg5 rpC rfl ones_rp (by omega)
  refine letP_i fun M64 hM64 => ?_
  rw [hM64]
  refine bindO_i g1 ?_
  refine ⟨m - (j + 1), by omega, j + 1, iInc (by omega), rfl, hlt, g2, g3, Nat.le_trans hn45 g4, fun b r hb => ?_, fun c hc => Nat.le_trans hn45 (g6 c hc)⟩
  have hb14 := hw14 b r hb
  rw [g5 b (by omega) (fun hm => by have := hfx b hm; omega)]
  exact hk45 b r hb

theorem play_many (M : Mem) (z : Int) : CallA tb.P 5 [.val (.int .i64 z)] M fun v _ => v = .val (.bool true) := by
  refine calla_wf fun hw => ?_
  refine F5_ok ?_
  unfold F5
  simp only [zI_int]
  refine (p_low M z).mono ?_
  rintro y2 M3 ⟨n, hn, rfl, hM3⟩
  rw [hM3]
  simp only [zI_int]
  refine ⟨fun x z8 q N => ∃ i : Nat, z8 = (i : Int) ∧ q = n - i ∧ i ≤ n ∧ GrK 10 N x i (repL evC i) ∧ N.WF, ⟨n, 0, rfl, rfl, Nat.zero_le _, .inl ⟨rfl, rfl, rfl⟩, hw⟩, ?_⟩
  rintro _ x z8 q N ⟨i, rfl, rfl, hi, hg, hwN⟩
  refine condB_i (fun hlt => ?_) (fun hge => ?_)
  · have hlt : i < n := Int.ofNat_lt.1 (of_decide_eq_true hlt)
    refine ⟨_, _, _, _, _, _, _, _, _, _, rfl, ?_⟩
    obtain ⟨x', N', g1, g2, g3, g4, g5, g6⟩ := GrK.grow pt51 pt48 rfl (by decide) (by decide) hwN hg evC rfl ones_ev (by omega)
    refine letP_i fun M21 hM21 => ?_
    rw [hM21]
    refine bindO_i g1 ?_
    exact ⟨n - (i + 1), by omega, i + 1, iInc (by omega), rfl, hlt, g2, g3⟩
  have hge : i = n := by have : ¬ (i : Int) < n := of_decide_eq_false hge; omega
  subst hge
  refine (small_fact N).mono ?_
  rintro y24 M25 ⟨rfl, hM25⟩
  rw [hM25]
  refine ⟨_, _, _, _, _, rfl, ?_⟩
  refine (p_run N hwN x i hn hg).mono ?_
  rintro y31 M32 ⟨hr, hw32⟩
  generalize hm : min i 200 = m at hr
  refine ⟨fun z35 q P => ∃ j : Nat, z35 = (j : Int) ∧ q = m - j ∧ j ≤ m ∧ P = M32, ⟨m, 0, rfl, rfl, Nat.zero_le _, rfl⟩, ?_⟩
  rintro _ z35 q P ⟨j, rfl, rfl, hj, rfl⟩
  refine bindO_i (eLen_some (hr.at.len pt52 rfl)) ?_
  simp only [zI_int]
  refine condB_i (fun hlt => ?_) (fun hge => ?_)
  · have hlt : j < m := Int.ofNat_lt.1 (of_decide_eq_true hlt)
    obtain ⟨b, o, e1, e2, e3⟩ := SlAt.agg hr.at pt52 rfl pt32 rfl rfl hlt
    refine bindO_i (e1 _) ?_
    simp only [zP_ptr]
    have hel : ((repL rpC m).drop (j * 5)).take 5 = rpC := repL_at rpC (n := m) (i := j) hlt
    rw [hel] at e3
    refine bindO_i e3 ?_
    refine ⟨_, _, _, _, _, rfl, ?_⟩
    refine (same_fact _).mono ?_
    rintro y49 M50 ⟨rfl, hM50⟩
    rw [hM50]
    simp only [zB_bool]
    refine condB_i (fun h => by simp at h) (fun _ => ?_)
    exact ⟨m - (j + 1), by omega, j + 1, iInc (by omega), rfl, hlt, by trivial⟩
  · refine letP_i fun K hK => ?_
    refine bindO_i (eLen_some (hr.at.len pt52 rfl)) ?_
    simp only [zI_int]
    refine bindO_i (p_min i _) ?_
    simp only [zI_int]
    refine condB_i (fun _ => ?_) (fun h => ?_)
    · refine (play_awake _).mono ?_
      rintro y57 M58 ⟨rfl, hM58⟩
      simp only [zB_bool]
      rw [hK]
    · exfalso
      rw [hm] at h
      simp at h

end Go.Proofs.YtgoehfelpekhcaaGreatDoor
