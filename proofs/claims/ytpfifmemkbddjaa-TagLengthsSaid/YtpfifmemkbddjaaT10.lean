import Derived.Test.YtpfifmemkbddjaaT9
set_option linter.unusedSimpArgs false
set_option linter.unusedVariables false
/- TagLays, TagReads. -/
namespace Go.Proofs.Ytpfifmemkbddjaa
open Go.AM

theorem bool_eql (xo yo : Operand) (q : Bool) (N : Mem) (h : ∀ q : Bool, evBin tb .eql 4 xo yo (.val (.bool q)) (.val (.bool q)) = some (.val (.bool true))) : eBin tb .eql 4 xo yo (.val (.bool q)) (.val (.bool q)) N = some (.val (.bool true), N) := eBin_some (h q)

/-- What Lay answers, as two numbers. -/
theorem lay_two {M N : Mem} {d : List (BitVec 8)} {k p s e : Int} {y : AV} (h : LayPost M d k p s e y N) :
    ∃ (u : AV) (z : Int) (m : List (BitVec 8)), y = .tup [u, i64 z] ∧ Gr N u m ∧ m.length ≤ 80 ∧ (∀ c, inBlk u c → M.next ≤ c) ∧ z = (if okL d k p s e = true then 0 else 2) ∧ m = (if okL d k p s e = true then laid d k p s e else []) := by
  obtain ⟨_, h⟩ := h
  rcases h with ⟨h1, u, rfl, h2, h3⟩ | ⟨h1, rfl⟩
  · have h4 := h1
    unfold okL at h4
    rw [Bool.and_eq_true, decide_eq_true_eq] at h4
    exact ⟨u, 0, _, rfl, h2, by rw [laid_length]; omega, h3, by rw [if_pos h1], by rw [if_pos h1]⟩
  · exact ⟨_, 2, [], rfl, .inl ⟨rfl, rfl⟩, by simp, fun c hc => hc.elim, by rw [h1]; rfl, by rw [h1]; rfl⟩

theorem tag_lays (M : Mem) (hw : M.WF) (x : AV) (a : List (BitVec 8)) (hx : BytesAt M x a) (hal : a.length ≤ 9223372036854775807) (k p s e : Int) :
    CallA tb.P 6 [x, tagA k p s e] M fun v _ => v = .val (.bool true) := by
  refine F6_ok ?_
  unfold F6
  refine ⟨k, p, s, e, rfl, ?_⟩
  refine letP_i fun M5 hM5 => ?_
  have hM5' : M5 = M.new (.cells [i64 k, i64 p, i64 s, i64 e] true) := hM5
  obtain ⟨hw5, hk5, hg5⟩ := tag_box M hw k p s e
  rw [← hM5'] at hw5 hk5 hg5
  clear hM5 hM5'
  have hx5 : BytesAt M5 x a := SlAt.keep0 hx hw hk5
  refine bindO_i (eLen_some hx5.len) ?_
  simp only [zI_int]
  refine condB_i (fun _ => ?_) (fun ha => ?_)
  · refine (tag_awake M5 hw5).mono ?_
    rintro y N ⟨rfl, _⟩
    simp only [zB_bool]
  have ha : a.length ≤ 100 := by have : ¬ (a.length : Int) > 100 := by simpa using ha
                                 omega
  refine (lend M5 x a hw5 hx5 (by omega)).mono ?_
  rintro y M12 ⟨rfl, hM12⟩
  have hw12 : M12.WF := by rw [hM12]; exact hw5.new _
  have hk12 : Keep M5 M12 [] := by rw [hM12]; exact Keep.new hw5 _
  have hgl : M12.get M5.next = some (.cells (lent a) true) := by rw [hM12, Mem.get_new, if_pos rfl]
  have hg12 := hk12.get hw5 hg5 (by simp)
  have hx12 : BytesAt M12 x a := SlAt.keep0 hx5 hw5 hk12
  clear hM12
  obtain ⟨_, _, _, _, la⟩ := tag_ld hg12
  refine bindO_i (eLd_some la) ?_
  refine ⟨k, p, s, e, rfl, ?_⟩
  refine (t_lay M12 hw12 _ a k p s e (lent_at hgl) (by omega)).mono ?_
  rintro v M19 hv
  have hk19 := hv.1
  obtain ⟨u, z, m, rfl, hu, hml, hfu, hz, hm⟩ := lay_two hv
  refine ⟨u, z, rfl, ?_⟩
  have hg19 := hk19.get hw12 hg12 (by simp)
  have hgl19 := hk19.get hw12 hgl (by simp)
  have hx19 : BytesAt M19 x a := SlAt.keep0 hx12 hw12 hk19
  obtain ⟨_, _, _, _, la19⟩ := tag_ld hg19
  refine bindO_i (eLd_some la19) ?_
  refine ⟨k, p, s, e, rfl, ?_⟩
  refine (t_reflay M19 hk19.wf x a k p s e hx19 (by omega)).mono ?_
  rintro v2 M28 hv2
  have hk28 := hv2.1
  obtain ⟨u2, z2, m2, rfl, hu2, hml2, hfu2, hz2, hm2⟩ := lay_two hv2
  have hz12 : z2 = z := by rw [hz, hz2]
  have hm12 : m2 = m := by rw [hm, hm2]
  subst hz12 hm12
  refine ⟨u2, z2, rfl, ?_⟩
  have hg28 := hk28.get hk19.wf hg19 (by simp)
  have hgl28 := hk28.get hk19.wf hgl19 (by simp)
  have hx28 : BytesAt M28 x a := SlAt.keep0 hx19 hk19.wf hk28
  have hu28 : Gr M28 u m2 := hu.mono fun c r _ hc => hk28.get hk19.wf hc (by simp)
  have hw28 := hk28.wf
  have hn5 : M5.next < M12.next := hw12 _ _ hgl
  refine letP_i fun K61 hK61 => ?_
  -- what comes when all was alike
  have fin : ∀ N : Mem, Keep M28 N [] → K61 true N := by
    intro N hk
    rw [hK61]
    have huN : Gr N u m2 := hu28.mono fun c r _ hc => hk.get hw28 hc (by simp)
    refine (over_gr N hk.wf u m2 huN (by omega)).mono ?_
    rintro v N' hov
    simp only [letP_eq, condB_true]
    have hon : ∀ c, c < M12.next → ¬ onBlk u c := by
      intro c hc hb
      have hin : inBlk u c ∨ m2 = [] := by
        rcases hu with ⟨rfl, h⟩ | ⟨b, rfl, h1, _⟩
        · exact hb.elim
        · exact .inl ⟨by omega, hb⟩
      rcases hin with hin | hin
      · have := hfu c hin; omega
      · rcases hu with ⟨rfl, h⟩ | ⟨b, rfl, h1, _⟩
        · exact hb.elim
        · rw [hin] at h1; simp at h1
    have hglN : N'.get M5.next = some (.cells (lent a) true) := by
      have h1 := hk.get hw28 hgl28 (by simp)
      rw [hov.old M5.next (hk.wf _ _ h1) (hon _ hn5)]; exact h1
    have hxN : BytesAt N' x a := hov.keep hk.wf (SlAt.keep0 hx28 hw28 hk) fun c hc => hon c (by
      have := SlAt.blk_lt hx5 hw5 hc
      omega)
    refine (kept N' M5.next x a a hglN hxN (by omega)).mono ?_
    rintro v N2 ⟨rfl, rfl⟩
    simp only [zB_bool]
    refine condB_i (fun _ => ?_) (fun h => by simp at h)
    refine (tag_awake N2 hov.wf).mono ?_
    rintro v N3 ⟨rfl, _⟩
    simp only [zB_bool]
  refine (same_bytes M28 u u2 m2 m2 hu28.at hu2.at (by omega)).mono ?_
  rintro v N ⟨rfl, rfl⟩
  simp only [zB_bool]
  refine condB_i (fun _ => ?_) (fun h => by simp at h)
  refine (t_num' N z2).mono ?_
  rintro v N' ⟨rfl, rfl⟩
  simp only [i64, zI_int]
  refine condB_i (fun _ => ?_) (fun h => by simp at h)
  obtain ⟨_, _, _, _, la28⟩ := tag_ld hg28
  refine bindO_i (eLd_some la28) ?_
  refine ⟨k, p, s, e, rfl, ?_⟩
  refine bindO_i (eLd_some la28) ?_
  refine ⟨k, p, s, e, rfl, ?_⟩
  refine (t_may N' hw28 k p s e).mono ?_
  rintro v N1 ⟨rfl, hk1⟩
  simp only [zB_bool]
  have hg1 := hk1.get hw28 hg28 (by simp)
  obtain ⟨_, _, _, _, la1⟩ := tag_ld hg1
  refine ⟨bindO_i (eLd_some la1) rfl, ?_⟩
  refine (t_refmay N1 hk1.wf k p s e).mono ?_
  rintro v N2 ⟨rfl, hk2⟩
  simp only [zB_bool]
  have hge : eBin tb .eql 4 (.tmp 40) (.tmp 42) (.val (.bool (mayT k p s e))) (.val (.bool (mayT k p s e))) N2 = some (.val (.bool true), N2) :=
    bool_eql _ _ _ _ fun q => by cases q <;> kernel_rfl
  refine bindO_i hge ?_
  simp only [zB_bool, condB_true]
  have hk12 := hk1.trans0 hk2
  have hglN := hk12.get hw28 hgl28 (by simp)
  refine (kept N2 M5.next x a a hglN (SlAt.keep0 hx28 hw28 hk12) (by omega)).mono ?_
  rintro v N3 ⟨rfl, rfl⟩
  simp only [zB_bool]
  rw [show decide True = true from rfl]
  exact fin N3 hk12

theorem tag_reads (M : Mem) (hw : M.WF) (x : AV) (a : List (BitVec 8)) (hx : BytesAt M x a) (hal : a.length ≤ 9223372036854775807) :
    CallA tb.P 7 [x] M fun v _ => v = .val (.bool true) := by
  refine F7_ok ?_
  unfold F7
  refine bindO_i (eLen_some hx.len) ?_
  simp only [zI_int]
  refine condB_i (fun _ => ?_) (fun ha => ?_)
  · refine (tag_awake M hw).mono ?_
    rintro y N ⟨rfl, _⟩
    simp only [zB_bool]
  have ha : a.length ≤ 120 := by have : ¬ (a.length : Int) > 120 := by simpa using ha
                                 omega
  refine (lend M x a hw hx (by omega)).mono ?_
  rintro y M7 ⟨rfl, hM7⟩
  have hw7 : M7.WF := by rw [hM7]; exact hw.new _
  have hk7 : Keep M M7 [] := by rw [hM7]; exact Keep.new hw _
  have hgl : M7.get M.next = some (.cells (lent a) true) := by rw [hM7, Mem.get_new, if_pos rfl]
  have hx7 : BytesAt M7 x a := SlAt.keep0 hx hw hk7
  clear hM7
  refine (t_read M7 hw7 _ a (lent_at hgl) (by omega)).mono ?_
  rintro v M9 ⟨hk9, hv⟩
  -- what is read, as one
  obtain ⟨u, m, k, p, s, e, hveq, hu, hml, hfu, hkk⟩ : ∃ (u : AV) (m : List (BitVec 8)) (k p s e : Int), v = .tup [u, tagA k p s e, i64 (state a)] ∧ Gr M9 u m ∧ m.length ≤ 120 ∧ (∀ c, inBlk u c → M7.next ≤ c) ∧
      ((state a = 1 ∧ m = a.take (a.length - 16) ∧ k = fK (a.drop (a.length - 16)) ∧ p = fP (a.drop (a.length - 16)) ∧ s = fS (a.drop (a.length - 16)) ∧ e = fE (a.drop (a.length - 16))) ∨ (state a ≠ 1 ∧ m = [] ∧ k = 0 ∧ p = 0 ∧ s = 0 ∧ e = 0)) := by
    rcases hv with ⟨h1, u, h2, h3, h4⟩ | ⟨h1, h2⟩
    · exact ⟨u, _, _, _, _, _, by rw [h2, h1]; rfl, h3, by simp; omega, h4, .inl ⟨h1, rfl, rfl, rfl, rfl, rfl⟩⟩
    · exact ⟨_, [], 0, 0, 0, 0, h2, .inl ⟨rfl, rfl⟩, by simp, fun c h => h.elim, .inr ⟨h1, rfl, rfl, rfl, rfl, rfl⟩⟩
  subst hveq
  refine ⟨u, k, p, s, e, (state a : Int), rfl, ?_⟩
  refine box_tag hk9.wf k p s e fun M17 hM17 => ?_
  have hw17 : M17.WF := by rw [hM17]; exact hk9.wf.new _
  have hk17 : Keep M9 M17 [] := by rw [hM17]; exact Keep.new hk9.wf _
  have hg17 : M17.get M9.next = some (.cells [i64 k, i64 p, i64 s, i64 e] true) := by rw [hM17, Mem.get_new, if_pos rfl]
  clear hM17
  have hx17 : BytesAt M17 x a := SlAt.keep0 (SlAt.keep0 hx7 hw7 hk9) hk9.wf hk17
  refine (t_refread M17 hw17 x a hx17 (by omega)).mono ?_
  rintro v2 M19 ⟨hk19, hv2⟩
  obtain ⟨u2, hveq2, hu2⟩ : ∃ (u2 : AV), v2 = .tup [u2, tagA k p s e, i64 (state a)] ∧ Gr M19 u2 m := by
    rcases hv2 with ⟨h1, u2, h2, h3, h4⟩ | ⟨h1, h2⟩
    · rcases hkk with ⟨_, rfl, rfl, rfl, rfl, rfl⟩ | ⟨hn, _⟩
      · exact ⟨u2, by rw [h2, h1]; rfl, h3⟩
      · exact absurd h1 hn
    · rcases hkk with ⟨hn, _⟩ | ⟨_, rfl, rfl, rfl, rfl, rfl⟩
      · exact absurd hn h1
      · exact ⟨_, h2, .inl ⟨rfl, rfl⟩⟩
  subst hveq2
  refine ⟨u2, k, p, s, e, (state a : Int), rfl, ?_⟩
  refine box_tag hk19.wf k p s e fun M27 hM27 => ?_
  have hw27 : M27.WF := by rw [hM27]; exact hk19.wf.new _
  have hk27 : Keep M19 M27 [] := by rw [hM27]; exact Keep.new hk19.wf _
  have hg27 : M27.get M19.next = some (.cells [i64 k, i64 p, i64 s, i64 e] true) := by rw [hM27, Mem.get_new, if_pos rfl]
  clear hM27
  have hg27a : M27.get M9.next = some (.cells [i64 k, i64 p, i64 s, i64 e] true) := hk27.get hk19.wf (hk19.get hw17 hg17 (by simp)) (by simp)
  have hk727 : Keep M7 M27 [] := ((hk9.trans0 hk17).trans0 hk19).trans0 hk27
  have hgl27 := hk727.get hw7 hgl (by simp)
  have hx27 : BytesAt M27 x a := SlAt.keep0 hx7 hw7 hk727
  have hu27 : Gr M27 u m := hu.mono fun c r _ hc => ((hk17.trans0 hk19).trans0 hk27).get hk9.wf hc (by simp)
  have hu27b : Gr M27 u2 m := hu2.mono fun c r _ hc => hk27.get hk19.wf hc (by simp)
  refine (kept M27 M.next x a a hgl27 hx27 (by omega)).mono ?_
  rintro v N ⟨rfl, rfl⟩
  simp only [zB_bool]
  refine (over_lent N hw27 M.next a hgl27 (by omega)).mono ?_
  rintro v N2 hov
  have hn7 : M.next < M7.next := hw7 _ _ hgl
  have h79 := hk9.nxt
  have h917 := hk17.nxt
  have h1719 := hk19.nxt
  have hstay : ∀ c r, c ≠ M.next → N.get c = some r → N2.get c = some r := fun c r hc hr => by
    rw [hov.old c (hw27 c r hr) (fun h => hc h.symm)]; exact hr
  have huN : Gr N2 u m := hu27.mono fun c r hin hc => hstay c r (by have := hfu c hin; omega) hc
  have hu2N : Gr N2 u2 m := hu27b.mono fun c r hin hc => hstay c r (by
    intro he
    subst he
    -- the second answer's block is not the lent one
    rcases hv2 with ⟨h1, u3, h2, h3, h4⟩ | ⟨h1, h2⟩
    · injection h2 with h2
      injection h2 with h2 _
      subst h2
      have := h4 M.next hin
      omega
    · injection h2 with h2
      injection h2 with h2 _
      subst h2
      exact hin.elim) hc
  have hgN := hstay _ _ (by omega) hg27
  have hgNa := hstay _ _ (by omega) hg27a
  simp only [letP_eq]
  refine (same_bytes N2 u u2 m m huN.at hu2N.at (by omega)).mono ?_
  rintro v N3 ⟨rfl, rfl⟩
  simp only [zB_bool]
  refine condB_i (fun _ => ?_) (fun h => by simp at h)
  obtain ⟨_, _, _, _, l1⟩ := tag_ld hgNa
  obtain ⟨_, _, _, _, l2⟩ := tag_ld hgN
  refine bindO_i (eLd_some l1) ?_
  refine ⟨k, p, s, e, rfl, ?_⟩
  refine bindO_i (eLd_some l2) ?_
  refine ⟨k, p, s, e, rfl, ?_⟩
  refine bindO_i (eq_tag _ _ k p s e k p s e _) ?_
  simp only [zB_bool]
  refine condB_i (fun _ => ?_) (fun h => by simp at h)
  refine condB_i (fun _ => ?_) (fun h => by simp at h)
  refine condB_i (fun _ => ?_) (fun h => by simp at h)
  refine (tag_awake N3 hov.wf).mono ?_
  rintro v N4 ⟨rfl, _⟩
  simp only [zB_bool]

end Go.Proofs.Ytpfifmemkbddjaa
