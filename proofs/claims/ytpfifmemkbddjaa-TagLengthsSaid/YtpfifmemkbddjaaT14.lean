import Derived.Test.YtpfifmemkbddjaaT13
set_option linter.unusedSimpArgs false
set_option linter.unusedVariables false
/- TagLengths. -/
namespace Go.Proofs.Ytpfifmemkbddjaa
open Go.AM

/-- Without its last byte a page is none: its kind would be 74. -/
theorem short_not {d : List (BitVec 8)} {k p s e : Int} (h : 1 ≤ d.length) : valid ((laid d k p s e).take ((laid d k p s e).length - 1)) = false := by
  refine Bool.eq_false_iff.2 fun hv => ?_
  obtain ⟨_, _, _, a4⟩ := valid_parts hv
  have hk : fK (((laid d k p s e).take ((laid d k p s e).length - 1)).drop (((laid d k p s e).take ((laid d k p s e).length - 1)).length - 16)) = 74 := by
    unfold fK
    rw [getD_drop, List.length_take, laid_length, List.getD_eq_getElem?_getD, List.getElem?_take, if_pos (by omega), laid_eq, List.getElem?_append_right (by omega), show min (d.length + 16 - 1) (d.length + 16) - 16 + 1 - d.length = 0 by omega]
    rfl
  rw [hk] at a4
  unfold mayT at a4
  simp only [decide_eq_true_eq] at a4
  omega

/-- With a byte more a page is none: it would begin with its kind. -/
theorem long_not {d : List (BitVec 8)} {k p s e : Int} (h : mayT k p s e = true) : valid (laid d k p s e ++ [0#8]) = false := by
  refine Bool.eq_false_iff.2 fun hv => ?_
  obtain ⟨a1, _⟩ := valid_parts hv
  rw [List.length_append, laid_length, List.length_singleton, List.getD_eq_getElem?_getD, List.getElem?_append_left (by rw [laid_length]; omega), laid_eq, List.getElem?_append_right (by omega),
    show d.length + 16 + 1 - 16 + 0 - d.length = 1 by omega] at a1
  have hk : BitVec.ofInt 8 k = 74#8 := a1
  unfold mayT at h
  simp only [decide_eq_true_eq] at h
  have h2 := congrArg BitVec.toNat hk
  have h3 : ((BitVec.ofInt 8 k).toNat : Int) = k := by
    rw [← wrap_ofInt, wrap_u8]; omega
  rw [h2] at h3
  have h4 : (74#8).toNat = 74 := rfl
  rw [h4] at h3
  omega

theorem tag_lengths (M : Mem) (hw : M.WF) (x : AV) (a : List (BitVec 8)) (hx : BytesAt M x a) (hal : a.length ≤ 9223372036854775807) (k p s e : Int) :
    CallA tb.P 11 [x, tagA k p s e] M fun v _ => v = .val (.bool true) := by
  refine F11_ok ?_
  unfold F11
  refine ⟨k, p, s, e, rfl, ?_⟩
  refine letP_i fun M5 hM5 => ?_
  have hM5' : M5 = M.new (.cells [i64 k, i64 p, i64 s, i64 e] true) := hM5
  obtain ⟨hw5, hk5, hg5⟩ := tag_box M hw k p s e
  rw [← hM5'] at hw5 hk5 hg5
  clear hM5 hM5'
  have hx5 : BytesAt M5 x a := SlAt.keep0 hx hw hk5
  have hxlt : ∀ c, inBlk x c → c < M.next := fun c hc => SlAt.blk_lt hx hw hc
  have hbox : M.next < M5.next := hw5 _ _ hg5
  refine bindO_i (eLen_some hx5.len) ?_
  simp only [zI_int]
  refine condB_i (fun _ => ?_) (fun ha => ?_)
  · refine (tag_awake M5 hw5).mono ?_
    rintro y N ⟨rfl, _⟩
    simp only [zB_bool]
  have ha : a.length ≤ 100 := by have : ¬ (a.length : Int) > 100 := by simpa using ha
                                 omega
  obtain ⟨_, _, _, _, la⟩ := tag_ld hg5
  refine bindO_i (eLd_some la) ?_
  refine ⟨k, p, s, e, rfl, ?_⟩
  refine (t_lay M5 hw5 x a k p s e hx5 (by omega)).mono ?_
  rintro v N ⟨hkN, hv⟩
  have hwN := hkN.wf
  have hxN : BytesAt N x a := SlAt.keep0 hx5 hw5 hkN
  have hgN := hkN.get hw5 hg5 (by simp)
  rcases hv with ⟨hok, u, rfl, hu, hfu⟩ | ⟨hok, rfl⟩
  rotate_left
  · refine ⟨_, 2, rfl, condB_i (fun _ => ?_) (fun h => by simp at h)⟩
    refine letP_i fun K hK => ?_
    obtain ⟨_, _, _, _, l1⟩ := tag_ld hgN
    refine bindO_i (eLd_some l1) ?_
    refine ⟨k, p, s, e, rfl, ?_⟩
    refine (t_may N hwN k p s e).mono ?_
    rintro v N1 ⟨rfl, hk1⟩
    simp only [zB_bool]
    have hx1 : BytesAt N1 x a := SlAt.keep0 hxN hwN hk1
    have aw : CallA tb.P 20 [] N1 fun y M => zB y fun b => K b M := by
      refine (tag_awake N1 hk1.wf).mono ?_
      rintro y N ⟨rfl, _⟩
      rw [hK]
      simp only [zB_bool]
    refine condB_i (fun hm => ?_) (fun _ => aw)
    refine bindO_i (eLen_some hx1.len) ?_
    simp only [zI_int]
    refine condB_i (fun h24 => ?_) (fun _ => aw)
    refine bindO_i (eLen_some hx1.len) ?_
    simp only [zI_int]
    refine condB_i (fun _ => aw) (fun h64 => ?_)
    exfalso
    unfold okL at hok
    rw [hm, Bool.and_true, decide_eq_false_iff_not] at hok
    have h1 : (24 : Int) ≤ (a.length : Int) := by simpa using h24
    have h2 : (a.length : Int) ≤ 64 := by simpa using h64
    omega
  refine ⟨u, 0, rfl, condB_i (fun h => by simp at h) (fun _ => ?_)⟩
  have hal : (24 ≤ a.length ∧ a.length ≤ 64) ∧ mayT k p s e = true := by
    have := hok
    unfold okL at this
    rw [Bool.and_eq_true, decide_eq_true_eq] at this
    exact this
  have hln : (laid a k p s e).length = a.length + 16 := laid_length _ _ _ _ _
  refine bindO_i (eLen_some hu.at.len) ?_
  simp only [zI_int]
  refine bindO_i (eLen_some hxN.len) ?_
  simp only [zI_int]
  have e16 : iAdd .i64 (a.length : Int) 16 = ((a.length + 16 : Nat) : Int) := by rw [iAdd, wrap_i64' (by omega) (by omega)]; rfl
  rw [e16, hln, bne_self_eq_false]
  simp only [condB_false]
  refine bindO_i (eLen_some hu.at.len) ?_
  simp only [zI_int]
  have e1 : iSub .i64 ((laid a k p s e).length : Int) 1 = (((laid a k p s e).length - 1 : Nat) : Int) := by rw [iSub, wrap_i64' (by omega) (by omega)]; omega
  rw [e1]
  obtain ⟨y, hsl, hy⟩ := hu.at.slice (lo := none) (hi := some (.val (.int .i64 (((laid a k p s e).length - 1 : Nat) : Int)))) (a := 0) (r := (laid a k p s e).length - 1) (.inl ⟨rfl, rfl⟩) (.inr rfl) (by omega) (by omega)
  rw [List.drop_zero] at hy
  refine bindO_i (eSl_some hsl) ?_
  have hs1 : state ((laid a k p s e).take ((laid a k p s e).length - 1)) ≠ 1 := state_ne (short_not (by omega))
  have hs2 : state (laid a k p s e ++ [0#8]) ≠ 1 := state_ne (long_not hal.2)
  refine (t_read N hwN y _ hy (by simp; omega)).mono ?_
  rintro v N1 hr1
  obtain ⟨d1, m1, k1, p1, s1, e1', rfl, _⟩ := read_parts hr1
  have hk1 := hr1.1
  refine ⟨_, k1, p1, s1, e1', _, rfl, ?_⟩
  refine box_tag hk1.wf k1 p1 s1 e1' fun N2 hN2 => ?_
  have hk2 : Keep N N2 [] := hk1.trans0 (by rw [hN2]; exact Keep.new hk1.wf _)
  clear hN2
  -- one byte more
  have hu2 : BytesAt N2 u (laid a k p s e) := SlAt.keep0 hu.at hwN hk2
  obtain ⟨c, N3, hap, hc, hg3, _⟩ := Gr.grow (x := .val (.slice none 0 0)) (l := []) hk2.wf (.inl ⟨rfl, rfl⟩) hu2 (by omega) (by simp; omega)
  refine bindO_i hap ?_
  rw [List.nil_append] at hc
  have hk3 : Keep N2 N3 [] := ⟨hg3.wf, hg3.nxt, fun b hb _ => hg3.old b hb (fun h => h.elim)⟩
  refine letP_i fun M62 hM62 => ?_
  subst hM62
  obtain ⟨c', N4, hap4, hc4, hg4⟩ := Gr.lit (x := c) hk3.wf hc [0#8] (by simp) (by simp; omega)
  refine bindO_i (show evAppend tb 22 22 c (.sl N3.next 0 1 1 none) (N3.new (.cells [.val (.int .u8 0)] true)) = some (c', N4) from hap4) ?_
  have hcn : ∀ b, inBlk c b → N2.next ≤ b := fun b hb => by
    rcases hg3.blk b hb with h | h
    · exact h
    · exact h.elim
  have hk4 : Keep N2 N4 [] := ⟨hg4.wf, Nat.le_trans hk3.nxt hg4.nxt, fun b hb _ => by
    rw [hg4.old b (Nat.lt_of_lt_of_le hb hk3.nxt) (fun h => by have := hcn b h; omega)]
    exact hk3.old b hb (by simp)⟩
  refine (t_read N4 hk4.wf c' _ hc4.at (by simp; omega)).mono ?_
  rintro v N5 hr5
  obtain ⟨d5, m5, k5, p5, s5, e5', rfl, _⟩ := read_parts hr5
  have hk5' := hr5.1
  refine ⟨_, k5, p5, s5, e5', _, rfl, ?_⟩
  refine box_tag hk5'.wf k5 p5 s5 e5' fun N6 hN6 => ?_
  have hk6 : Keep N N6 [] := hk2.trans0 (hk4.trans0 (hk5'.trans0 (by rw [hN6]; exact Keep.new hk5'.wf _)))
  clear hN6
  have hx6 : BytesAt N6 x a := SlAt.keep0 hxN hwN hk6
  have hu6 : BytesAt N6 u (laid a k p s e) := SlAt.keep0 hu.at hwN hk6
  have hg6 := hk6.get hwN hgN (by simp)
  have hult : ∀ b, inBlk u b → b < N6.next := fun b hb => SlAt.blk_lt hu6 hk6.wf hb
  have hxlt6 : ∀ b, inBlk x b → b < N6.next := fun b hb => SlAt.blk_lt hx6 hk6.wf hb
  have hb6 := hk6.wf _ _ hg6
  refine ⟨fun z q P => ∃ i : Nat, z = i ∧ q = 3 - i ∧ i ≤ 3 ∧ P.WF ∧ BytesAt P x a ∧ BytesAt P u (laid a k p s e) ∧ P.get M.next = some (.cells [i64 k, i64 p, i64 s, i64 e] true) ∧ N6.next ≤ P.next, ⟨3, 0, rfl, rfl, by omega, hk6.wf, hx6, hu6, hg6, Nat.le_refl _⟩, ?_⟩
  rintro _ z q P ⟨i, rfl, rfl, hi, hPw, hPx, hPu, hPg, hPn⟩
  refine condB_i (fun hlt => ?_) (fun hge => ?_)
  · have hlt : i < 3 := by have : (i : Int) < 3 := by simpa using hlt
                           omega
    refine (t_read P hPw u _ hPu (by omega)).mono ?_
    rintro v P1 hr
    obtain ⟨w, rfl, hwd, hfw⟩ := read_laid hok hr
    have hkP := hr.1
    refine ⟨w, k, p, s, e, 1, rfl, ?_⟩
    refine box_tag hkP.wf k p s e fun P2 hP2 => ?_
    have hk2' : Keep P1 P2 [] := by rw [hP2]; exact Keep.new hkP.wf _
    have hg2' : P2.get P1.next = some (.cells [i64 k, i64 p, i64 s, i64 e] true) := by rw [hP2, Mem.get_new, if_pos rfl]
    clear hP2
    have hkP2 := hkP.trans0 hk2'
    have hx2' : BytesAt P2 x a := SlAt.keep0 hPx hPw hkP2
    have hu2' : BytesAt P2 u (laid a k p s e) := SlAt.keep0 hPu hPw hkP2
    have hgb := hkP2.get hPw hPg (by simp)
    have hwd2 : Gr P2 w a := hwd.mono fun b r _ hc => hk2'.get hkP.wf hc (by simp)
    refine letP_i fun K hK => ?_
    refine condB_i (fun h => by simp at h) (fun _ => ?_)
    obtain ⟨_, _, _, _, l1⟩ := tag_ld hg2'
    refine bindO_i (eLd_some l1) ?_
    refine ⟨k, p, s, e, rfl, ?_⟩
    obtain ⟨_, _, _, _, l2⟩ := tag_ld hgb
    refine bindO_i (eLd_some l2) ?_
    refine ⟨k, p, s, e, rfl, ?_⟩
    refine bindO_i (ne_tag _ _ k p s e k p s e _) ?_
    simp only [zB_bool]
    refine condB_i (fun h => by simp at h) (fun _ => ?_)
    refine (same_bytes P2 w x a a hwd2.at hx2' (by omega)).mono ?_
    rintro v P3 ⟨rfl, rfl⟩
    simp only [zB_bool]
    rw [hK]
    refine condB_i (fun h => by simp at h) (fun _ => ?_)
    refine (over_gr P3 hk2'.wf w a hwd2 (by omega)).mono ?_
    rintro v P4 hov
    have hon : ∀ b, onBlk w b → P.next ≤ b := by
      intro b hb
      rcases hwd with ⟨rfl, _⟩ | ⟨c, rfl, h1, _⟩
      · exact hb.elim
      · exact hfw b ⟨by omega, hb⟩
    refine ⟨3 - (i + 1), by omega, i + 1, iInc (by omega), rfl, hlt, hov.wf, ?_, ?_, ?_, Nat.le_trans hPn (Nat.le_trans hkP2.nxt hov.nxt)⟩
    · exact hov.keep hk2'.wf hx2' fun b hb hin => by
        have := hon b hin
        have := hxlt6 b hb
        omega
    · exact hov.keep hk2'.wf hu2' fun b hb hin => by
        have := hon b hin
        have := hult b hb
        omega
    · rw [hov.old _ (hk2'.wf _ _ hgb) (fun hin => by have := hon _ hin; omega)]
      exact hgb
  · refine letP_i fun K hK => ?_
    subst hK
    refine condB_i (fun _ => ?_) (fun h => ?_)
    rotate_left
    · exfalso
      have : ((state ((laid a k p s e).take ((laid a k p s e).length - 1)) : Nat) : Int) = 1 := by simpa using h
      omega
    refine condB_i (fun _ => ?_) (fun h => ?_)
    rotate_left
    · exfalso
      have : ((state (laid a k p s e ++ [0#8]) : Nat) : Int) = 1 := by simpa using h
      omega
    refine (tag_awake P hPw).mono ?_
    rintro y N ⟨rfl, _⟩
    simp only [zB_bool]

end Go.Proofs.Ytpfifmemkbddjaa
