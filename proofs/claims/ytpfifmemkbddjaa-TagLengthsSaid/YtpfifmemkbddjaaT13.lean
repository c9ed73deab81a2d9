import Derived.Test.YtpfifmemkbddjaaT12
set_option linter.unusedSimpArgs false
set_option linter.unusedVariables false
/- TagTorn. -/
namespace Go.Proofs.Ytpfifmemkbddjaa
open Go.AM

theorem torn_not {l : List (BitVec 8)} {n : Nat} (h : 0 < n) (hl : 16 ≤ l.length + n) : valid (l ++ List.replicate n 255#8) = false := by
  refine Bool.eq_false_iff.2 fun hv => ?_
  obtain ⟨_, a2, _⟩ := valid_parts hv
  rw [List.getD_eq_getElem?_getD, List.getElem?_append_right (by simp; omega), List.getElem?_replicate, if_pos (by simp; omega)] at a2
  exact absurd a2 (by decide)

theorem equal_not (b : BitVec 8) {n : Nat} (hl : 16 ≤ n) : valid (List.replicate n b) = false := by
  refine Bool.eq_false_iff.2 fun hv => ?_
  obtain ⟨a1, a2, _⟩ := valid_parts hv
  rw [List.getD_eq_getElem?_getD, List.getElem?_replicate, if_pos (by simp; omega)] at a1 a2
  simp only [Option.getD_some] at a1 a2
  rw [a1] at a2
  exact absurd a2 (by decide)

theorem equal_state (b : BitVec 8) {n : Nat} (h : 40 ≤ n) (h2 : n ≤ 80) : state (List.replicate n b) = if b = 255#8 then 0 else 2 := by
  have hl : lenOk (List.replicate n b) = true := by unfold lenOk; simpa using And.intro h h2
  unfold state
  rw [hl, equal_not b (by omega), if_pos rfl]
  by_cases hb : b = 255#8
  · have hf : allFF (List.replicate n b) = true := by
      unfold allFF
      rw [List.all_eq_true]
      intro c hc
      rw [List.eq_of_mem_replicate hc]
      simpa using hb
    rw [if_pos hb, if_pos hf]
  · have hf : allFF (List.replicate n b) = false := by
      refine allFF_false (i := 0) (by simp; omega) ?_
      rw [List.getD_eq_getElem?_getD, List.getElem?_replicate, if_pos (by omega)]
      exact hb
    rw [if_neg hb, hf]; rfl

theorem eq255 (b : BitVec 8) : ((b.toNat : Int) == 255) = decide (b = 255#8) := by
  have := ne_u8 b 255 (by omega)
  have h2 : ((b.toNat : Int) != ((255 : Nat) : Int)) = !((b.toNat : Int) == 255) := rfl
  rw [h2] at this
  rw [← Bool.not_not ((b.toNat : Int) == 255), this]
  simp

theorem tag_torn (M : Mem) (hw : M.WF) (x : AV) (a : List (BitVec 8)) (hx : BytesAt M x a) (hal : a.length ≤ 9223372036854775807) (k p s e : Int) (at' : Int) (fill : BitVec 8) :
    CallA tb.P 8 [x, tagA k p s e, .val (.int .i64 at'), .val (.int .u8 (fill.toNat : Int))] M fun v _ => v = .val (.bool true) := by
  refine F8_ok ?_
  unfold F8
  refine ⟨k, p, s, e, rfl, ?_⟩
  simp only [zI_int]
  refine letP_i fun M5 hM5 => ?_
  have hM5' : M5 = M.new (.cells [i64 k, i64 p, i64 s, i64 e] true) := hM5
  obtain ⟨hw5, hk5, hg5⟩ := tag_box M hw k p s e
  rw [← hM5'] at hw5 hk5 hg5
  clear hM5 hM5'
  have hx5 : BytesAt M5 x a := SlAt.keep0 hx hw hk5
  refine bindO_i (eLen_some hx5.len) ?_
  simp only [zI_int]
  refine condB_i (fun _ => ?_) (fun ha => ?_)
  · refine (tag_awake M5 hw5).mono ?_
    rintro y N ⟨rfl, _⟩
    simp only [zB_bool]
  have ha : a.length ≤ 100 := by have : ¬ (a.length : Int) > 100 := by simpa using ha
                                 omega
  obtain ⟨_, _, _, _, la⟩ := tag_ld hg5
  refine bindO_i (eLd_some la) ?_
  refine ⟨k, p, s, e, rfl, ?_⟩
  refine (t_lay M5 hw5 x a k p s e hx5 (by omega)).mono ?_
  rintro v N ⟨hkN, hv⟩
  have hwN := hkN.wf
  rcases hv with ⟨hok, u, rfl, hu, hfu⟩ | ⟨hok, rfl⟩
  rotate_left
  · refine ⟨_, 2, rfl, condB_i (fun _ => ?_) (fun h => by simp at h)⟩
    refine letP_i fun K hK => ?_
    subst hK
    refine bindO_i (eLen_some (BytesAt.len (M := N) (l := []) SlAt.nil)) ?_
    simp only [zI_int]
    refine condB_i (fun _ => ?_) (fun h => by simp at h)
    refine (tag_awake N hwN).mono ?_
    rintro y N ⟨rfl, _⟩
    simp only [zB_bool]
  refine ⟨u, 0, rfl, condB_i (fun h => by simp at h) (fun _ => ?_)⟩
  have hal : 24 ≤ a.length ∧ a.length ≤ 64 := by
    have := hok
    unfold okL at this
    rw [Bool.and_eq_true, decide_eq_true_eq] at this
    exact this.1
  have hln : 40 ≤ (laid a k p s e).length ∧ (laid a k p s e).length ≤ 80 := by simp; omega
  have hlast : (laid a k p s e).getD ((laid a k p s e).length - 1) 0#8 = 0#8 := by
    have := (valid_parts (laid_valid hok)).2.1
    rwa [show (laid a k p s e).length - 16 + 15 = (laid a k p s e).length - 1 by omega] at this
  generalize hL : laid a k p s e = l at *
  clear hok hkN hL la hx5 hw5 hg5 hk5 hx hfu
  have huN := hu.at
  refine bindO_i (eLen_some huN.len) ?_
  simp only [zI_int]
  refine condB_i (fun h => by have : (l.length : Int) = 0 := by simpa using h
                              omega) (fun _ => ?_)
  refine bindO_i (eLen_some huN.len) ?_
  simp only [zI_int]
  refine (low N at' l.length (by omega) (by omega)).mono ?_
  rintro v N' ⟨rfl, rfl⟩
  simp only [zI_int]
  have hat := lowOf_lt at' (show 0 < l.length by omega)
  generalize lowOf at' l.length = b at hat ⊢
  obtain ⟨y, hsl, hy⟩ := huN.slice (lo := none) (hi := some (.val (.int .i64 (b : Int)))) (a := 0) (r := b) (.inl ⟨rfl, rfl⟩) (.inr rfl) (by omega) (by omega)
  rw [List.drop_zero] at hy
  refine bindO_i (eSl_some hsl) ?_
  -- the copy
  obtain ⟨t0, N0, hap, ht0, hk0, hf0⟩ : ∃ t0 N0, evAppend tb 22 22 (.val (.slice none 0 0)) y N' = some (t0, N0) ∧ Gr N0 t0 (l.take b) ∧ Keep N' N0 [] ∧ ∀ c, inBlk t0 c → N'.next ≤ c := by
    by_cases hb : b = 0
    · subst hb
      have hy0 : SlAt 1 N' y 0 (bvs (l.take 0)) := hy
      refine ⟨_, N', append_zero (T := tb) (k := 1) ty22 rfl ty5 rfl SlAt.nil hy0, .inl ⟨rfl, rfl⟩, Keep.refl hwN, fun c h => h.elim⟩
    · obtain ⟨x', P, h1, h2, h3, h4⟩ := Gr.grow (x := .val (.slice none 0 0)) (l := []) hwN (.inl ⟨rfl, rfl⟩) hy (by simp; omega) (by simp; omega)
      exact ⟨x', P, h1, by rwa [List.nil_append] at h2, ⟨h3.wf, h3.nxt, fun c hc _ => h3.old c hc (fun h => h.elim)⟩, fun c hc => by rw [h4 c hc]; exact Nat.le_refl _⟩
  refine bindO_i hap ?_
  have hu0 : BytesAt N0 u l := SlAt.keep0 huN hwN hk0
  refine bindO_i (eLen_some hu0.len) ?_
  simp only [zI_int]
  have hmk := make_sl (T := tb) (M := N0) ty22 rfl ty5 (l := 0) (c := l.length) (by omega) (by simp only; omega) (by omega) (k1 := .i64) (k2 := .i64)
  simp only [ofVs, ofV, repA_one'] at hmk
  have hmk' : evMakeSlice tb 22 (.val (.int .i64 0)) (.val (.int .i64 (l.length : Int))) N0 = some (.sl N0.next 0 0 l.length none, N0.new (.cells (List.replicate l.length (.val (.int .u8 0))) true)) := hmk
  refine bindO_i hmk' ?_
  have hw0 := hk0.wf
  have huN0 : ∀ c, inBlk u c → c < N0.next := fun c hc => SlAt.blk_lt hu0 hw0 hc
  refine ⟨fun t z k q P => ∃ i : Nat, k = i ∧ q = l.length - i ∧ i ≤ l.length ∧ Gr P t (l.take b ++ List.replicate (i - b) 255#8) ∧ z = .sl N0.next 0 i l.length none ∧ P.get N0.next = some (.cells (bvs (List.replicate i fill) ++ List.replicate (l.length - i) (.val (.int .u8 0))) true) ∧
      ¬ inBlk t N0.next ∧ (∀ c, inBlk t c → N'.next ≤ c) ∧ P.WF ∧ BytesAt P u l ∧ N0.next < P.next, ⟨l.length, 0, rfl, rfl, Nat.zero_le _, ?_, rfl, ?_, ?_, hf0, hw0.new _, SlAt.keep0 hu0 hw0 (Keep.new hw0 _), by simp⟩, ?_⟩
  · rw [Nat.zero_sub, List.replicate_zero, List.append_nil]
    exact ht0.mono fun c r _ hc => (Keep.new hw0 _).get hw0 hc (by simp)
  · rw [Mem.get_new, if_pos rfl]; rfl
  · intro h
    have := SlAt.blk_lt ht0.at hw0 h
    omega
  rintro _ t z k' q P ⟨i, rfl, rfl, hi, ht, rfl, hgz, hdis, hft, hPw, hPu, hPn⟩
  refine bindO_i (eLen_some hPu.len) ?_
  simp only [zI_int]
  refine condB_i (fun hlt => ?_) (fun hge => ?_)
  · have hlt : i < l.length := by simpa using hlt
    refine letP_i fun K hK => ?_
    have step : ∀ (t' : AV) (P' : Mem), Gr P' t' (l.take b ++ List.replicate (i + 1 - b) 255#8) → P'.get N0.next = some (.cells (bvs (List.replicate i fill) ++ List.replicate (l.length - i) (.val (.int .u8 0))) true) →
        ¬ inBlk t' N0.next → (∀ c, inBlk t' c → N'.next ≤ c) → P'.WF → BytesAt P' u l → N0.next < P'.next → K t' P' := by
      intro t' P' h1 h2 h3 h4 h5 h6 h7
      rw [hK]
      refine letP_i fun P1 hP1 => ?_
      have hP1' : P1 = P'.new (.cells [bv8 fill] true) := hP1
      have hs : BytesAt P1 (.sl P'.next 0 1 1 none) [fill] := bytes_one (by rw [hP1', Mem.get_new, if_pos rfl])
      have hg1 : P1.get N0.next = some (.cells (bvs (List.replicate i fill) ++ List.replicate (l.length - i) (.val (.int .u8 0))) true) := by rw [hP1', Mem.get_new, if_neg (by omega)]; exact h2
      have hap := append_fits (T := tb) (k := 1) ty22 rfl ty5 rfl (b := N0.next) (o := 0) (len := i) (cap := l.length) (ex := none) (us := bvs [fill]) (m := 1) hs (by omega) (bvs_one _) (by omega) hg1 (by simp; omega)
      refine bindO_i hap ?_
      have hset : setAt (bvs (List.replicate i fill) ++ List.replicate (l.length - i) (AV.val (.int .u8 0))) (0 + i * 1) (bvs [fill]) = bvs (List.replicate (i + 1) fill) ++ List.replicate (l.length - (i + 1)) (AV.val (.int .u8 0)) := by
        have := setAt_mid (bvs [fill]) (bvs (List.replicate i fill)) (List.replicate (l.length - (i + 1)) (AV.val (.int .u8 0))) [AV.val (.int .u8 0)] rfl
        rw [bvs_length, List.length_replicate] at this
        rw [show List.replicate (l.length - i) (AV.val (.int .u8 0)) = [AV.val (.int .u8 0)] ++ List.replicate (l.length - (i + 1)) (AV.val (.int .u8 0)) by rw [show l.length - i = (l.length - (i + 1)) + 1 by omega]; rfl, ← List.append_assoc, Nat.zero_add, Nat.mul_one, this, List.replicate_succ', bvs_append]
      have hkp : ∀ c r, P'.get c = some r → c ≠ N0.next → (P1.put N0.next (.cells (setAt (bvs (List.replicate i fill) ++ List.replicate (l.length - i) (AV.val (.int .u8 0))) (0 + i * 1) (bvs [fill])) true)).get c = some r := by
        intro c r hc hne
        rw [Mem.get_put, if_neg hne, hP1', Mem.get_new, if_neg (by have := h5 c r hc; omega)]
        exact hc
      refine ⟨l.length - (i + 1), by omega, i + 1, iInc (by omega), rfl, hlt, ?_, rfl, ?_, h3, h4, ?_, ?_, ?_⟩
      · exact h1.mono fun c r hin hc => hkp c r hc (fun he => h3 (he ▸ hin))
      · show (P1.put _ _).get _ = _
        rw [Mem.get_put, if_pos rfl, hset]
      · show (P1.put _ _).WF
        rw [hP1']
        exact (h5.new _).put (by show N0.next < P'.next + 1; omega) _
      · exact SlAt.mono h6 fun c r hin hc => hkp c r hc (by have := huN0 c hin; omega)
      · show N0.next < (P1.put _ _).next
        rw [hP1']
        show N0.next < P'.next + 1
        omega
    refine condB_i (fun hib => ?_) (fun hib => ?_)
    · have hib : b ≤ i := by simpa using hib
      refine letP_i fun P1 hP1 => ?_
      subst hP1
      obtain ⟨t', P', h1, h2, h3⟩ := Gr.lit (x := t) hPw ht [255#8] (by simp) (by simp; omega)
      refine bindO_i (show evAppend tb 22 22 t (.sl P.next 0 1 1 none) (P.new (.cells [.val (.int .u8 255)] true)) = some (t', P') from h1) ?_
      refine step t' P' ?_ ?_ ?_ ?_ h3.wf ?_ (by have := h3.nxt; omega)
      · rw [List.append_assoc, ← List.replicate_succ', show i - b + 1 = i + 1 - b by omega] at h2
        exact h2
      · rw [h3.old _ hPn hdis]; exact hgz
      · intro h
        rcases h3.blk _ h with h | h
        · omega
        · exact hdis h
      · intro c hc
        rcases h3.blk _ hc with h | h
        · have := hk0.nxt; omega
        · exact hft c h
      · refine h3.keep hPw hPu fun c hc hin => ?_
        have h4 := hft c hin
        have h5 := SlAt.blk_lt huN hwN hc
        omega
    · have hib : i < b := by simpa using hib
      refine step t P ?_ hgz hdis hft hPw hPu hPn
      rw [show i + 1 - b = 0 by omega]
      rw [show i - b = 0 by omega] at ht
      exact ht
  · have hge : i = l.length := by have : ¬ (i : Int) < (l.length : Int) := by simpa using hge
                                  omega
    subst hge
    have htl : (l.take b ++ List.replicate (l.length - b) 255#8).length = l.length := by simp; omega
    have hz : BytesAt P (.sl N0.next 0 l.length l.length none) (List.replicate l.length fill) := by
      refine ⟨by simp, .inr ⟨N0.next, 0, l.length, none, ?_, ⟨by simp, .inl rfl⟩, .inr ⟨_, _, hgz, by simp, ?_⟩⟩⟩
      · rw [List.length_replicate]
      · rw [List.drop_zero, Nat.mul_one, Nat.sub_self, List.replicate_zero, List.append_nil, List.take_of_length_le (by simp)]
    refine (t_read P hPw t _ ht.at (by omega)).mono ?_
    rintro v P1 hr1
    obtain ⟨d, m, k1, p1, s1, e1, rfl, hd, _, hd2⟩ := read_parts hr1
    have hs1 := state_ne (torn_not (l := l.take b) (n := l.length - b) (by omega) (by simp; omega))
    rcases hd2 with ⟨h, _⟩ | ⟨_, rfl, rfl, rfl, rfl, rfl, rfl⟩
    · exact absurd h hs1
    have hk1 := hr1.1
    refine ⟨_, 0, 0, 0, 0, _, rfl, ?_⟩
    refine box_tag hk1.wf 0 0 0 0 fun P2 hP2 => ?_
    have hk2 : Keep P1 P2 [] := by rw [hP2]; exact Keep.new hk1.wf _
    have hg2 : P2.get P1.next = some (.cells [i64 0, i64 0, i64 0, i64 0] true) := by rw [hP2, Mem.get_new, if_pos rfl]
    clear hP2
    have hkP2 := hk1.trans0 hk2
    refine (t_read P2 hk2.wf _ _ (SlAt.keep0 hz hPw hkP2) (by simp; omega)).mono ?_
    rintro v P3 hr3
    obtain ⟨d3, m3, k3, p3, s3, e3, rfl, _⟩ := read_parts hr3
    have hk3 := hr3.1
    refine ⟨_, k3, p3, s3, e3, _, rfl, ?_⟩
    refine box_tag hk3.wf k3 p3 s3 e3 fun P4 hP4 => ?_
    have hk4 : Keep P3 P4 [] := by rw [hP4]; exact Keep.new hk3.wf _
    clear hP4
    have hk24 := hk3.trans0 hk4
    have hg4 := hk24.get hk2.wf hg2 (by simp)
    have hu4 : BytesAt P4 u l := SlAt.keep0 hPu hPw (hkP2.trans0 hk24)
    refine ⟨fun c z q R => ∃ i : Nat, z = i ∧ q = l.length - i ∧ i ≤ l.length ∧ (i = l.length → c = false) ∧ R = P4, ⟨l.length - b, b, rfl, rfl, by omega, fun h => by omega, rfl⟩, ?_⟩
    rintro _ c z q R ⟨i, rfl, rfl, hi, hc, rfl⟩
    refine bindO_i (eLen_some hu4.len) ?_
    simp only [zI_int]
    refine condB_i (fun hlt => ?_) (fun hge => ?_)
    · have hlt : i < l.length := by simpa using hlt
      refine letP_i fun K hK => ?_
      have step : ∀ c' : Bool, (i + 1 = l.length → c' = false) → K c' := by
        intro c' h
        rw [hK]
        exact ⟨l.length - (i + 1), by omega, i + 1, iInc (by omega), rfl, hlt, h, by trivial⟩
      refine condB_i (fun _ => ?_) (fun _ => step false fun _ => rfl)
      obtain ⟨b', o', hia, hld⟩ := hu4.at hlt
      refine bindO_i (eIA_some hia) ?_
      simp only [zP_ptr]
      refine bindO_i (eLd_some hld) ?_
      simp only [bv8, zI_int, eq255]
      refine step _ fun h => ?_
      have : l[i] = 0#8 := by
        rw [← getD_get hlt, ← hlast]
        congr 1; omega
      rw [this]; rfl
    · have hge : i = l.length := by have : ¬ (i : Int) < (l.length : Int) := by simpa using hge
                                    omega
      rw [hc hge]
      refine letP_i fun K hK => ?_
      have hs3 := equal_state fill hln.1 hln.2
      have fin : K ((state (List.replicate l.length fill) : Nat) : Int) := by
        rw [hK]
        refine letP_i fun K2 hK2 => ?_
        subst hK2
        refine condB_i (fun _ => ?_) (fun h => by simp at h)
        refine condB_i (fun _ => ?_) (fun h => ?_)
        rotate_left
        · exfalso
          have : ((state (l.take b ++ List.replicate (l.length - b) 255#8) : Nat) : Int) = 1 := by simpa using h
          omega
        refine bindO_i (eLen_some (BytesAt.len (M := R) (l := []) SlAt.nil)) ?_
        simp only [zI_int]
        refine condB_i (fun _ => ?_) (fun h => by simp at h)
        obtain ⟨_, _, _, _, l4⟩ := tag_ld hg4
        refine bindO_i (eLd_some l4) ?_
        refine ⟨0, 0, 0, 0, rfl, ?_⟩
        refine bindO_i (eq_tag _ _ 0 0 0 0 0 0 0 0 _) ?_
        simp only [zB_bool]
        refine condB_i (fun _ => ?_) (fun h => by simp at h)
        refine condB_i (fun _ => ?_) (fun h => by simp at h)
        refine (tag_awake R hk4.wf).mono ?_
        rintro y N ⟨rfl, _⟩
        simp only [zB_bool]
      rw [hs3] at fin
      rw [eq255]
      refine condB_i (fun h => ?_) (fun h => ?_)
      · rw [if_pos (by simpa using h)] at fin; exact fin
      · rw [if_neg (by simpa using h)] at fin; exact fin

end Go.Proofs.Ytpfifmemkbddjaa
