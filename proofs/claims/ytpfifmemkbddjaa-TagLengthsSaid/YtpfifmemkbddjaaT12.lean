import Derived.Test.YtpfifmemkbddjaaT11
set_option linter.unusedSimpArgs false
set_option linter.unusedVariables false
/- TagBack. -/
namespace Go.Proofs.Ytpfifmemkbddjaa
open Go.AM

theorem tag_back (M : Mem) (hw : M.WF) (x : AV) (a : List (BitVec 8)) (hx : BytesAt M x a) (hal : a.length ≤ 9223372036854775807) (k p s e : Int) (bit : Int) :
    CallA tb.P 9 [x, tagA k p s e, .val (.int .i64 bit)] M fun v _ => v = .val (.bool true) := by
  refine F9_ok ?_
  unfold F9
  refine ⟨k, p, s, e, rfl, ?_⟩
  simp only [zI_int]
  refine letP_i fun M5 hM5 => ?_
  have hM5' : M5 = M.new (.cells [i64 k, i64 p, i64 s, i64 e] true) := hM5
  obtain ⟨hw5, hk5, hg5⟩ := tag_box M hw k p s e
  rw [← hM5'] at hw5 hk5 hg5
  clear hM5 hM5'
  have hx5 : BytesAt M5 x a := SlAt.keep0 hx hw hk5
  refine bindO_i (eLen_some hx5.len) ?_
  simp only [zI_int]
  refine condB_i (fun _ => ?_) (fun ha => ?_)
  · refine (tag_awake M5 hw5).mono ?_
    rintro y N ⟨rfl, _⟩
    simp only [zB_bool]
  have ha : a.length ≤ 100 := by have : ¬ (a.length : Int) > 100 := by simpa using ha
                                 omega
  obtain ⟨_, _, _, _, la⟩ := tag_ld hg5
  refine bindO_i (eLd_some la) ?_
  refine ⟨k, p, s, e, rfl, ?_⟩
  refine (t_lay M5 hw5 x a k p s e hx5 (by omega)).mono ?_
  rintro v N ⟨hkN, hv⟩
  have hxN : BytesAt N x a := SlAt.keep0 hx5 hw5 hkN
  have hgN := hkN.get hw5 hg5 (by simp)
  have hwN := hkN.wf
  rcases hv with ⟨hok, u, rfl, hu, hfu⟩ | ⟨hok, rfl⟩
  rotate_left
  · refine ⟨_, 2, rfl, condB_i (fun _ => ?_) (fun h => by simp at h)⟩
    refine letP_i fun K hK => ?_
    subst hK
    refine condB_i (fun _ => ?_) (fun h => by simp at h)
    refine (tag_awake N hwN).mono ?_
    rintro y N ⟨rfl, _⟩
    simp only [zB_bool]
  refine ⟨u, 0, rfl, condB_i (fun h => by simp at h) (fun _ => ?_)⟩
  have hal : a.length ≤ 64 := by
    unfold okL at hok
    rw [Bool.and_eq_true, decide_eq_true_eq] at hok
    exact hok.1.2
  have hln : (laid a k p s e).length ≤ 80 := by simp; omega
  refine (t_read N hwN u _ hu.at (by omega)).mono ?_
  rintro v N1 hr
  obtain ⟨w, rfl, hwd, hfw⟩ := read_laid hok hr
  have hk1 := hr.1
  clear hr
  refine ⟨w, k, p, s, e, 1, rfl, ?_⟩
  refine box_tag hk1.wf k p s e fun N2 hN2 => ?_
  have hk2 : Keep N1 N2 [] := by rw [hN2]; exact Keep.new hk1.wf _
  have hg2 : N2.get N1.next = some (.cells [i64 k, i64 p, i64 s, i64 e] true) := by rw [hN2, Mem.get_new, if_pos rfl]
  have hw2 := hk2.wf
  clear hN2
  have hkN2 := hk1.trans0 hk2
  have hx2 : BytesAt N2 x a := SlAt.keep0 hxN hwN hkN2
  have hu2 : BytesAt N2 u (laid a k p s e) := SlAt.keep0 hu.at hwN hkN2
  have hwd2 : BytesAt N2 w a := SlAt.keep0 hwd.at hk1.wf hk2
  refine letP_i fun K hK => ?_
  refine (same_bytes N2 w x a a hwd2 hx2 (by omega)).mono ?_
  rintro v N3 ⟨rfl, rfl⟩
  simp only [zB_bool]
  refine condB_i (fun h => by simp at h) (fun _ => ?_)
  obtain ⟨_, _, _, _, l1⟩ := tag_ld hg2
  refine bindO_i (eLd_some l1) ?_
  refine ⟨k, p, s, e, rfl, ?_⟩
  obtain ⟨_, _, _, _, l2⟩ := tag_ld (hkN2.get hwN hgN (by simp))
  refine bindO_i (eLd_some l2) ?_
  refine ⟨k, p, s, e, rfl, ?_⟩
  refine bindO_i (ne_tag _ _ k p s e k p s e _) ?_
  simp only [zB_bool]
  refine condB_i (fun h => by simp at h) (fun _ => ?_)
  refine condB_i (fun h => by simp at h) (fun _ => ?_)
  refine bindO_i (eLen_some hu2.len) ?_
  simp only [zI_int]
  refine bindO_i (eLen_some hx2.len) ?_
  simp only [zI_int]
  have e16 : iAdd .i64 (a.length : Int) 16 = ((a.length + 16 : Nat) : Int) := by rw [iAdd, wrap_i64' (by omega) (by omega)]; rfl
  rw [e16, laid_length, bne_self_eq_false, hK]
  clear hK K
  simp only [condB_false]
  refine bindO_i (eLen_some hu2.len) ?_
  generalize hL : laid a k p s e = l at *
  have hv : valid l = true := by rw [← hL]; exact laid_valid hok
  have h16 : 16 ≤ l.length := by rw [← hL]; simp
  have e8 : iMul .i64 8 (l.length : Int) = ((8 * l.length : Nat) : Int) := by
    rw [iMul, wrap_i64' (by omega) (by omega)]; omega
  simp only [zI_int, e8]
  refine (low N3 bit (8 * l.length) (by omega) (by omega)).mono ?_
  rintro v N ⟨rfl, rfl⟩
  simp only [zI_int]
  have hat := lowOf_lt bit (show 0 < 8 * l.length by omega)
  generalize lowOf bit (8 * l.length) = b at hat ⊢
  obtain ⟨N1, hap, rfl⟩ := append_nil (T := tb) (k := 1) ty22 rfl ty5 rfl hu2 (by omega) ⟨by simp only; omega, by omega⟩
  refine bindO_i hap ?_
  have hq : iQuo .i64 (b : Int) 8 = ((b / 8 : Nat) : Int) := by
    rw [iQuo, Int.tdiv_eq_ediv_of_nonneg (by omega), wrap_i64' (by omega) (by omega)]; omega
  have hr : Int.tmod (b : Int) 8 = ((b % 8 : Nat) : Int) := by
    rw [Int.tmod_eq_emod_of_nonneg (by omega)]; omega
  have hg1 : Grown 1 (N.new (.cells (bvs l) true)) (.sl N.next 0 l.length l.length (some 1)) l.length (bvs l) N.next := ⟨rfl, by omega, by simp, by rw [Mem.get_new, if_pos rfl]⟩
  simp only [hq, hr]
  have hp : b / 8 < l.length := by omega
  refine bindO_i (eIA_some (grown_idx hg1 hp)) ?_
  simp only [zP_ptr]
  refine bindO_i (shl_one (by omega) _ _ _) ?_
  simp only [bv8, zI_int]
  refine bindO_i (eLd_some (cells_load hg1.2.2.2 hp)) ?_
  simp only [bv8, zI_int, iXor_u8]
  refine bindO_i (eIA_some (grown_idx hg1 hp)) ?_
  simp only [zP_ptr]
  have hst := cells_store hg1.2.2.2 hp (l[b / 8] ^^^ 1#8 <<< (b % 8))
  have hfl : l.set (b / 8) (l[b / 8] ^^^ 1#8 <<< (b % 8)) = flip l b := by unfold flip; rw [getD_get hp]
  rw [Mem.new_put, hfl] at hst
  refine bindO_i (eSt_some hst) ?_
  have hflen : (flip l b).length = l.length := flip_length _ _
  have hx3 : BytesAt (N.new (.cells (bvs (flip l b)) true)) (.sl N.next 0 l.length l.length (some 1)) (flip l b) := by
    have hg' : Grown 1 (N.new (.cells (bvs (flip l b)) true)) (.sl N.next 0 l.length l.length (some 1)) l.length (bvs (flip l b)) N.next := ⟨rfl, by omega, by simp [hflen], by rw [Mem.get_new, if_pos rfl]⟩
    unfold BytesAt
    rw [hflen]; exact hg'.at
  refine (t_read _ (hw2.new _) _ _ hx3 (by omega)).mono ?_
  rintro v N4 hr4
  have hk4 := hr4.1
  obtain ⟨u', m', k', p', s', e', rfl, _⟩ := read_parts hr4
  rw [flip_state h16 hv hat]
  refine ⟨u', k', p', s', e', 2, rfl, ?_⟩
  refine box_tag hk4.wf k' p' s' e' fun N5 hN5 => ?_
  refine letP_i fun K hK => ?_
  subst hK
  refine condB_i (fun _ => ?_) (fun h => by simp at h)
  refine (tag_awake N5 (by rw [hN5]; exact hk4.wf.new _)).mono ?_
  rintro y N ⟨rfl, _⟩
  simp only [zB_bool]

end Go.Proofs.Ytpfifmemkbddjaa
