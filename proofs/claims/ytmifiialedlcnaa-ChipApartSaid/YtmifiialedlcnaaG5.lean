import Derived.Test.YtmifiialedlcnaaG4
set_option linter.unusedSimpArgs false
set_option linter.unusedVariables false
/- Which faults may be. -/
namespace Go.Proofs.Ytmifiialedlcnaa
open Go.AM

def bump (M : Mem) : Mem := ⟨M.next + 1, M.rows⟩
theorem bump_wf {M : Mem} (h : M.WF) : (bump M).WF := fun b r hb => by have := h b r hb; show b < M.next + 1; omega
theorem bump_keep {M : Mem} (h : M.WF) : Keep M (bump M) [] := ⟨bump_wf h, Nat.le_succ _, fun _ _ _ => rfl⟩
/-- What was put aside is used. -/
theorem bump_put {M N : Mem} (hw : M.WF) (hk : Keep (bump M) N []) (r : Row) : Keep M (N.put M.next r) [] :=
  ⟨hk.wf.put (Nat.lt_of_lt_of_le (Nat.lt_succ_self _) hk.nxt) r, Nat.le_trans (Nat.le_succ _) hk.nxt, fun b hb _ => by
    rw [Mem.get_put, if_neg (by omega)]
    exact hk.old b (by show b < M.next + 1; omega) (by simp)⟩

def okF (g : Geo) (pre : List Flt) (f : Flt) : Bool :=
  !((findF pre f.blk).isSome || (decide (f.blk < 0) || (decide (f.blk ≥ g.bl) || (decide (f.aft < 0) || (decide (f.aft > 1073741824) || (f.fac && (f.aft != 0)))))))
def mayP (g : Geo) (fs : List Flt) : Bool := mayG g && decide (fs.length ≤ 8) && (List.range fs.length).all fun i => okF g (fs.take i) (fs.getD i flt0)

theorem FltsAt.take {M : Mem} {x : AV} {fs : List Flt} (h : FltsAt M x fs) {i : Nat} (hi : i ≤ fs.length) : ∃ y, evSliceAt tb 54 x none (some (.val (.int .i64 (i : Int)))) none = some y ∧ FltsAt M y (fs.take i) := by
  obtain ⟨y, h1, h2, _⟩ := SlAt.slice h ty54 rfl ty53 rfl (lo := none) (hi := some (.val (.int .i64 (i : Int)))) (l := 0) (r := i) (k1 := .i64) (k2 := .i64) (.inl ⟨rfl, rfl⟩) (.inr rfl) (Nat.zero_le _) hi
  refine ⟨y, h1, ?_⟩
  unfold FltsAt
  have e1 : (fs.take i).length = i - 0 := by rw [List.length_take]; omega
  have e2 : (fs.take i).flatMap fltC = ((fs.flatMap fltC).drop (0 * 3)).take ((i - 0) * 3) := by
    rw [Nat.zero_mul, List.drop_zero, Nat.sub_zero]
    conv => rhs; rw [← List.take_append_drop i fs, List.flatMap_append]
    rw [List.take_left' (by rw [flat_length fltC_len, List.length_take, Nat.min_eq_left hi])]
  rw [e1, e2]
  exact h2

theorem c_mayP (M : Mem) (hw : M.WF) (g : Geo) (x : AV) (fs : List Flt) (hx : FltsAt M x fs) (hfl : fs.length ≤ 9223372036854775807) : CallA tb.P 62 [geoA g, x] M fun y N => y = .val (.bool (mayP g fs)) ∧ Keep M N [] := by
  refine F62_ok ?_
  unfold F62
  refine ⟨_, _, _, _, _, rfl, ?_⟩
  refine letP_i fun M6 hM6 => ?_
  have hM6' : M6 = M.new (.cells (geoC g) true) := hM6
  have hK : Keep M M6 [] := by rw [hM6']; exact Keep.new hw _
  have hg : M6.get M.next = some (.cells (geoC g) true) := by rw [hM6']; exact get_new _ _
  clear hM6 hM6'
  refine letP_i fun K20 hK20 => ?_
  obtain ⟨_, _, _, _, _, l5⟩ := geo_ld hg
  refine bindO_i (eLd_some l5) ?_
  refine ⟨_, _, _, _, _, rfl, ?_⟩
  refine (c_may102 M6 hK.wf g).mono ?_
  rintro y N ⟨rfl, hk⟩
  simp only [zB_bool]
  have hk1 := hK.trans0 hk
  have hgN := hk.get hK.wf hg (by simp)
  have hxN : FltsAt N x fs := SlAt.keep0 hx hw hk1
  refine condB_i (fun h => ?_) (fun hm => ?_)
  · have h : mayG g = false := by simpa using h
    rw [hK20]
    refine condB_i (fun _ => ⟨?_, hk1⟩) (fun h => by cases h)
    unfold mayP
    rw [h]; rfl
  have hm : mayG g = true := by simpa using hm
  refine bindO_i (eLen_some hxN.len) ?_
  simp only [zI_int]
  rw [hK20]
  clear hK20 K20
  refine condB_i (fun h => ⟨?_, hk1⟩) (fun h => ?_)
  · have h : ¬ fs.length ≤ 8 := by have : (8 : Int) < fs.length := by simpa using h
                                   omega
    unfold mayP
    rw [decide_eq_false h, Bool.and_false, Bool.false_and]
  have h8 : fs.length ≤ 8 := by have : ¬ ((fs.length : Int) > 8) := by simpa using h
                                omega
  clear h
  refine bindO_i (eLen_some hxN.len) ?_
  simp only [zI_int]
  refine ⟨fun z n P => ∃ i : Nat, z = i ∧ n = fs.length - i ∧ i ≤ fs.length ∧ Keep N P [] ∧ ∀ j, j < i → okF g (fs.take j) (fs.getD j flt0) = true, ⟨fs.length, 0, rfl, rfl, Nat.zero_le _, Keep.refl hk.wf, fun j h => by omega⟩, ?_⟩
  rintro _ z n P ⟨i, rfl, rfl, hi, hkP, hok⟩
  have hxP : FltsAt P x fs := SlAt.keep0 hxN hk.wf hkP
  have hall := hk1.trans0 hkP
  refine condB_i (fun hlt => ?_) (fun hge => ?_)
  rotate_left
  · have hge : i = fs.length := by have : ¬ (i : Int) < fs.length := by simpa using hge
                                   omega
    subst hge
    refine ⟨?_, hall⟩
    unfold mayP
    rw [hm, decide_eq_true h8, List.all_eq_true.2 (fun j hj => hok j (List.mem_range.1 hj))]
    rfl
  have hlt : i < fs.length := by simpa using hlt
  obtain ⟨p, o, h1, h2⟩ := hxP.at hlt
  have hgd : fs.getD i flt0 = fs[i] := by rw [List.getD_eq_getElem?_getD, List.getElem?_eq_getElem hlt]; rfl
  generalize hf : fs[i] = f at *
  refine bindO_i (eIA_some h1) ?_
  simp only [zP_ptr]
  refine bindO_i (eLd_some h2) ?_
  refine ⟨_, _, _, rfl, ?_⟩
  refine letP_i fun M35 hM35 => ?_
  subst hM35
  refine bindO_i (eSt_some (flt_st f (get_new P (.cells (fltC flt0) true)) rfl)) ?_
  rw [Mem.new_put]
  have hP1 := Keep.new hkP.wf (.cells (fltC f) true)
  have hf1 := get_new P (.cells (fltC f) true)
  generalize hPn : P.new (.cells (fltC f) true) = P1 at hP1 hf1
  have hb := bump_keep hP1.wf
  refine letP_i fun M37 hM37 => ?_
  have hM37' : M37 = bump P1 := hM37
  subst hM37'
  show bindO (eSl tb 54 x none (some (.val (.int .i64 (i : Int)))) none (bump P1)) _
  have hf2 := hb.get hP1.wf hf1 (by simp)
  have hx2 : FltsAt (bump P1) x fs := SlAt.keep0 hxP hkP.wf (hP1.trans0 hb)
  obtain ⟨y, h3, h4⟩ := hx2.take (i := i) (by omega)
  refine bindO_i (eSl_some h3) ?_
  obtain ⟨l0, _⟩ := flt_ld hf2
  refine bindO_i (eLd_some l0) ?_
  simp only [i64, zI_int]
  refine (c_find _ hb.wf y _ h4 (by rw [List.length_take]; omega) f.blk).mono ?_
  rintro y N2 ⟨rfl, hk2⟩
  refine ⟨_, _, _, _, rfl, ?_⟩
  refine letP_i fun M47 hM47 => ?_
  subst hM47
  have hp := bump_put hP1.wf hk2 (.cells (fltC ((findF (fs.take i) f.blk).getD flt0)) true)
  have hst := flt_st ((findF (fs.take i) f.blk).getD flt0) (M := N2.put P1.next (.cells (fltC flt0) true)) (b := P1.next) (by rw [Mem.get_put, if_pos rfl]) rfl
  rw [Mem.put_put] at hst
  refine bindO_i (eSt_some hst) ?_
  have hf3 := hp.get hP1.wf hf1 (by simp)
  have hkk := hkP.trans0 (hP1.trans0 hp)
  have hg3 := hkk.get hk.wf hgN (by simp)
  have hall3 := hk1.trans0 hkk
  obtain ⟨m0, m1, m2, _⟩ := flt_ld hf3
  obtain ⟨g0, _⟩ := geo_ld hg3
  generalize N2.put P1.next (.cells (fltC ((findF (fs.take i) f.blk).getD flt0)) true) = N3 at *
  refine letP_i fun K hKK => ?_
  have bad : okF g (fs.take i) f = false → K true := fun h => by
    rw [hKK]
    refine ⟨?_, hall3⟩
    unfold mayP
    rw [List.all_eq_false.2 ⟨i, List.mem_range.2 hlt, by rw [hgd, h]; simp⟩, Bool.and_false]
  have good : okF g (fs.take i) f = true → K false := fun h => by
    rw [hKK]
    refine ⟨fs.length - (i + 1), by omega, i + 1, iInc (by omega), rfl, hlt, hkk, fun j hj => ?_⟩
    by_cases hji : j = i
    · subst hji; rw [hgd]; exact h
    · exact hok j (by omega)
  have step : ∀ b : Bool, b = !okF g (fs.take i) f → K b := fun b hb => by
    cases b with
    | true => exact bad (by simpa using hb)
    | false => exact good (by simpa using hb)
  unfold okF at step
  simp only [Bool.not_not] at step
  refine condB_i (fun q => step true (by rw [q]; rfl)) (fun q => ?_)
  rw [q, Bool.false_or] at step
  refine bindO_i (eLd_some m0) ?_
  simp only [i64, zI_int]
  refine condB_i (fun q => step true (by rw [q]; rfl)) (fun q => ?_)
  rw [q, Bool.false_or] at step
  refine bindO_i (eLd_some m0) ?_
  simp only [i64, zI_int]
  refine bindO_i (eLd_some g0) ?_
  simp only [i64, zI_int]
  refine condB_i (fun q => step true (by rw [q]; rfl)) (fun q => ?_)
  rw [q, Bool.false_or] at step
  refine bindO_i (eLd_some m2) ?_
  simp only [i64, zI_int]
  refine condB_i (fun q => step true (by rw [q]; rfl)) (fun q => ?_)
  rw [q, Bool.false_or] at step
  refine bindO_i (eLd_some m2) ?_
  simp only [i64, zI_int]
  refine condB_i (fun q => step true (by rw [q]; rfl)) (fun q => ?_)
  rw [q, Bool.false_or] at step
  refine bindO_i (eLd_some m1) ?_
  simp only [zB_bool]
  refine condB_i (fun q => ?_) (fun q => step false (by rw [q]; rfl))
  rw [q, Bool.true_and] at step
  refine bindO_i (eLd_some m2) ?_
  simp only [i64, zI_int]
  exact step _ rfl

end Go.Proofs.Ytmifiialedlcnaa
