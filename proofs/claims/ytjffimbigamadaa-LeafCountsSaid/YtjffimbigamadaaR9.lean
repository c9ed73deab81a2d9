import Derived.Test.YtjffimbigamadaaG11
import Derived.Test.YtjffimbigamadaaG7
import Derived.Test.YtjffimbigamadaaP3
set_option linter.unusedSimpArgs false
set_option linter.unusedVariables false
set_option linter.unusedSectionVars false
/- The document's geometry and faults (chapters 5, 6). -/
namespace Go.Proofs.Ytjffimbigamadaa
open Go.AM

theorem r_raw (M : Mem) (hw : M.WF) (g : Geo) (h : mayG g = true) : CallA tb.P 78 [geoA g] M fun y N => y = i64 (rawN g) ∧ Keep M N [] := by
  refine F78_ok ?_
  unfold F78
  refine ⟨_, _, _, _, _, rfl, ?_⟩
  simp only [letP_eq]
  have hg := get_new M (.cells (geoC g) true)
  obtain ⟨l0, l1, l2, l3, l4, l5⟩ := geo_ld hg
  have hK := Keep.new hw (.cells (geoC g) true)
  refine bindO_i (eLd_some l5) ?_
  refine ⟨_, _, _, _, _, rfl, ?_⟩
  refine (c_may16 _ hK.wf g).mono ?_
  rintro y N ⟨rfl, hk⟩
  simp only [zB_bool, h]
  refine condB_i (fun h => by simp at h) (fun _ => ?_)
  obtain ⟨_, _, m2, _⟩ := geo_ld (hk.get hK.wf hg (by simp))
  refine bindO_i (eLd_some m2) ?_
  simp only [i64, zI_int]
  refine ⟨?_, hK.trans0 hk⟩
  have hm := mayG_iff.1 h
  rw [iAdd, wrap_i64' (by omega) (by omega)]
  unfold rawN
  congr 3
  omega

theorem r_there (M : Mem) (hw : M.WF) (g : Geo) (h : mayG g = true) (b p : Int) : CallA tb.P 95 [geoA g, placeA b p] M fun y N => y = .val (.bool (isG g b p)) ∧ Keep M N [] := by
  refine F95_ok ?_
  unfold F95
  refine ⟨_, _, _, _, _, rfl, _, _, rfl, ?_⟩
  simp only [letP_eq]
  have hg := get_new M (.cells (geoC g) true)
  have hK := Keep.new hw (.cells (geoC g) true)
  have hK2 := Keep.new hK.wf (.cells [i64 b, i64 p] true)
  have hg2 := hK2.get hK.wf hg (by simp)
  have hp2 := get_new (M.new (.cells (geoC g) true)) (.cells [i64 b, i64 p] true)
  obtain ⟨l0, l1, l2, l3, l4, l5⟩ := geo_ld hg2
  refine bindO_i (eLd_some l5) ?_
  refine ⟨_, _, _, _, _, rfl, ?_⟩
  refine (c_may16 _ hK2.wf g).mono ?_
  rintro y N ⟨rfl, hk⟩
  simp only [zB_bool, h]
  refine condB_i (fun _ => ?_) (fun h => by simp at h)
  have hgN := hk.get hK2.wf hg2 (by simp)
  have hpN := hk.get hK2.wf hp2 (by simp)
  obtain ⟨k0, k1, _⟩ := geo_ld hgN
  obtain ⟨p0, p1, _⟩ := place_ld hpN
  have hm := mayG_iff.1 h
  have hall := hK.trans0 (hK2.trans0 hk)
  unfold isG
  refine bindO_i (eLd_some p0) ?_
  simp only [i64, zI_int]
  refine bindO_i (eLd_some k0) ?_
  simp only [i64, zI_int]
  rw [show iSub .i64 g.bl 1 = g.bl - 1 by rw [iSub, wrap_i64' (by omega) (by omega)]]
  refine (c_in66 _ _ _ _).mono ?_
  rintro y N' ⟨rfl, rfl⟩
  simp only [zB_bool]
  refine condB_i (fun hb => ?_) (fun hb => ⟨by rw [hb]; rfl, hall⟩)
  rw [hb, Bool.true_and]
  refine bindO_i (eLd_some p1) ?_
  simp only [i64, zI_int]
  refine bindO_i (eLd_some k1) ?_
  simp only [i64, zI_int]
  rw [show iSub .i64 g.pg 1 = g.pg - 1 by rw [iSub, wrap_i64' (by omega) (by omega)]]
  refine (c_in66 _ _ _ _).mono ?_
  rintro y N' ⟨rfl, rfl⟩
  simp only [zB_bool]
  exact ⟨by trivial, hall⟩

/-- A place's number. -/
theorem r_number (M : Mem) (hw : M.WF) (g : Geo) (h : mayG g = true) (b p : Int) (hp : isG g b p = true) : CallA tb.P 43 [geoA g, placeA b p] M fun y N => y = i64 (b * g.pg + p) ∧ Keep M N [] := by
  refine F43_ok ?_
  unfold F43
  refine ⟨_, _, _, _, _, rfl, _, _, rfl, ?_⟩
  simp only [letP_eq]
  have hg := get_new M (.cells (geoC g) true)
  have hK := Keep.new hw (.cells (geoC g) true)
  have hK2 := Keep.new hK.wf (.cells [i64 b, i64 p] true)
  have hg2 := hK2.get hK.wf hg (by simp)
  have hp2 := get_new (M.new (.cells (geoC g) true)) (.cells [i64 b, i64 p] true)
  obtain ⟨l0, l1, l2, l3, l4, l5⟩ := geo_ld hg2
  refine bindO_i (eLd_some l5) ?_
  refine ⟨_, _, _, _, _, rfl, ?_⟩
  refine (c_may16 _ hK2.wf g).mono ?_
  rintro y N ⟨rfl, hk⟩
  simp only [zB_bool, h]
  refine condB_i (fun h => by simp at h) (fun _ => ?_)
  have hgN := hk.get hK2.wf hg2 (by simp)
  have hpN := hk.get hK2.wf hp2 (by simp)
  obtain ⟨_, _, _, _, _, k5⟩ := geo_ld hgN
  obtain ⟨_, _, p2⟩ := place_ld hpN
  refine bindO_i (eLd_some k5) ?_
  refine ⟨_, _, _, _, _, rfl, ?_⟩
  refine bindO_i (eLd_some p2) ?_
  refine ⟨_, _, rfl, ?_⟩
  refine (r_there _ hk.wf g h b p).mono ?_
  rintro y N' ⟨rfl, hk'⟩
  simp only [zB_bool, hp]
  have hall := hK.trans0 (hK2.trans0 (hk.trans0 hk'))
  refine condB_i (fun h => by simp at h) (fun _ => ?_)
  obtain ⟨_, k1, _⟩ := geo_ld (hk'.get hk.wf hgN (by simp))
  obtain ⟨p0, p1, _⟩ := place_ld (hk'.get hk.wf hpN (by simp))
  refine bindO_i (eLd_some p0) ?_
  simp only [i64, zI_int]
  refine bindO_i (eLd_some k1) ?_
  simp only [i64, zI_int]
  refine bindO_i (eLd_some p1) ?_
  simp only [i64, zI_int]
  refine ⟨?_, hall⟩
  unfold isG inB at hp
  simp only [Bool.and_eq_true, decide_eq_true_eq] at hp
  have hm := mayG_iff.1 h
  have hb := mul_bnd (a := b) (b := g.pg) (by omega) (by omega) (by omega) (by omega)
  rw [iMul, wrap_i64' (n := b * g.pg) (by omega) (by omega), iAdd, wrap_i64' (by omega) (by omega)]

/-- The fields of an element of a slice of faults. -/
theorem FltsAt.fields {M : Mem} {x : AV} {fs : List Flt} (h : FltsAt M x fs) {i : Nat} (hi : i < fs.length) :
    ∃ b o, evIndexAddr tb 54 x (.val (.int .i64 (i : Int))) = some (.ptr b o) ∧ evLoad tb 3 (.ptr b o) M = some (i64 fs[i].blk) ∧ evLoad tb 4 (.ptr b (o + 1)) M = some (.val (.bool fs[i].fac)) ∧ evLoad tb 3 (.ptr b (o + 2)) M = some (i64 fs[i].aft) := by
  obtain ⟨b, o, h1, _, h2, _⟩ := SlAt.at h ty54 rfl ty53 rfl hi (k' := .i64)
  have hl : ∀ j, j < 3 → (fs.flatMap fltC)[i * 3 + j]? = (fltC fs[i])[j]? := fun j hj => flat_get fltC_len hi hj
  refine ⟨b, o, h1, ?_, ?_, ?_⟩
  · unfold evLoad
    rw [ty3]
    simp only [TI.isAgg, cond_false]
    have := h2 0 (by omega)
    rw [hl 0 (by omega)] at this
    exact this
  · unfold evLoad
    rw [ty4]
    simp only [TI.isAgg, cond_false]
    have := h2 1 (by omega)
    rw [hl 1 (by omega)] at this
    exact this
  · unfold evLoad
    rw [ty3]
    simp only [TI.isAgg, cond_false]
    have := h2 2 (by omega)
    rw [hl 2 (by omega)] at this
    exact this

/-- Whether one of the faults says so. -/
def failsR (fs : List Flt) (b d : Int) : Bool := fs.any fun f => (f.blk == b) && decide (f.aft ≤ d)
theorem r_fails (M : Mem) (x : AV) (fs : List Flt) (hx : FltsAt M x fs) (hl : fs.length ≤ 1000) (b d : Int) : CallA tb.P 113 [x, i64 b, i64 d] M fun y N => y = .val (.bool (failsR fs b d)) ∧ N = M := by
  refine F113_ok ?_
  unfold F113
  simp only [i64, zI_int]
  refine ⟨fun z n N => ∃ i : Nat, z = i ∧ n = fs.length - i ∧ i ≤ fs.length ∧ N = M ∧ ∀ (j : Nat) (hj : j < fs.length), j < i → ((fs[j].blk == b) && decide (fs[j].aft ≤ d)) = false, ⟨fs.length, 0, rfl, rfl, Nat.zero_le _, rfl, fun j _ h => by omega⟩, ?_⟩
  rintro _ z n N ⟨i, rfl, rfl, hi, rfl, hno⟩
  refine bindO_i (eLen_some hx.len) ?_
  simp only [zI_int]
  refine condB_i (fun hlt => ?_) (fun hge => ?_)
  · have hlt : i < fs.length := by simpa using hlt
    refine letP_i fun K hK => ?_
    have step : ∀ q : Bool, ((fs[i].blk == b) && decide (fs[i].aft ≤ d)) = q → K q := by
      intro q hq
      rw [hK]
      refine condB_i (fun h => ⟨?_, by trivial⟩) (fun h => ?_)
      · have : failsR fs b d = true := List.any_eq_true.2 ⟨fs[i], List.getElem_mem hlt, by rw [hq, h]⟩
        rw [this]
      · refine ⟨fs.length - (i + 1), by omega, i + 1, iInc (by omega), rfl, hlt, by trivial, fun j hj hji => ?_⟩
        by_cases e : j = i
        · subst e; rw [hq, h]
        · exact hno j hj (by omega)
    obtain ⟨p, o, h1, h2, h3, h4⟩ := hx.fields hlt
    refine bindO_i (eIA_some h1) ?_
    simp only [zP_ptr]
    refine bindO_i (eLd_some h2) ?_
    simp only [i64, zI_int]
    refine condB_i (fun he => ?_) (fun he => step false (by rw [he]; rfl))
    refine bindO_i (eIA_some h1) ?_
    simp only [zP_ptr]
    refine bindO_i (eLd_some h4) ?_
    simp only [i64, zI_int]
    exact step _ (by rw [he]; rfl)
  · have hge : i = fs.length := by have : ¬ (i : Int) < fs.length := by simpa using hge
                                   omega
    subst hge
    refine ⟨?_, by trivial⟩
    have : failsR fs b d = false := by
      unfold failsR
      rw [List.any_eq_false]
      intro f hf
      obtain ⟨j, hj, rfl⟩ := List.getElem_of_mem hf
      rw [hno j hj hj]; simp
    rw [this]

end Go.Proofs.Ytjffimbigamadaa

/- The document's faults and the program's: alike. -/
namespace Go.Proofs.Ytjffimbigamadaa
open Go.AM
/-- No two faults of one block. -/
def Apart (fs : List Flt) : Prop := ∀ f ∈ fs, ∀ h ∈ fs, f.blk = h.blk → f = h

theorem fails_alike {fs : List Flt} (h : Apart fs) (b d : Int) : failsR fs b d = failsF fs b d := by
  unfold failsR failsF findF
  cases hf : fs.find? (fun f => f.blk == b) with
  | none =>
    rw [List.any_eq_false]
    intro f hm
    have := List.find?_eq_none.1 hf f hm
    simp at this
    simp [this]
  | some f =>
    have hfb : f.blk = b := by simpa using List.find?_some hf
    have hfm := List.mem_of_find?_eq_some hf
    rw [Bool.eq_iff_iff, List.any_eq_true, decide_eq_true_eq]
    constructor
    · rintro ⟨f', hm, hc⟩
      rw [Bool.and_eq_true, beq_iff_eq, decide_eq_true_eq] at hc
      have := h f' hm f hfm (by rw [hc.1, hfb])
      rw [← this]; exact hc.2
    · intro hle
      exact ⟨f, hfm, by simp [hfb, hle]⟩

theorem apart_of_mayP {g : Geo} {fs : List Flt} (h : mayP g fs = true) : Apart fs := by
  unfold mayP at h
  rw [Bool.and_eq_true, List.all_eq_true] at h
  have key : ∀ (i j : Nat) (hi : i < fs.length) (hj : j < fs.length), i < j → fs[i].blk ≠ fs[j].blk := by
    intro i j hi hj hij he
    have h1 := h.2 j (List.mem_range.2 hj)
    rw [List.getD_eq_getElem?_getD, List.getElem?_eq_getElem hj] at h1
    unfold okF at h1
    simp only [Option.getD_some, Bool.not_eq_true', Bool.or_eq_false_iff] at h1
    have h2 := h1.1
    unfold findF at h2
    rw [Option.isSome_eq_false_iff, Option.isNone_iff_eq_none, List.find?_eq_none] at h2
    have h3 := h2 fs[i] (by
      rw [List.mem_iff_getElem]
      exact ⟨i, by rw [List.length_take]; omega, by rw [List.getElem_take]⟩)
    simp at h3
    exact h3 he
  intro f hf f' hf' he
  obtain ⟨i, hi, rfl⟩ := List.getElem_of_mem hf
  obtain ⟨j, hj, rfl⟩ := List.getElem_of_mem hf'
  rcases Nat.lt_trichotomy i j with h1 | h1 | h1
  · exact absurd he (key i j hi hj h1)
  · subst h1; rfl
  · exact absurd he.symm (key j i hj hi h1)

end Go.Proofs.Ytjffimbigamadaa

/- Which faults may be: the document's answer is the program's. -/
namespace Go.Proofs.Ytjffimbigamadaa
open Go.AM

def restF (g : Geo) (f : Flt) : Bool := decide (f.blk < 0) || (decide (f.blk ≥ g.bl) || (decide (f.aft < 0) || (decide (f.aft > 1073741824) || (f.fac && (f.aft != 0)))))
theorem okF_eq (g : Geo) (pre : List Flt) (f : Flt) : okF g pre f = !((findF pre f.blk).isSome || restF g f) := rfl

theorem r_mayP (M : Mem) (hw : M.WF) (g : Geo) (x : AV) (fs : List Flt) (hx : FltsAt M x fs) (hfl : fs.length ≤ 9223372036854775807) : CallA tb.P 76 [geoA g, x] M fun y N => y = .val (.bool (mayP g fs)) ∧ Keep M N [] := by
  refine F76_ok ?_
  unfold F76
  refine ⟨_, _, _, _, _, rfl, ?_⟩
  refine letP_i fun M6 hM6 => ?_
  have hM6' : M6 = M.new (.cells (geoC g) true) := hM6
  have hK : Keep M M6 [] := by rw [hM6']; exact Keep.new hw _
  have hg : M6.get M.next = some (.cells (geoC g) true) := by rw [hM6']; exact get_new _ _
  clear hM6 hM6'
  refine letP_i fun K20 hK20 => ?_
  obtain ⟨_, _, _, _, _, l5⟩ := geo_ld hg
  refine bindO_i (eLd_some l5) ?_
  refine ⟨_, _, _, _, _, rfl, ?_⟩
  refine (c_may16 M6 hK.wf g).mono ?_
  rintro y N ⟨rfl, hk⟩
  simp only [zB_bool]
  have hk1 := hK.trans0 hk
  have hgN := hk.get hK.wf hg (by simp)
  have hxN : FltsAt N x fs := SlAt.keep0 hx hw hk1
  refine condB_i (fun h => ?_) (fun hm => ?_)
  · have h : mayG g = false := by simpa using h
    rw [hK20]
    refine condB_i (fun _ => ⟨?_, hk1⟩) (fun h => by cases h)
    unfold mayP
    rw [h]; rfl
  have hm : mayG g = true := by simpa using hm
  refine bindO_i (eLen_some hxN.len) ?_
  simp only [zI_int]
  rw [hK20]
  clear hK20 K20
  refine condB_i (fun h => ⟨?_, hk1⟩) (fun h => ?_)
  · have h : ¬ fs.length ≤ 8 := by have : (8 : Int) < fs.length := by simpa using h
                                   omega
    unfold mayP
    rw [decide_eq_false h, Bool.and_false, Bool.false_and]
  have h8 : fs.length ≤ 8 := by have : ¬ ((fs.length : Int) > 8) := by simpa using h
                                omega
  clear h
  refine ⟨fun z n P => ∃ i : Nat, z = i ∧ n = fs.length - i ∧ i ≤ fs.length ∧ Keep N P [] ∧ ∀ j, j < i → okF g (fs.take j) (fs.getD j flt0) = true, ⟨fs.length, 0, rfl, rfl, Nat.zero_le _, Keep.refl hk.wf, fun j h => by omega⟩, ?_⟩
  rintro _ z n P ⟨i, rfl, rfl, hi, hkP, hok⟩
  have hxP : FltsAt P x fs := SlAt.keep0 hxN hk.wf hkP
  have hall := hk1.trans0 hkP
  refine bindO_i (eLen_some hxP.len) ?_
  simp only [zI_int]
  refine condB_i (fun hlt => ?_) (fun hge => ?_)
  rotate_left
  · have hge : i = fs.length := by have : ¬ (i : Int) < fs.length := by simpa using hge
                                   omega
    subst hge
    refine ⟨?_, hall⟩
    unfold mayP
    rw [hm, decide_eq_true h8, List.all_eq_true.2 (fun j hj => hok j (List.mem_range.1 hj))]
    rfl
  have hlt : i < fs.length := by simpa using hlt
  obtain ⟨p, o, h1, h2⟩ := hxP.at hlt
  have hgd : fs.getD i flt0 = fs[i] := by rw [List.getD_eq_getElem?_getD, List.getElem?_eq_getElem hlt]; rfl
  generalize hf : fs[i] = f at *
  refine bindO_i (eIA_some h1) ?_
  simp only [zP_ptr]
  refine bindO_i (eLd_some h2) ?_
  refine ⟨_, _, _, rfl, ?_⟩
  refine letP_i fun M35 hM35 => ?_
  subst hM35
  refine bindO_i (eSt_some (flt_st f (get_new P (.cells (fltC flt0) true)) rfl)) ?_
  rw [Mem.new_put]
  have hP1 := Keep.new hkP.wf (.cells (fltC f) true)
  have hf1 := get_new P (.cells (fltC f) true)
  generalize P.new (.cells (fltC f) true) = P1 at hP1 hf1
  have hx1 : FltsAt P1 x fs := SlAt.keep0 hxP hkP.wf hP1
  have hg1 := (hkP.trans0 hP1).get hk.wf hgN (by simp)
  have hkN1 := hkP.trans0 hP1
  have hall1 := hall.trans0 hP1
  obtain ⟨m0, m1, m2, _⟩ := flt_ld hf1
  obtain ⟨g0, _⟩ := geo_ld hg1
  have bad : okF g (fs.take i) f = false → mayP g fs = false := fun h => by
    unfold mayP
    rw [List.all_eq_false.2 ⟨i, List.mem_range.2 hlt, by rw [hgd, h]; simp⟩, Bool.and_false]
  refine letP_i fun K hKK => ?_
  have step : ∀ b : Bool, b = restF g f → K b := by
    intro b hb
    rw [hKK]
    refine condB_i (fun h => ⟨?_, hall1⟩) (fun h => ?_)
    · rw [bad (by rw [okF_eq, ← hb, h, Bool.or_true]; rfl)]
    refine ⟨fun z n Q => ∃ k : Nat, z = k ∧ n = i - k ∧ k ≤ i ∧ Q = P1 ∧ ∀ (j : Nat) (hj : j < fs.length), j < k → fs[j].blk ≠ f.blk, ⟨i, 0, rfl, rfl, Nat.zero_le _, rfl, fun j _ h => by omega⟩, ?_⟩
    rintro _ z n Q ⟨k, rfl, rfl, hk', rfl, hne⟩
    refine condB_i (fun hlt2 => ?_) (fun hge2 => ?_)
    · have hlt2 : k < i := by simpa using hlt2
      obtain ⟨p', o', q1, q2, _, _⟩ := hx1.fields (i := k) (by omega)
      refine bindO_i (eIA_some q1) ?_
      simp only [zP_ptr]
      refine bindO_i (eLd_some q2) ?_
      simp only [i64, zI_int]
      refine bindO_i (eLd_some m0) ?_
      simp only [i64, zI_int]
      refine condB_i (fun he => ⟨?_, hall1⟩) (fun he => ?_)
      · have he : fs[k].blk = f.blk := by simpa using he
        have hfind : (findF (fs.take i) f.blk).isSome = true := by
          unfold findF
          rw [List.find?_isSome]
          refine ⟨fs[k], ?_, by simp [he]⟩
          rw [List.mem_iff_getElem]
          exact ⟨k, by rw [List.length_take]; omega, by rw [List.getElem_take]⟩
        rw [bad (by rw [okF_eq, hfind, Bool.true_or]; rfl)]
      · have he : fs[k].blk ≠ f.blk := by simpa using he
        refine ⟨i - (k + 1), by omega, k + 1, iInc (by omega), rfl, hlt2, by trivial, fun j hj hjk => ?_⟩
        by_cases e : j = k
        · subst e; exact he
        · exact hne j hj (by omega)
    · have hge2 : k = i := by have : ¬ (k : Int) < i := by simpa using hge2
                              omega
      subst hge2
      have hfind : (findF (fs.take k) f.blk).isSome = false := by
        unfold findF
        rw [Option.isSome_eq_false_iff, Option.isNone_iff_eq_none, List.find?_eq_none]
        intro f' hf'
        obtain ⟨j, hj, rfl⟩ := List.getElem_of_mem hf'
        rw [List.length_take] at hj
        rw [List.getElem_take]
        simpa using hne j (by omega) (by omega)
      refine ⟨fs.length - (k + 1), by omega, k + 1, iInc (by omega), rfl, hlt, hkN1, fun j hj => ?_⟩
      by_cases hji : j = k
      · subst hji
        rw [hgd, okF_eq, hfind, ← hb, h]; rfl
      · exact hok j (by omega)
  unfold restF at step
  refine bindO_i (eLd_some m0) ?_
  simp only [i64, zI_int]
  refine condB_i (fun q => step true (by rw [q]; rfl)) (fun q => ?_)
  rw [q, Bool.false_or] at step
  refine bindO_i (eLd_some m0) ?_
  simp only [i64, zI_int]
  refine bindO_i (eLd_some g0) ?_
  simp only [i64, zI_int]
  refine condB_i (fun q => step true (by rw [q]; rfl)) (fun q => ?_)
  rw [q, Bool.false_or] at step
  refine bindO_i (eLd_some m2) ?_
  simp only [i64, zI_int]
  refine condB_i (fun q => step true (by rw [q]; rfl)) (fun q => ?_)
  rw [q, Bool.false_or] at step
  refine bindO_i (eLd_some m2) ?_
  simp only [i64, zI_int]
  refine condB_i (fun q => step true (by rw [q]; rfl)) (fun q => ?_)
  rw [q, Bool.false_or] at step
  refine bindO_i (eLd_some m1) ?_
  simp only [zB_bool]
  refine condB_i (fun q => ?_) (fun q => step false (by rw [q]; rfl))
  rw [q, Bool.true_and] at step
  refine bindO_i (eLd_some m2) ?_
  simp only [i64, zI_int]
  exact step _ rfl

end Go.Proofs.Ytjffimbigamadaa

/- The document's chip: fill, turn, Arm, Boot. -/
namespace Go.Proofs.Ytjffimbigamadaa
open Go.AM

theorem r_fill (M : Mem) (hw : M.WF) (v : BitVec 8) (n : Nat) (hn : n ≤ 1000) : CallA tb.P 77 [.val (.int .u8 (v.toNat : Int)), i64 (n : Int)] M fun y N => y = .sl M.next 0 n n none ∧ N = M.new (.cells (bvs (List.replicate n v)) true) := by
  refine F77_ok ?_
  unfold F77
  simp only [i64, zI_int]
  have hmk := make_sl (T := tb) (M := M) ty33 rfl ty5 (l := n) (c := n) (by omega) (by simp only; omega) (by omega) (k1 := .i64) (k2 := .i64)
  simp only [ofVs, ofV, repA_one'] at hmk
  have hz : List.replicate n (AV.val (.int .u8 0)) = bvs (List.replicate n 0#8) := by simp [bvs, bv8]
  rw [hz] at hmk
  refine bindO_i hmk ?_
  refine ⟨fun z q P => ∃ k : Nat, z = k ∧ q = n - k ∧ k ≤ n ∧ P = M.new (.cells (bvs (List.replicate k v ++ (List.replicate n 0#8).drop k)) true), ⟨n, 0, rfl, rfl, Nat.zero_le _, rfl⟩, ?_⟩
  rintro _ z q P ⟨k, rfl, rfl, hk, rfl⟩
  refine condB_i (fun hlt => ?_) (fun hge => ?_)
  rotate_left
  · have hge : k = n := by have : ¬ (k : Int) < n := by simpa using hge
                           omega
    subst hge
    refine ⟨by trivial, ?_⟩
    rw [List.drop_of_length_le (by simp), List.append_nil]
  have hlt : k < n := by simpa using hlt
  refine bindO_i (ia_by hlt) ?_
  simp only [zP_ptr]
  have hg := get_new M (.cells (bvs (List.replicate k v ++ (List.replicate n 0#8).drop k)) true)
  have hst := cells_store hg (i := k) (by simp; omega) v
  rw [fill_set v (by simpa using hlt), Mem.new_put] at hst
  refine bindO_i (eSt_some hst) ?_
  exact ⟨n - (k + 1), by omega, k + 1, iInc (by omega), rfl, hlt, rfl⟩

theorem ty62 : tb.ty.get 62 = some ⟨.st [(0, 5, true), (5, 1, false), (6, 1, false), (7, 1, false), (8, 1, false), (9, 1, false), (10, 1, false), (11, 1, false), (12, 1, false), (13, 1, false), (14, 3, true)], 17, 216, [.int .i64 0, .int .i64 0, .int .i64 0, .int .i64 0, .int .i64 0, .slice none 0 0, .slice none 0 0, .slice none 0 0, .slice none 0 0, .slice none 0 0, .int .i64 0, .int .i64 0, .bool false, .int .i64 0, .int .i64 0, .int .i64 0, .int .u8 0], some [23, 54, 59, 60, 60, 60, 3, 3, 4, 3, 42]⟩ := by kernel_rfl
theorem ty60 : tb.ty.get 60 = some ⟨.sli 3, 1, 24, [.slice none 0 0], none⟩ := by kernel_rfl

/-- The document's chip: its own cells. -/
structure Doc where
  g : Geo
  fsA : AV
  pgA : AV
  nxA : AV
  wrA : AV
  dnA : AV
  ops : Int
  cuts : Int
  off : Bool
  wait : Int
  cop : Int
  cby : Int
  cf : BitVec 8
def docC (D : Doc) : List AV := [i64 D.g.bl, i64 D.g.pg, i64 D.g.by', i64 D.g.sp, i64 D.g.tr, D.fsA, D.pgA, D.nxA, D.wrA, D.dnA, i64 D.ops, i64 D.cuts, .val (.bool D.off), i64 D.wait, i64 D.cop, i64 D.cby, bv8 D.cf]

section
variable {p : Nat} {M : Mem}
theorem ra (k o : Nat) (h : evFieldAddr tb 62 (.ptr p 0) k = some (.ptr p o)) : eFA tb 62 (.ptr p 0) k M = some (.ptr p o, M) := eFA_some h
theorem ra0 : eFA tb 62 (.ptr p 0) 0 M = some (.ptr p 0, M) := ra 0 0 (by unfold evFieldAddr; rw [ty62]; rfl)
theorem ra1 : eFA tb 62 (.ptr p 0) 1 M = some (.ptr p 5, M) := ra 1 5 (by unfold evFieldAddr; rw [ty62]; rfl)
theorem ra2 : eFA tb 62 (.ptr p 0) 2 M = some (.ptr p 6, M) := ra 2 6 (by unfold evFieldAddr; rw [ty62]; rfl)
theorem ra3 : eFA tb 62 (.ptr p 0) 3 M = some (.ptr p 7, M) := ra 3 7 (by unfold evFieldAddr; rw [ty62]; rfl)
theorem ra5 : eFA tb 62 (.ptr p 0) 5 M = some (.ptr p 9, M) := ra 5 9 (by unfold evFieldAddr; rw [ty62]; rfl)
theorem ra6 : eFA tb 62 (.ptr p 0) 6 M = some (.ptr p 10, M) := ra 6 10 (by unfold evFieldAddr; rw [ty62]; rfl)
theorem ra7 : eFA tb 62 (.ptr p 0) 7 M = some (.ptr p 11, M) := ra 7 11 (by unfold evFieldAddr; rw [ty62]; rfl)
theorem ra8 : eFA tb 62 (.ptr p 0) 8 M = some (.ptr p 12, M) := ra 8 12 (by unfold evFieldAddr; rw [ty62]; rfl)
theorem ra9 : eFA tb 62 (.ptr p 0) 9 M = some (.ptr p 13, M) := ra 9 13 (by unfold evFieldAddr; rw [ty62]; rfl)
theorem ra10 : eFA tb 62 (.ptr p 0) 10 M = some (.ptr p 14, M) := ra 10 14 (by unfold evFieldAddr; rw [ty62]; rfl)

variable {D : Doc} (h : M.get p = some (.cells (docC D) true))
include h
theorem rd_g : eLd tb 23 (.ptr p 0) M = some (geoA D.g, M) := eLd_some (ld_agg (n := 5) ty23 rfl rfl h (by simp [docC]))
theorem rd_ops : eLd tb 3 (.ptr p 10) M = some (i64 D.ops, M) := eLd_some (ld_cell ty3 rfl h rfl)
theorem rd_cuts : eLd tb 3 (.ptr p 11) M = some (i64 D.cuts, M) := eLd_some (ld_cell ty3 rfl h rfl)
theorem rd_off : eLd tb 4 (.ptr p 12) M = some (.val (.bool D.off), M) := eLd_some (ld_cell ty4 rfl h rfl)
theorem rd_wait : eLd tb 3 (.ptr p 13) M = some (i64 D.wait, M) := eLd_some (ld_cell ty3 rfl h rfl)
theorem rs_doc {t : Nat} {ti : TI} {o : Nat} {v : AV} (D' : Doc) (ht : tb.ty.get t = some ti) (hs : ti.size = 1) (hv : v.one = true) (ho : o < 17) (hc : docC D' = (docC D).set o v) :
    eSt tb t (.ptr p o) v M = some (undefA, M.put p (.cells (docC D') true)) := by
  rw [hc]
  exact eSt_some (st_cell ht hs hv h (by simpa [docC] using ho))
end

/-- One operation more: is it the cut's? -/
def trn (D : Doc) : Bool := !(D.wait == 0) && !(decide (iSub .i64 D.wait 1 > 0))
def trD (D : Doc) : Doc :=
  if D.wait = 0 then { D with ops := iAdd .i64 D.ops 1 }
  else if iSub .i64 D.wait 1 > 0 then { D with ops := iAdd .i64 D.ops 1, wait := iSub .i64 D.wait 1 }
  else { D with ops := iAdd .i64 D.ops 1, wait := iSub .i64 D.wait 1, off := true, cuts := iAdd .i64 D.cuts 1 }

theorem r_turn (M : Mem) (p : Nat) (D : Doc) (h : M.get p = some (.cells (docC D) true)) : CallA tb.P 112 [.ptr p 0] M fun y N => y = .val (.bool (trn D)) ∧ N = M.put p (.cells (docC (trD D)) true) := by
  refine F112_ok ?_
  unfold F112
  have t1 := rs_doc h { D with ops := iAdd .i64 D.ops 1 } (o := 10) (v := i64 (iAdd .i64 D.ops 1)) ty3 rfl rfl (by omega) rfl
  simp only [i64] at t1
  simp only [eNil_ptr, bindO_some, ra6, zP_ptr, rd_ops h, i64, zI_int, t1]
  have h1 : (M.put p (.cells (docC { D with ops := iAdd .i64 D.ops 1 }) true)).get p = some (.cells (docC { D with ops := iAdd .i64 D.ops 1 }) true) := by rw [Mem.get_put, if_pos rfl]
  simp only [ra9, bindO_some, zP_ptr, rd_wait h1, i64, zI_int]
  unfold trn trD
  refine condB_i (fun q => ?_) (fun q => ?_)
  · have q' : D.wait = 0 := by simpa using q
    rw [if_pos q', q]
    exact ⟨rfl, rfl⟩
  have q' : ¬ D.wait = 0 := by simpa using q
  rw [if_neg q', q]
  have t2 := rs_doc h1 { D with ops := iAdd .i64 D.ops 1, wait := iSub .i64 D.wait 1 } (o := 13) (v := i64 (iSub .i64 D.wait 1)) ty3 rfl rfl (by omega) rfl
  rw [Mem.put_put] at t2
  simp only [i64] at t2
  simp only [t2, bindO_some]
  have h2 : (M.put p (.cells (docC { D with ops := iAdd .i64 D.ops 1, wait := iSub .i64 D.wait 1 }) true)).get p = some (.cells (docC { D with ops := iAdd .i64 D.ops 1, wait := iSub .i64 D.wait 1 }) true) := by rw [Mem.get_put, if_pos rfl]
  simp only [ra9, bindO_some, zP_ptr, rd_wait h2, i64, zI_int]
  refine condB_i (fun q2 => ?_) (fun q2 => ?_)
  · have q2' : iSub .i64 D.wait 1 > 0 := by simpa using q2
    rw [if_pos q2', q2]
    exact ⟨rfl, rfl⟩
  have q2' : ¬ iSub .i64 D.wait 1 > 0 := by simpa using q2
  rw [if_neg q2', q2]
  have t3 := rs_doc h2 { D with ops := iAdd .i64 D.ops 1, wait := iSub .i64 D.wait 1, off := true } (o := 12) (v := .val (.bool true)) ty4 rfl rfl (by omega) rfl
  rw [Mem.put_put] at t3
  simp only [ra8, bindO_some, zP_ptr, t3]
  have h3 : (M.put p (.cells (docC { D with ops := iAdd .i64 D.ops 1, wait := iSub .i64 D.wait 1, off := true }) true)).get p = some (.cells (docC { D with ops := iAdd .i64 D.ops 1, wait := iSub .i64 D.wait 1, off := true }) true) := by rw [Mem.get_put, if_pos rfl]
  have t4 := rs_doc h3 { D with ops := iAdd .i64 D.ops 1, wait := iSub .i64 D.wait 1, off := true, cuts := iAdd .i64 D.cuts 1 } (o := 11) (v := i64 (iAdd .i64 D.cuts 1)) ty3 rfl rfl (by omega) rfl
  rw [Mem.put_put] at t4
  simp only [i64] at t4
  simp only [ra7, bindO_some, zP_ptr, rd_cuts h3, i64, zI_int, t4]
  exact ⟨rfl, by trivial⟩

end Go.Proofs.Ytjffimbigamadaa

/- The document's chip: Arm, Boot. -/
namespace Go.Proofs.Ytjffimbigamadaa
open Go.AM
end Go.Proofs.Ytjffimbigamadaa

/- The document's chip in memory: pages, numbers of blocks. -/
namespace Go.Proofs.Ytjffimbigamadaa
open Go.AM

theorem ty59 : tb.ty.get 59 = some ⟨.sli 33, 1, 24, [.slice none 0 0], none⟩ := by kernel_rfl

/-- The document's chip: its own cells, its faults, its pages (each a slice, and what it reads as), its numbers; the blocks that they lie in. -/
structure DocS where
  d : Doc
  fs : List Flt
  pg : List (AV × List (BitVec 8))
  nx : List Int
  wr : List Int
  dn : List Int
  pb : Nat
  nb : Nat
  wb : Nat
  db : Nat
def intsI (l : List Int) : List AV := l.map i64
@[simp] theorem intsI_length (l : List Int) : (intsI l).length = l.length := by simp [intsI]
def own (p : Nat) (S : DocS) : List Nat := [p, S.pb, S.nb, S.wb, S.db]

structure DocAt (M : Mem) (p : Nat) (S : DocS) : Prop where
  main : M.get p = some (.cells (docC S.d) true)
  flt : FltsAt M S.d.fsA S.fs
  pgA : S.d.pgA = .sl S.pb 0 S.pg.length S.pg.length (some 1)
  nxA : S.d.nxA = .sl S.nb 0 S.nx.length S.nx.length none
  wrA : S.d.wrA = .sl S.wb 0 S.wr.length S.wr.length none
  dnA : S.d.dnA = .sl S.db 0 S.dn.length S.dn.length none
  pgs : M.get S.pb = some (.cells (S.pg.map (·.1)) true)
  nxs : M.get S.nb = some (.cells (intsI S.nx) true)
  wrs : M.get S.wb = some (.cells (intsI S.wr) true)
  dns : M.get S.db = some (.cells (intsI S.dn) true)
  byt : ∀ q ∈ S.pg, BytesAt M q.1 q.2 ∧ q.1.one = true ∧ ∀ c, inBlk q.1 c → c ∉ own p S
  nd : (own p S).Nodup
  fsx : ∀ c, inBlk S.d.fsA c → c ∉ own p S
  fsl : S.fs.length ≤ 8
  may : mayG S.d.g = true
  pgl : S.pg.length = S.d.g.bl.toNat * S.d.g.pg.toNat
  nxl : S.nx.length = S.d.g.bl.toNat
  wrl : S.wr.length = S.d.g.bl.toNat
  dnl : S.dn.length = S.d.g.bl.toNat
  raw : ∀ q ∈ S.pg, q.2.length = rawN S.d.g
  cby0 : 0 ≤ S.d.cby

theorem DocAt.keep {M N : Mem} {p : Nat} {S : DocS} (h : DocAt M p S) (hw : M.WF) (hk : Keep M N []) : DocAt N p S :=
  ⟨hk.get hw h.main (by simp), SlAt.keep0 h.flt hw hk, h.pgA, h.nxA, h.wrA, h.dnA, hk.get hw h.pgs (by simp), hk.get hw h.nxs (by simp), hk.get hw h.wrs (by simp), hk.get hw h.dns (by simp),
    fun q hq => ⟨SlAt.keep0 (h.byt q hq).1 hw hk, (h.byt q hq).2⟩, h.nd, h.fsx, h.fsl, h.may, h.pgl, h.nxl, h.wrl, h.dnl, h.raw, h.cby0⟩

section
variable {M : Mem} {p : Nat} {S : DocS} (h : DocAt M p S)
include h
theorem DocAt.dg : eLd tb 23 (.ptr p 0) M = some (geoA S.d.g, M) := rd_g h.main
theorem DocAt.dfs : eLd tb 54 (.ptr p 5) M = some (S.d.fsA, M) := eLd_some (ld_cell ty54 rfl h.main rfl)
theorem DocAt.dpg : eLd tb 59 (.ptr p 6) M = some (.sl S.pb 0 S.pg.length S.pg.length (some 1), M) := by
  rw [← h.pgA]; exact eLd_some (ld_cell ty59 rfl h.main rfl)
theorem DocAt.dnx : eLd tb 60 (.ptr p 7) M = some (.sl S.nb 0 S.nx.length S.nx.length none, M) := by
  rw [← h.nxA]; exact eLd_some (ld_cell ty60 rfl h.main rfl)
theorem DocAt.ddn : eLd tb 60 (.ptr p 9) M = some (.sl S.db 0 S.dn.length S.dn.length none, M) := by
  rw [← h.dnA]; exact eLd_some (ld_cell ty60 rfl h.main rfl)

/-- A page's slice. -/
theorem DocAt.page {i : Nat} (hi : i < S.pg.length) : eIA tb 59 (.sl S.pb 0 S.pg.length S.pg.length (some 1)) (.val (.int .i64 (i : Int))) M = some (.ptr S.pb i, M) ∧ eLd tb 33 (.ptr S.pb i) M = some (S.pg[i].1, M) := by
  constructor
  · refine eIA_some ?_
    unfold evIndexAddr
    rw [ty59]
    have h0 : decide (0 ≤ (i : Int)) = true := by simp
    simp only [ty33, Int.toNat_natCast, AM.blt_of hi, cond_true, h0, Nat.zero_add, Nat.mul_one]
  · exact eLd_some (ld_cell ty33 rfl h.pgs (by simp [hi]))
end

/-- An element of a slice of numbers. -/
theorem int_at {M : Mem} {b : Nat} {l : List Int} (hg : M.get b = some (.cells (intsI l) true)) {i : Nat} (hi : i < l.length) :
    eIA tb 60 (.sl b 0 l.length l.length none) (.val (.int .i64 (i : Int))) M = some (.ptr b i, M) ∧ eLd tb 3 (.ptr b i) M = some (i64 l[i], M) := by
  constructor
  · refine eIA_some ?_
    unfold evIndexAddr
    rw [ty60]
    have h0 : decide (0 ≤ (i : Int)) = true := by simp
    simp only [ty3, Int.toNat_natCast, AM.blt_of hi, cond_true, h0, Nat.zero_add, Nat.mul_one]
  · exact eLd_some (ld_cell ty3 rfl hg (by simp [intsI, hi]))
theorem int_set {M : Mem} {b : Nat} {l : List Int} (hg : M.get b = some (.cells (intsI l) true)) {i : Nat} (hi : i < l.length) (z : Int) :
    eSt tb 3 (.ptr b i) (.val (.int .i64 z)) M = some (undefA, M.put b (.cells (intsI (l.set i z)) true)) := by
  have := st_cell (T := tb) (x := i64 z) (o := i) ty3 rfl rfl hg (by simpa using hi)
  have e : (intsI l).set i (i64 z) = intsI (l.set i z) := by simp [intsI, List.map_set]
  rw [e] at this
  exact eSt_some this

end Go.Proofs.Ytjffimbigamadaa

/- The document's chip: Read. -/
namespace Go.Proofs.Ytjffimbigamadaa
open Go.AM

theorem DocAt.setD {M : Mem} {p : Nat} {S : DocS} (h : DocAt M p S) (hw : M.WF) (D' : Doc) (h1 : D'.g = S.d.g) (h2 : D'.fsA = S.d.fsA) (h3 : D'.pgA = S.d.pgA) (h4 : D'.nxA = S.d.nxA) (h5 : D'.wrA = S.d.wrA) (h6 : D'.dnA = S.d.dnA) (h7 : 0 ≤ D'.cby) :
    DocAt (M.put p (.cells (docC D') true)) p { S with d := D' } := by
  have hn := h.nd
  simp only [own, List.nodup_cons, List.mem_cons, List.not_mem_nil, or_false, not_or] at hn
  have get : ∀ c r, c ≠ p → M.get c = some r → (M.put p (.cells (docC D') true)).get c = some r := fun c r hc hr => by rw [Mem.get_put, if_neg hc]; exact hr
  refine ⟨by rw [Mem.get_put, if_pos rfl], ?_, by simp only [h3]; exact h.pgA, by simp only [h4]; exact h.nxA, by simp only [h5]; exact h.wrA, by simp only [h6]; exact h.dnA,
    get _ _ (fun e => hn.1.1 e.symm) h.pgs, get _ _ (fun e => hn.1.2.1 e.symm) h.nxs, get _ _ (fun e => hn.1.2.2.1 e.symm) h.wrs, get _ _ (fun e => hn.1.2.2.2 e.symm) h.dns,
    fun q hq => ⟨SlAt.mono (h.byt q hq).1 fun c r hc hr => get c r (fun e => (h.byt q hq).2.2 c hc (by rw [e]; simp [own])) hr, (h.byt q hq).2⟩, h.nd, by simp only [h2]; exact h.fsx, h.fsl, by simp only [h1]; exact h.may, by simp only [h1]; exact h.pgl, by simp only [h1]; exact h.nxl, by simp only [h1]; exact h.wrl, by simp only [h1]; exact h.dnl, by simp only [h1]; exact h.raw, h7⟩
  simp only [h2]
  exact SlAt.mono h.flt fun c r hc hr => get c r (fun e => h.fsx c hc (by rw [e]; simp [own])) hr

theorem trD_same (D : Doc) : (trD D).g = D.g ∧ (trD D).fsA = D.fsA ∧ (trD D).pgA = D.pgA ∧ (trD D).nxA = D.nxA ∧ (trD D).wrA = D.wrA ∧ (trD D).dnA = D.dnA ∧ (trD D).cby = D.cby ∧ (trD D).cf = D.cf := by
  unfold trD
  split
  · exact ⟨rfl, rfl, rfl, rfl, rfl, rfl, rfl, rfl⟩
  · split <;> exact ⟨rfl, rfl, rfl, rfl, rfl, rfl, rfl, rfl⟩

/-- One operation more, for the whole. -/
theorem d_turn (M : Mem) (hw : M.WF) (p : Nat) (S : DocS) (h : DocAt M p S) : CallA tb.P 112 [.ptr p 0] M fun y N => y = .val (.bool (trn S.d)) ∧ DocAt N p { S with d := trD S.d } ∧ Keep M N [p] := by
  refine (r_turn M p S.d h.main).mono ?_
  rintro y N ⟨rfl, rfl⟩
  obtain ⟨a1, a2, a3, a4, a5, a6, a7, _⟩ := trD_same S.d
  exact ⟨rfl, h.setD hw _ a1 a2 a3 a4 a5 a6 (by rw [a7]; exact h.cby0), Keep.put hw (hw _ _ h.main) _⟩

end Go.Proofs.Ytjffimbigamadaa

/- The document's chip: There, Fails. -/
namespace Go.Proofs.Ytjffimbigamadaa
open Go.AM
end Go.Proofs.Ytjffimbigamadaa

/- The document's chip: what is written. -/
namespace Go.Proofs.Ytjffimbigamadaa
open Go.AM

theorem own_ne {p : Nat} {S : DocS} (h : (own p S).Nodup) : p ≠ S.pb ∧ p ≠ S.nb ∧ p ≠ S.wb ∧ p ≠ S.db ∧ S.pb ≠ S.nb ∧ S.pb ≠ S.wb ∧ S.pb ≠ S.db ∧ S.nb ≠ S.wb ∧ S.nb ≠ S.db ∧ S.wb ≠ S.db := by
  simp only [own, List.nodup_cons, List.mem_cons, List.not_mem_nil, or_false, not_or] at h
  exact ⟨h.1.1, h.1.2.1, h.1.2.2.1, h.1.2.2.2, h.2.1.1, h.2.1.2.1, h.2.1.2.2, h.2.2.1.1, h.2.2.1.2, h.2.2.2.1⟩

theorem DocAt.setNx {M : Mem} {p : Nat} {S : DocS} (h : DocAt M p S) (hw : M.WF) (i : Nat) (z : Int) : DocAt (M.put S.nb (.cells (intsI (S.nx.set i z)) true)) p { S with nx := S.nx.set i z } := by
  have hn := own_ne h.nd
  have get : ∀ c r, c ≠ S.nb → M.get c = some r → (M.put S.nb (.cells (intsI (S.nx.set i z)) true)).get c = some r := fun c r hc hr => by rw [Mem.get_put, if_neg hc]; exact hr
  refine ⟨get _ _ (fun e => hn.2.1 e) h.main, SlAt.mono h.flt fun c r hc hr => get c r (fun e => h.fsx c hc (by rw [e]; simp [own])) hr, h.pgA, by simp only [List.length_set]; exact h.nxA, h.wrA, h.dnA, get _ _ (fun e => hn.2.2.2.2.1 e) h.pgs, by rw [Mem.get_put, if_pos rfl], get _ _ (fun e => hn.2.2.2.2.2.2.2.1 e.symm) h.wrs, get _ _ (fun e => hn.2.2.2.2.2.2.2.2.1 e.symm) h.dns,
    fun q hq => ⟨SlAt.mono (h.byt q hq).1 fun c r hc hr => get c r (fun e => (h.byt q hq).2.2 c hc (by rw [e]; simp [own])) hr, (h.byt q hq).2⟩, h.nd, h.fsx, h.fsl, h.may, h.pgl, by simp only [List.length_set]; exact h.nxl, h.wrl, h.dnl, h.raw, h.cby0⟩

theorem DocAt.setDn {M : Mem} {p : Nat} {S : DocS} (h : DocAt M p S) (hw : M.WF) (i : Nat) (z : Int) : DocAt (M.put S.db (.cells (intsI (S.dn.set i z)) true)) p { S with dn := S.dn.set i z } := by
  have hn := own_ne h.nd
  have get : ∀ c r, c ≠ S.db → M.get c = some r → (M.put S.db (.cells (intsI (S.dn.set i z)) true)).get c = some r := fun c r hc hr => by rw [Mem.get_put, if_neg hc]; exact hr
  refine ⟨get _ _ (fun e => hn.2.2.2.1 e) h.main, SlAt.mono h.flt fun c r hc hr => get c r (fun e => h.fsx c hc (by rw [e]; simp [own])) hr, h.pgA, h.nxA, h.wrA, by simp only [List.length_set]; exact h.dnA, get _ _ (fun e => hn.2.2.2.2.2.2.1 e) h.pgs, get _ _ (fun e => hn.2.2.2.2.2.2.2.2.1 e) h.nxs, get _ _ (fun e => hn.2.2.2.2.2.2.2.2.2 e) h.wrs, by rw [Mem.get_put, if_pos rfl],
    fun q hq => ⟨SlAt.mono (h.byt q hq).1 fun c r hc hr => get c r (fun e => (h.byt q hq).2.2 c hc (by rw [e]; simp [own])) hr, (h.byt q hq).2⟩, h.nd, h.fsx, h.fsl, h.may, h.pgl, h.nxl, h.wrl, by simp only [List.length_set]; exact h.dnl, h.raw, h.cby0⟩

/-- A page is replaced. -/
theorem DocAt.setPg {M : Mem} {p : Nat} {S : DocS} (h : DocAt M p S) (hw : M.WF) (i : Nat) (u : AV) (l : List (BitVec 8)) (hu : BytesAt M u l) (h1 : u.one = true) (hd : ∀ c, inBlk u c → c ∉ own p S) (hl : l.length = rawN S.d.g) :
    DocAt (M.put S.pb (.cells ((S.pg.set i (u, l)).map (·.1)) true)) p { S with pg := S.pg.set i (u, l) } := by
  have hn := own_ne h.nd
  have get : ∀ c r, c ≠ S.pb → M.get c = some r → (M.put S.pb (.cells ((S.pg.set i (u, l)).map (·.1)) true)).get c = some r := fun c r hc hr => by rw [Mem.get_put, if_neg hc]; exact hr
  refine ⟨get _ _ (fun e => hn.1 e) h.main, SlAt.mono h.flt fun c r hc hr => get c r (fun e => h.fsx c hc (by rw [e]; simp [own])) hr, by simp only [List.length_set]; exact h.pgA, h.nxA, h.wrA, h.dnA, by rw [Mem.get_put, if_pos rfl], get _ _ (fun e => hn.2.2.2.2.1 e.symm) h.nxs, get _ _ (fun e => hn.2.2.2.2.2.1 e.symm) h.wrs, get _ _ (fun e => hn.2.2.2.2.2.2.1 e.symm) h.dns,
    fun q hq => ?_, h.nd, h.fsx, h.fsl, h.may, by simp only [List.length_set]; exact h.pgl, h.nxl, h.wrl, h.dnl, fun q hq => ?_, h.cby0⟩
  · rcases List.mem_or_eq_of_mem_set hq with hq | rfl
    · exact ⟨SlAt.mono (h.byt q hq).1 fun c r hc hr => get c r (fun e => (h.byt q hq).2.2 c hc (by rw [e]; simp [own])) hr, (h.byt q hq).2⟩
    · exact ⟨SlAt.mono hu fun c r hc hr => get c r (fun e => hd c hc (by rw [e]; simp [own])) hr, h1, hd⟩
  · rcases List.mem_or_eq_of_mem_set hq with hq | rfl
    · exact h.raw q hq
    · exact hl

end Go.Proofs.Ytjffimbigamadaa
