import Derived.Test.YtmifiialedlcnaaG1
set_option linter.unusedSimpArgs false
set_option linter.unusedVariables false
/- Geometries. -/
namespace Go.Proofs.Ytmifiialedlcnaa
open Go.AM

structure Geo where
  bl : Int
  pg : Int
  by' : Int
  sp : Int
  tr : Int
def geoC (g : Geo) : List AV := [i64 g.bl, i64 g.pg, i64 g.by', i64 g.sp, i64 g.tr]
def geoA (g : Geo) : AV := .agg (geoC g)
def placeA (b p : Int) : AV := .agg [i64 b, i64 p]
def inB (a lo hi : Int) : Bool := decide (lo ≤ a) && decide (a ≤ hi)
def mayG (g : Geo) : Bool := inB g.bl 8 20 && (inB g.pg 4 8 && (inB g.by' 24 64 && (inB g.sp 0 4 && (inB g.tr 2 20 && decide (12 ≤ (g.bl - g.sp - 3) * g.pg)))))

theorem ty23 : tb.ty.get 23 = some ⟨.st [(0, 1, false), (1, 1, false), (2, 1, false), (3, 1, false), (4, 1, false)], 5, 40, [.int .i64 0, .int .i64 0, .int .i64 0, .int .i64 0, .int .i64 0], some [3, 3, 3, 3, 3]⟩ := by kernel_rfl
theorem ty30 : tb.ty.get 30 = some ⟨.st [(0, 1, false), (1, 1, false)], 2, 16, [.int .i64 0, .int .i64 0], some [3, 3]⟩ := by kernel_rfl
theorem ty4 : tb.ty.get 4 = some ⟨.bool, 1, 1, [.bool false], none⟩ := by kernel_rfl

theorem mayG_iff {g : Geo} : mayG g = true ↔ (8 ≤ g.bl ∧ g.bl ≤ 20) ∧ (4 ≤ g.pg ∧ g.pg ≤ 8) ∧ (24 ≤ g.by' ∧ g.by' ≤ 64) ∧ (0 ≤ g.sp ∧ g.sp ≤ 4) ∧ (2 ≤ g.tr ∧ g.tr ≤ 20) ∧ 12 ≤ (g.bl - g.sp - 3) * g.pg := by
  unfold mayG inB
  simp only [Bool.and_eq_true, decide_eq_true_eq]

theorem geo_ld {M : Mem} {b : Nat} {g : Geo} {rw' : Bool} (hg : M.get b = some (.cells (geoC g) rw')) :
    evLoad tb 3 (.ptr b 0) M = some (i64 g.bl) ∧ evLoad tb 3 (.ptr b 1) M = some (i64 g.pg) ∧ evLoad tb 3 (.ptr b 2) M = some (i64 g.by') ∧ evLoad tb 3 (.ptr b 3) M = some (i64 g.sp) ∧ evLoad tb 3 (.ptr b 4) M = some (i64 g.tr) ∧ evLoad tb 23 (.ptr b 0) M = some (geoA g) :=
  ⟨ld_cell ty3 rfl hg rfl, ld_cell ty3 rfl hg rfl, ld_cell ty3 rfl hg rfl, ld_cell ty3 rfl hg rfl, ld_cell ty3 rfl hg rfl, ld_agg (n := 5) ty23 rfl rfl hg (by simp [geoC])⟩

theorem place_ld {M : Mem} {b : Nat} {k p : Int} {rw' : Bool} (hg : M.get b = some (.cells [i64 k, i64 p] rw')) :
    evLoad tb 3 (.ptr b 0) M = some (i64 k) ∧ evLoad tb 3 (.ptr b 1) M = some (i64 p) ∧ evLoad tb 30 (.ptr b 0) M = some (placeA k p) :=
  ⟨ld_cell ty3 rfl hg rfl, ld_cell ty3 rfl hg rfl, ld_agg (n := 2) ty30 rfl rfl hg (by simp)⟩

theorem get_new (M : Mem) (r : Row) : (M.new r).get M.next = some r := by rw [Mem.get_new, if_pos rfl]

theorem mul_bnd {a b : Int} (ha : -1000 ≤ a) (ha2 : a ≤ 1000) (hb : 0 ≤ b) (hb2 : b ≤ 1000) : -1000000 ≤ a * b ∧ a * b ≤ 1000000 := by
  constructor
  · have h1 : (-1000) * b ≤ a * b := Int.mul_le_mul_of_nonneg_right ha hb
    omega
  · have h1 : a * b ≤ 1000 * b := Int.mul_le_mul_of_nonneg_right ha2 hb
    omega

theorem half_eq {bl sp pg : Int} (h1 : 8 ≤ bl ∧ bl ≤ 20) (h2 : 4 ≤ pg ∧ pg ≤ 8) (h3 : 0 ≤ sp ∧ sp ≤ 4) : iSub .i64 (iMul .i64 (iSub .i64 (iSub .i64 bl sp) 3) pg) 4 = (bl - sp - 3) * pg - 4 ∧ -1000000 ≤ (bl - sp - 3) * pg ∧ (bl - sp - 3) * pg ≤ 1000000 := by
  have hm := mul_bnd (a := bl - sp - 3) (b := pg) (by omega) (by omega) (by omega) (by omega)
  refine ⟨?_, hm⟩
  have e1 : iSub .i64 bl sp = bl - sp := by rw [iSub, wrap_i64' (by omega) (by omega)]
  have e2 : iSub .i64 (bl - sp) 3 = bl - sp - 3 := by rw [iSub, wrap_i64' (by omega) (by omega)]
  have e3 : iMul .i64 (bl - sp - 3) pg = (bl - sp - 3) * pg := by rw [iMul, wrap_i64' (by omega) (by omega)]
  rw [e1, e2, e3, iSub, wrap_i64' (by omega) (by omega)]

theorem c_in120 (M : Mem) (a b c : Int) : CallA tb.P 120 [i64 a, i64 b, i64 c] M fun y N => y = .val (.bool (inB a b c)) ∧ N = M := by
  refine F120_ok ?_
  unfold F120 inB
  simp only [i64, zI_int, letP_eq]
  refine condB_i (fun h => ?_) (fun h => ?_)
  · have h : b ≤ a := by simpa using h
    simp [h]
  · have h : ¬ b ≤ a := by simpa using h
    simp [h]

theorem c_in66 (M : Mem) (a b c : Int) : CallA tb.P 66 [i64 a, i64 b, i64 c] M fun y N => y = .val (.bool (inB a b c)) ∧ N = M := by
  refine F66_ok ?_
  unfold F66 inB
  simp only [i64, zI_int, letP_eq]
  refine condB_i (fun h => ?_) (fun h => ?_)
  · have h : b ≤ a := by simpa using h
    simp [h]
  · have h : ¬ b ≤ a := by simpa using h
    simp [h]

theorem c_half121 (M : Mem) (hw : M.WF) (g : Geo) (h1 : 8 ≤ g.bl ∧ g.bl ≤ 20) (h2 : 4 ≤ g.pg ∧ g.pg ≤ 8) (h3 : 0 ≤ g.sp ∧ g.sp ≤ 4) : CallA tb.P 121 [geoA g] M fun y N => (∃ z, y = i64 z ∧ decide (z ≥ 4) = decide (12 ≤ (g.bl - g.sp - 3) * g.pg)) ∧ Keep M N [] := by
  refine F121_ok ?_
  unfold F121
  refine ⟨_, _, _, _, _, rfl, ?_⟩
  simp only [letP_eq]
  have hg := get_new M (.cells (geoC g) true)
  obtain ⟨l0, l1, l2, l3, l4, _⟩ := geo_ld hg
  have hK := Keep.new hw (.cells (geoC g) true)
  refine bindO_i (eLd_some l0) ?_
  simp only [i64, zI_int]
  refine bindO_i (eLd_some l3) ?_
  simp only [i64, zI_int]
  refine bindO_i (eLd_some l1) ?_
  simp only [i64, zI_int]
  obtain ⟨e, hb1, hb2⟩ := half_eq h1 h2 h3
  rw [e]
  generalize (g.bl - g.sp - 3) * g.pg = m at hb1 hb2 ⊢
  refine ⟨⟨_, rfl, ?_⟩, hK⟩
  by_cases hp : 0 ≤ m - 4
  · rw [iQuo, Int.tdiv_eq_ediv_of_nonneg hp, wrap_i64' (by omega) (by omega), decide_eq_decide]
    omega
  · have e5 : (m - 4).tdiv 2 = - ((4 - m) / 2) := by
      rw [show m - 4 = -(4 - m) by omega, Int.neg_tdiv, Int.tdiv_eq_ediv_of_nonneg (by omega)]
    rw [iQuo, e5, wrap_i64' (by omega) (by omega), decide_eq_decide]
    omega

theorem c_half67 (M : Mem) (hw : M.WF) (g : Geo) (h1 : 8 ≤ g.bl ∧ g.bl ≤ 20) (h2 : 4 ≤ g.pg ∧ g.pg ≤ 8) (h3 : 0 ≤ g.sp ∧ g.sp ≤ 4) : CallA tb.P 67 [geoA g] M fun y N => (∃ z, y = i64 z ∧ decide (z ≥ 4) = decide (12 ≤ (g.bl - g.sp - 3) * g.pg)) ∧ Keep M N [] := by
  refine F67_ok ?_
  unfold F67
  refine ⟨_, _, _, _, _, rfl, ?_⟩
  simp only [letP_eq]
  have hg := get_new M (.cells (geoC g) true)
  obtain ⟨l0, l1, l2, l3, l4, _⟩ := geo_ld hg
  have hK := Keep.new hw (.cells (geoC g) true)
  refine bindO_i (eLd_some l0) ?_
  simp only [i64, zI_int]
  refine bindO_i (eLd_some l3) ?_
  simp only [i64, zI_int]
  refine bindO_i (eLd_some l1) ?_
  simp only [i64, zI_int]
  obtain ⟨e, hb1, hb2⟩ := half_eq h1 h2 h3
  rw [e]
  generalize (g.bl - g.sp - 3) * g.pg = m at hb1 hb2 ⊢
  have hmx : eMax tb #[3, 3] 3 [.int .i64 (m - 4), .int .i64 0] (M.new (.cells (geoC g) true)) = some (.val (.int .i64 (if m - 4 < 0 then 0 else m - 4)), M.new (.cells (geoC g) true)) := rfl
  refine bindO_i hmx ?_
  simp only [zI_int]
  refine ⟨⟨_, rfl, ?_⟩, hK⟩
  have hp : 0 ≤ (if m - 4 < 0 then (0 : Int) else m - 4) ∧ (if m - 4 < 0 then (0 : Int) else m - 4) ≤ 1000000 := by split <;> omega
  rw [iQuo, Int.tdiv_eq_ediv_of_nonneg hp.1, wrap_i64' (by omega) (by omega), decide_eq_decide]
  split <;> omega

theorem c_may102 (M : Mem) (hw : M.WF) (g : Geo) : CallA tb.P 102 [geoA g] M fun y N => y = .val (.bool (mayG g)) ∧ Keep M N [] := by
  refine F102_ok ?_
  unfold F102
  refine ⟨_, _, _, _, _, rfl, ?_⟩
  simp only [letP_eq]
  have hg := get_new M (.cells (geoC g) true)
  obtain ⟨l0, l1, l2, l3, l4, l5⟩ := geo_ld hg
  have hK := Keep.new hw (.cells (geoC g) true)
  unfold mayG
  refine bindO_i (eLd_some l0) ?_
  simp only [i64, zI_int]
  refine (c_in120 _ g.bl 8 20).mono ?_
  rintro y N ⟨rfl, rfl⟩
  simp only [zB_bool]
  generalize hh0 : inB g.bl 8 20 = q0
  refine condB_i (fun h => ?_) (fun h => ⟨by rw [h]; rfl, hK⟩)
  subst h
  rw [Bool.true_and]
  refine bindO_i (eLd_some l1) ?_
  simp only [i64, zI_int]
  refine (c_in120 _ g.pg 4 8).mono ?_
  rintro y N ⟨rfl, rfl⟩
  simp only [zB_bool]
  generalize hh1 : inB g.pg 4 8 = q1
  refine condB_i (fun h => ?_) (fun h => ⟨by rw [h]; rfl, hK⟩)
  subst h
  rw [Bool.true_and]
  refine bindO_i (eLd_some l2) ?_
  simp only [i64, zI_int]
  refine (c_in120 _ g.by' 24 64).mono ?_
  rintro y N ⟨rfl, rfl⟩
  simp only [zB_bool]
  generalize hh2 : inB g.by' 24 64 = q2
  refine condB_i (fun h => ?_) (fun h => ⟨by rw [h]; rfl, hK⟩)
  subst h
  rw [Bool.true_and]
  refine bindO_i (eLd_some l3) ?_
  simp only [i64, zI_int]
  refine (c_in120 _ g.sp 0 4).mono ?_
  rintro y N ⟨rfl, rfl⟩
  simp only [zB_bool]
  generalize hh3 : inB g.sp 0 4 = q3
  refine condB_i (fun h => ?_) (fun h => ⟨by rw [h]; rfl, hK⟩)
  subst h
  rw [Bool.true_and]
  refine bindO_i (eLd_some l4) ?_
  simp only [i64, zI_int]
  refine (c_in120 _ g.tr 2 20).mono ?_
  rintro y N ⟨rfl, rfl⟩
  simp only [zB_bool]
  generalize hh4 : inB g.tr 2 20 = q4
  refine condB_i (fun h => ?_) (fun h => ⟨by rw [h]; rfl, hK⟩)
  subst h
  rw [Bool.true_and]
  refine bindO_i (eLd_some l5) ?_
  refine ⟨_, _, _, _, _, rfl, ?_⟩
  unfold inB at hh0 hh1 hh3
  simp only [Bool.and_eq_true, decide_eq_true_eq] at hh0 hh1 hh3
  refine (c_half121 _ hK.wf g hh0 hh1 hh3).mono ?_
  rintro y N ⟨⟨z, rfl, hz⟩, hk2⟩
  simp only [i64, zI_int]
  exact ⟨by rw [hz], hK.trans0 hk2⟩

theorem c_may16 (M : Mem) (hw : M.WF) (g : Geo) : CallA tb.P 16 [geoA g] M fun y N => y = .val (.bool (mayG g)) ∧ Keep M N [] := by
  refine F16_ok ?_
  unfold F16
  refine ⟨_, _, _, _, _, rfl, ?_⟩
  simp only [letP_eq]
  have hg := get_new M (.cells (geoC g) true)
  obtain ⟨l0, l1, l2, l3, l4, l5⟩ := geo_ld hg
  have hK := Keep.new hw (.cells (geoC g) true)
  unfold mayG
  refine bindO_i (eLd_some l0) ?_
  simp only [i64, zI_int]
  refine (c_in66 _ g.bl 8 20).mono ?_
  rintro y N ⟨rfl, rfl⟩
  simp only [zB_bool]
  generalize hh0 : inB g.bl 8 20 = q0
  refine condB_i (fun h => ?_) (fun h => ⟨by rw [h]; rfl, hK⟩)
  subst h
  rw [Bool.true_and]
  refine bindO_i (eLd_some l1) ?_
  simp only [i64, zI_int]
  refine (c_in66 _ g.pg 4 8).mono ?_
  rintro y N ⟨rfl, rfl⟩
  simp only [zB_bool]
  generalize hh1 : inB g.pg 4 8 = q1
  refine condB_i (fun h => ?_) (fun h => ⟨by rw [h]; rfl, hK⟩)
  subst h
  rw [Bool.true_and]
  refine bindO_i (eLd_some l2) ?_
  simp only [i64, zI_int]
  refine (c_in66 _ g.by' 24 64).mono ?_
  rintro y N ⟨rfl, rfl⟩
  simp only [zB_bool]
  generalize hh2 : inB g.by' 24 64 = q2
  refine condB_i (fun h => ?_) (fun h => ⟨by rw [h]; rfl, hK⟩)
  subst h
  rw [Bool.true_and]
  refine bindO_i (eLd_some l3) ?_
  simp only [i64, zI_int]
  refine (c_in66 _ g.sp 0 4).mono ?_
  rintro y N ⟨rfl, rfl⟩
  simp only [zB_bool]
  generalize hh3 : inB g.sp 0 4 = q3
  refine condB_i (fun h => ?_) (fun h => ⟨by rw [h]; rfl, hK⟩)
  subst h
  rw [Bool.true_and]
  refine bindO_i (eLd_some l4) ?_
  simp only [i64, zI_int]
  refine (c_in66 _ g.tr 2 20).mono ?_
  rintro y N ⟨rfl, rfl⟩
  simp only [zB_bool]
  generalize hh4 : inB g.tr 2 20 = q4
  refine condB_i (fun h => ?_) (fun h => ⟨by rw [h]; rfl, hK⟩)
  subst h
  rw [Bool.true_and]
  refine bindO_i (eLd_some l5) ?_
  refine ⟨_, _, _, _, _, rfl, ?_⟩
  unfold inB at hh0 hh1 hh3
  simp only [Bool.and_eq_true, decide_eq_true_eq] at hh0 hh1 hh3
  refine (c_half67 _ hK.wf g hh0 hh1 hh3).mono ?_
  rintro y N ⟨⟨z, rfl, hz⟩, hk2⟩
  simp only [i64, zI_int]
  exact ⟨by rw [hz], hK.trans0 hk2⟩

/-! ## Of a geometry that may be -/

def rawN (g : Geo) : Nat := (g.by' + 16).toNat
def isG (g : Geo) (b p : Int) : Bool := inB b 0 (g.bl - 1) && inB p 0 (g.pg - 1)

theorem c_when (M : Mem) (hw : M.WF) (g : Geo) (h : mayG g = true) (n : Int) : CallA tb.P 110 [geoA g, i64 n] M fun y N => y = i64 n ∧ Keep M N [] := by
  refine F110_ok ?_
  unfold F110
  refine ⟨_, _, _, _, _, rfl, ?_⟩
  simp only [letP_eq, i64, zI_int]
  have hg := get_new M (.cells (geoC g) true)
  obtain ⟨l0, l1, l2, l3, l4, l5⟩ := geo_ld hg
  have hK := Keep.new hw (.cells (geoC g) true)
  refine bindO_i (eLd_some l5) ?_
  refine ⟨_, _, _, _, _, rfl, ?_⟩
  refine (c_may102 _ hK.wf g).mono ?_
  rintro y N ⟨rfl, hk⟩
  simp only [zB_bool, h]
  exact condB_i (fun h => by simp at h) (fun _ => ⟨by trivial, hK.trans0 hk⟩)

theorem c_raw (M : Mem) (hw : M.WF) (g : Geo) (h : mayG g = true) : CallA tb.P 65 [geoA g] M fun y N => y = i64 (rawN g) ∧ Keep M N [] := by
  refine F65_ok ?_
  unfold F65
  refine ⟨_, _, _, _, _, rfl, ?_⟩
  simp only [letP_eq]
  have hg := get_new M (.cells (geoC g) true)
  obtain ⟨l0, l1, l2, l3, l4, l5⟩ := geo_ld hg
  have hK := Keep.new hw (.cells (geoC g) true)
  refine bindO_i (eLd_some l5) ?_
  refine ⟨_, _, _, _, _, rfl, ?_⟩
  refine bindO_i (eLd_some l2) ?_
  simp only [i64, zI_int]
  refine bindO_i (eLd_some l5) ?_
  refine ⟨_, _, _, _, _, rfl, ?_⟩
  refine (c_when _ hK.wf g h _).mono ?_
  rintro y N ⟨rfl, hk⟩
  simp only [i64, zI_int]
  have hg2 := hk.get hK.wf hg (by simp)
  obtain ⟨_, _, _, _, _, m5⟩ := geo_ld hg2
  refine ⟨bindO_i (eLd_some m5) rfl, ?_⟩
  refine (c_when _ hk.wf g h _).mono ?_
  rintro y N' ⟨rfl, hk'⟩
  simp only [i64, zI_int]
  refine ⟨?_, hK.trans0 (hk.trans0 hk')⟩
  have hm := mayG_iff.1 h
  rw [iAdd, wrap_i64' (by omega) (by omega)]
  unfold rawN
  congr 3
  omega

theorem c_is (M : Mem) (hw : M.WF) (g : Geo) (h : mayG g = true) (b p : Int) : CallA tb.P 127 [geoA g, placeA b p] M fun y N => y = .val (.bool (isG g b p)) ∧ Keep M N [] := by
  refine F127_ok ?_
  unfold F127
  refine ⟨_, _, _, _, _, rfl, _, _, rfl, ?_⟩
  simp only [letP_eq]
  have hg := get_new M (.cells (geoC g) true)
  have hK := Keep.new hw (.cells (geoC g) true)
  have hK2 := Keep.new hK.wf (.cells [i64 b, i64 p] true)
  have hg2 := hK2.get hK.wf hg (by simp)
  have hp2 := get_new (M.new (.cells (geoC g) true)) (.cells [i64 b, i64 p] true)
  obtain ⟨l0, l1, l2, l3, l4, l5⟩ := geo_ld hg2
  refine bindO_i (eLd_some l5) ?_
  refine ⟨_, _, _, _, _, rfl, ?_⟩
  refine (c_may102 _ hK2.wf g).mono ?_
  rintro y N ⟨rfl, hk⟩
  simp only [zB_bool, h]
  refine condB_i (fun _ => ?_) (fun h => by simp at h)
  have hgN := hk.get hK2.wf hg2 (by simp)
  have hpN := hk.get hK2.wf hp2 (by simp)
  obtain ⟨k0, k1, _⟩ := geo_ld hgN
  obtain ⟨p0, p1, _⟩ := place_ld hpN
  have hm := mayG_iff.1 h
  have hall := hK.trans0 (hK2.trans0 hk)
  unfold isG
  refine bindO_i (eLd_some p0) ?_
  simp only [i64, zI_int]
  refine bindO_i (eLd_some k0) ?_
  simp only [i64, zI_int]
  rw [show iSub .i64 g.bl 1 = g.bl - 1 by rw [iSub, wrap_i64' (by omega) (by omega)]]
  refine (c_in120 _ _ _ _).mono ?_
  rintro y N' ⟨rfl, rfl⟩
  simp only [zB_bool]
  refine condB_i (fun hb => ?_) (fun hb => ⟨by rw [hb]; rfl, hall⟩)
  rw [hb, Bool.true_and]
  refine bindO_i (eLd_some p1) ?_
  simp only [i64, zI_int]
  refine bindO_i (eLd_some k1) ?_
  simp only [i64, zI_int]
  rw [show iSub .i64 g.pg 1 = g.pg - 1 by rw [iSub, wrap_i64' (by omega) (by omega)]]
  refine (c_in120 _ _ _ _).mono ?_
  rintro y N' ⟨rfl, rfl⟩
  simp only [zB_bool]
  exact ⟨by trivial, hall⟩

/-- Is the place's number below 0? -/
theorem c_number (M : Mem) (hw : M.WF) (g : Geo) (h : mayG g = true) (b p : Int) : CallA tb.P 111 [geoA g, placeA b p] M fun y N => (∃ z, y = i64 z ∧ decide (z < 0) = !isG g b p) ∧ Keep M N [] := by
  refine F111_ok ?_
  unfold F111
  refine ⟨_, _, _, _, _, rfl, _, _, rfl, ?_⟩
  simp only [letP_eq]
  have hg := get_new M (.cells (geoC g) true)
  have hK := Keep.new hw (.cells (geoC g) true)
  have hK2 := Keep.new hK.wf (.cells [i64 b, i64 p] true)
  have hg2 := hK2.get hK.wf hg (by simp)
  have hp2 := get_new (M.new (.cells (geoC g) true)) (.cells [i64 b, i64 p] true)
  obtain ⟨l0, l1, l2, l3, l4, l5⟩ := geo_ld hg2
  refine bindO_i (eLd_some l5) ?_
  refine ⟨_, _, _, _, _, rfl, ?_⟩
  refine (c_may102 _ hK2.wf g).mono ?_
  rintro y N ⟨rfl, hk⟩
  simp only [zB_bool, h]
  refine condB_i (fun h => by simp at h) (fun _ => ?_)
  have hgN := hk.get hK2.wf hg2 (by simp)
  have hpN := hk.get hK2.wf hp2 (by simp)
  obtain ⟨_, _, _, _, _, k5⟩ := geo_ld hgN
  obtain ⟨_, _, p2⟩ := place_ld hpN
  refine bindO_i (eLd_some k5) ?_
  refine ⟨_, _, _, _, _, rfl, ?_⟩
  refine bindO_i (eLd_some p2) ?_
  refine ⟨_, _, rfl, ?_⟩
  refine (c_is _ hk.wf g h b p).mono ?_
  rintro y N' ⟨rfl, hk'⟩
  simp only [zB_bool]
  have hall := hK.trans0 (hK2.trans0 (hk.trans0 hk'))
  refine condB_i (fun hi => ?_) (fun hi => ?_)
  · refine ⟨⟨-1, rfl, ?_⟩, hall⟩
    rw [hi]; rfl
  have hi : isG g b p = true := by simpa using hi
  obtain ⟨_, k1, _⟩ := geo_ld (hk'.get hk.wf hgN (by simp))
  obtain ⟨p0, p1, _⟩ := place_ld (hk'.get hk.wf hpN (by simp))
  refine bindO_i (eLd_some p0) ?_
  simp only [i64, zI_int]
  refine bindO_i (eLd_some k1) ?_
  simp only [i64, zI_int]
  refine bindO_i (eLd_some p1) ?_
  simp only [i64, zI_int]
  refine ⟨⟨_, rfl, ?_⟩, hall⟩
  rw [hi]
  unfold isG inB at hi
  simp only [Bool.and_eq_true, decide_eq_true_eq] at hi
  have hm := mayG_iff.1 h
  have hb := mul_bnd (a := b) (b := g.pg) (by omega) (by omega) (by omega) (by omega)
  have hn : 0 ≤ b * g.pg := Int.mul_nonneg (by omega) (by omega)
  rw [iMul, wrap_i64' (n := b * g.pg) (by omega) (by omega), iAdd, wrap_i64' (by omega) (by omega)]
  simp only [Bool.not_true, decide_eq_false_iff_not]
  omega

end Go.Proofs.Ytmifiialedlcnaa
