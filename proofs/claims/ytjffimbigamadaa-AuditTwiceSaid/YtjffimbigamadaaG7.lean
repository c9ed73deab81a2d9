import Derived.Test.YtjffimbigamadaaB3
import Derived.Test.YtjffimbigamadaaG1
set_option linter.unusedSimpArgs false
set_option linter.unusedVariables false
set_option linter.unusedSectionVars false
/- Geometries. -/
namespace Go.Proofs.Ytjffimbigamadaa
open Go.AM

structure Geo where
  bl : Int
  pg : Int
  by' : Int
  sp : Int
  tr : Int
def geoC (g : Geo) : List AV := [i64 g.bl, i64 g.pg, i64 g.by', i64 g.sp, i64 g.tr]
def geoA (g : Geo) : AV := .agg (geoC g)
def placeA (b p : Int) : AV := .agg [i64 b, i64 p]
def inB (a lo hi : Int) : Bool := decide (lo ≤ a) && decide (a ≤ hi)
def mayG (g : Geo) : Bool := inB g.bl 8 20 && (inB g.pg 4 8 && (inB g.by' 24 64 && (inB g.sp 0 4 && (inB g.tr 2 20 && decide (12 ≤ (g.bl - g.sp - 3) * g.pg)))))

theorem ty23 : tb.ty.get 23 = some ⟨.st [(0, 1, false), (1, 1, false), (2, 1, false), (3, 1, false), (4, 1, false)], 5, 40, [.int .i64 0, .int .i64 0, .int .i64 0, .int .i64 0, .int .i64 0], some [3, 3, 3, 3, 3]⟩ := by kernel_rfl
theorem ty30 : tb.ty.get 30 = some ⟨.st [(0, 1, false), (1, 1, false)], 2, 16, [.int .i64 0, .int .i64 0], some [3, 3]⟩ := by kernel_rfl
theorem ty4 : tb.ty.get 4 = some ⟨.bool, 1, 1, [.bool false], none⟩ := by kernel_rfl

theorem mayG_iff {g : Geo} : mayG g = true ↔ (8 ≤ g.bl ∧ g.bl ≤ 20) ∧ (4 ≤ g.pg ∧ g.pg ≤ 8) ∧ (24 ≤ g.by' ∧ g.by' ≤ 64) ∧ (0 ≤ g.sp ∧ g.sp ≤ 4) ∧ (2 ≤ g.tr ∧ g.tr ≤ 20) ∧ 12 ≤ (g.bl - g.sp - 3) * g.pg := by
  unfold mayG inB
  simp only [Bool.and_eq_true, decide_eq_true_eq]

theorem geo_ld {M : Mem} {b : Nat} {g : Geo} {rw' : Bool} (hg : M.get b = some (.cells (geoC g) rw')) :
    evLoad tb 3 (.ptr b 0) M = some (i64 g.bl) ∧ evLoad tb 3 (.ptr b 1) M = some (i64 g.pg) ∧ evLoad tb 3 (.ptr b 2) M = some (i64 g.by') ∧ evLoad tb 3 (.ptr b 3) M = some (i64 g.sp) ∧ evLoad tb 3 (.ptr b 4) M = some (i64 g.tr) ∧ evLoad tb 23 (.ptr b 0) M = some (geoA g) :=
  ⟨ld_cell ty3 rfl hg rfl, ld_cell ty3 rfl hg rfl, ld_cell ty3 rfl hg rfl, ld_cell ty3 rfl hg rfl, ld_cell ty3 rfl hg rfl, ld_agg (n := 5) ty23 rfl rfl hg (by simp [geoC])⟩

theorem place_ld {M : Mem} {b : Nat} {k p : Int} {rw' : Bool} (hg : M.get b = some (.cells [i64 k, i64 p] rw')) :
    evLoad tb 3 (.ptr b 0) M = some (i64 k) ∧ evLoad tb 3 (.ptr b 1) M = some (i64 p) ∧ evLoad tb 30 (.ptr b 0) M = some (placeA k p) :=
  ⟨ld_cell ty3 rfl hg rfl, ld_cell ty3 rfl hg rfl, ld_agg (n := 2) ty30 rfl rfl hg (by simp)⟩

theorem get_new (M : Mem) (r : Row) : (M.new r).get M.next = some r := by rw [Mem.get_new, if_pos rfl]

theorem mul_bnd {a b : Int} (ha : -1000 ≤ a) (ha2 : a ≤ 1000) (hb : 0 ≤ b) (hb2 : b ≤ 1000) : -1000000 ≤ a * b ∧ a * b ≤ 1000000 := by
  constructor
  · have h1 : (-1000) * b ≤ a * b := Int.mul_le_mul_of_nonneg_right ha hb
    omega
  · have h1 : a * b ≤ 1000 * b := Int.mul_le_mul_of_nonneg_right ha2 hb
    omega

theorem half_eq {bl sp pg : Int} (h1 : 8 ≤ bl ∧ bl ≤ 20) (h2 : 4 ≤ pg ∧ pg ≤ 8) (h3 : 0 ≤ sp ∧ sp ≤ 4) : iSub .i64 (iMul .i64 (iSub .i64 (iSub .i64 bl sp) 3) pg) 4 = (bl - sp - 3) * pg - 4 ∧ -1000000 ≤ (bl - sp - 3) * pg ∧ (bl - sp - 3) * pg ≤ 1000000 := by
  have hm := mul_bnd (a := bl - sp - 3) (b := pg) (by omega) (by omega) (by omega) (by omega)
  refine ⟨?_, hm⟩
  have e1 : iSub .i64 bl sp = bl - sp := by rw [iSub, wrap_i64' (by omega) (by omega)]
  have e2 : iSub .i64 (bl - sp) 3 = bl - sp - 3 := by rw [iSub, wrap_i64' (by omega) (by omega)]
  have e3 : iMul .i64 (bl - sp - 3) pg = (bl - sp - 3) * pg := by rw [iMul, wrap_i64' (by omega) (by omega)]
  rw [e1, e2, e3, iSub, wrap_i64' (by omega) (by omega)]

theorem c_in120 (M : Mem) (a b c : Int) : CallA tb.P 120 [i64 a, i64 b, i64 c] M fun y N => y = .val (.bool (inB a b c)) ∧ N = M := by
  refine F120_ok ?_
  unfold F120 inB
  simp only [i64, zI_int, letP_eq]
  refine condB_i (fun h => ?_) (fun h => ?_)
  · have h : b ≤ a := by simpa using h
    simp [h]
  · have h : ¬ b ≤ a := by simpa using h
    simp [h]

theorem c_in66 (M : Mem) (a b c : Int) : CallA tb.P 66 [i64 a, i64 b, i64 c] M fun y N => y = .val (.bool (inB a b c)) ∧ N = M := by
  refine F66_ok ?_
  unfold F66 inB
  simp only [i64, zI_int, letP_eq]
  refine condB_i (fun h => ?_) (fun h => ?_)
  · have h : b ≤ a := by simpa using h
    simp [h]
  · have h : ¬ b ≤ a := by simpa using h
    simp [h]

theorem c_half121 (M : Mem) (hw : M.WF) (g : Geo) (h1 : 8 ≤ g.bl ∧ g.bl ≤ 20) (h2 : 4 ≤ g.pg ∧ g.pg ≤ 8) (h3 : 0 ≤ g.sp ∧ g.sp ≤ 4) : CallA tb.P 121 [geoA g] M fun y N => (∃ z, y = i64 z ∧ decide (z ≥ 4) = decide (12 ≤ (g.bl - g.sp - 3) * g.pg)) ∧ Keep M N [] := by
  refine F121_ok ?_
  unfold F121
  refine ⟨_, _, _, _, _, rfl, ?_⟩
  simp only [letP_eq]
  have hg := get_new M (.cells (geoC g) true)
  obtain ⟨l0, l1, l2, l3, l4, _⟩ := geo_ld hg
  have hK := Keep.new hw (.cells (geoC g) true)
  refine bindO_i (eLd_some l0) ?_
  simp only [i64, zI_int]
  refine bindO_i (eLd_some l3) ?_
  simp only [i64, zI_int]
  refine bindO_i (eLd_some l1) ?_
  simp only [i64, zI_int]
  obtain ⟨e, hb1, hb2⟩ := half_eq h1 h2 h3
  rw [e]
  generalize (g.bl - g.sp - 3) * g.pg = m at hb1 hb2 ⊢
  refine ⟨⟨_, rfl, ?_⟩, hK⟩
  by_cases hp : 0 ≤ m - 4
  · rw [iQuo, Int.tdiv_eq_ediv_of_nonneg hp, wrap_i64' (by omega) (by omega), decide_eq_decide]
    omega
  · have e5 : (m - 4).tdiv 2 = - ((4 - m) / 2) := by
      rw [show m - 4 = -(4 - m) by omega, Int.neg_tdiv, Int.tdiv_eq_ediv_of_nonneg (by omega)]
    rw [iQuo, e5, wrap_i64' (by omega) (by omega), decide_eq_decide]
    omega

theorem c_half67 (M : Mem) (hw : M.WF) (g : Geo) (h1 : 8 ≤ g.bl ∧ g.bl ≤ 20) (h2 : 4 ≤ g.pg ∧ g.pg ≤ 8) (h3 : 0 ≤ g.sp ∧ g.sp ≤ 4) : CallA tb.P 67 [geoA g] M fun y N => (∃ z, y = i64 z ∧ decide (z ≥ 4) = decide (12 ≤ (g.bl - g.sp - 3) * g.pg)) ∧ Keep M N [] := by
  refine F67_ok ?_
  unfold F67
  refine ⟨_, _, _, _, _, rfl, ?_⟩
  simp only [letP_eq]
  have hg := get_new M (.cells (geoC g) true)
  obtain ⟨l0, l1, l2, l3, l4, _⟩ := geo_ld hg
  have hK := Keep.new hw (.cells (geoC g) true)
  refine bindO_i (eLd_some l0) ?_
  simp only [i64, zI_int]
  refine bindO_i (eLd_some l3) ?_
  simp only [i64, zI_int]
  refine bindO_i (eLd_some l1) ?_
  simp only [i64, zI_int]
  obtain ⟨e, hb1, hb2⟩ := half_eq h1 h2 h3
  rw [e]
  generalize (g.bl - g.sp - 3) * g.pg = m at hb1 hb2 ⊢
  have hmx : eMax tb #[3, 3] 3 [.int .i64 (m - 4), .int .i64 0] (M.new (.cells (geoC g) true)) = some (.val (.int .i64 (if m - 4 < 0 then 0 else m - 4)), M.new (.cells (geoC g) true)) := rfl
  refine bindO_i hmx ?_
  simp only [zI_int]
  refine ⟨⟨_, rfl, ?_⟩, hK⟩
  have hp : 0 ≤ (if m - 4 < 0 then (0 : Int) else m - 4) ∧ (if m - 4 < 0 then (0 : Int) else m - 4) ≤ 1000000 := by split <;> omega
  rw [iQuo, Int.tdiv_eq_ediv_of_nonneg hp.1, wrap_i64' (by omega) (by omega), decide_eq_decide]
  split <;> omega

theorem c_may102 (M : Mem) (hw : M.WF) (g : Geo) : CallA tb.P 102 [geoA g] M fun y N => y = .val (.bool (mayG g)) ∧ Keep M N [] := by
  refine F102_ok ?_
  unfold F102
  refine ⟨_, _, _, _, _, rfl, ?_⟩
  simp only [letP_eq]
  have hg := get_new M (.cells (geoC g) true)
  obtain ⟨l0, l1, l2, l3, l4, l5⟩ := geo_ld hg
  have hK := Keep.new hw (.cells (geoC g) true)
  unfold mayG
  refine bindO_i (eLd_some l0) ?_
  simp only [i64, zI_int]
  refine (c_in120 _ g.bl 8 20).mono ?_
  rintro y N ⟨rfl, rfl⟩
  simp only [zB_bool]
  generalize hh0 : inB g.bl 8 20 = q0
  refine condB_i (fun h => ?_) (fun h => ⟨by rw [h]; rfl, hK⟩)
  subst h
  rw [Bool.true_and]
  refine bindO_i (eLd_some l1) ?_
  simp only [i64, zI_int]
  refine (c_in120 _ g.pg 4 8).mono ?_
  rintro y N ⟨rfl, rfl⟩
  simp only [zB_bool]
  generalize hh1 : inB g.pg 4 8 = q1
  refine condB_i (fun h => ?_) (fun h => ⟨by rw [h]; rfl, hK⟩)
  subst h
  rw [Bool.true_and]
  refine bindO_i (eLd_some l2) ?_
  simp only [i64, zI_int]
  refine (c_in120 _ g.by' 24 64).mono ?_
  rintro y N ⟨rfl, rfl⟩
  simp only [zB_bool]
  generalize hh2 : inB g.by' 24 64 = q2
  refine condB_i (fun h => ?_) (fun h => ⟨by rw [h]; rfl, hK⟩)
  subst h
  rw [Bool.true_and]
  refine bindO_i (eLd_some l3) ?_
  simp only [i64, zI_int]
  refine (c_in120 _ g.sp 0 4).mono ?_
  rintro y N ⟨rfl, rfl⟩
  simp only [zB_bool]
  generalize hh3 : inB g.sp 0 4 = q3
  refine condB_i (fun h => ?_) (fun h => ⟨by rw [h]; rfl, hK⟩)
  subst h
  rw [Bool.true_and]
  refine bindO_i (eLd_some l4) ?_
  simp only [i64, zI_int]
  refine (c_in120 _ g.tr 2 20).mono ?_
  rintro y N ⟨rfl, rfl⟩
  simp only [zB_bool]
  generalize hh4 : inB g.tr 2 20 = q4
  refine condB_i (fun h => ?_) (fun h => ⟨by rw [h]; rfl, hK⟩)
  subst h
  rw [Bool.true_and]
  refine bindO_i (eLd_some l5) ?_
  refine ⟨_, _, _, _, _, rfl, ?_⟩
  unfold inB at hh0 hh1 hh3
  simp only [Bool.and_eq_true, decide_eq_true_eq] at hh0 hh1 hh3
  refine (c_half121 _ hK.wf g hh0 hh1 hh3).mono ?_
  rintro y N ⟨⟨z, rfl, hz⟩, hk2⟩
  simp only [i64, zI_int]
  exact ⟨by rw [hz], hK.trans0 hk2⟩

theorem c_may16 (M : Mem) (hw : M.WF) (g : Geo) : CallA tb.P 16 [geoA g] M fun y N => y = .val (.bool (mayG g)) ∧ Keep M N [] := by
  refine F16_ok ?_
  unfold F16
  refine ⟨_, _, _, _, _, rfl, ?_⟩
  simp only [letP_eq]
  have hg := get_new M (.cells (geoC g) true)
  obtain ⟨l0, l1, l2, l3, l4, l5⟩ := geo_ld hg
  have hK := Keep.new hw (.cells (geoC g) true)
  unfold mayG
  refine bindO_i (eLd_some l0) ?_
  simp only [i64, zI_int]
  refine (c_in66 _ g.bl 8 20).mono ?_
  rintro y N ⟨rfl, rfl⟩
  simp only [zB_bool]
  generalize hh0 : inB g.bl 8 20 = q0
  refine condB_i (fun h => ?_) (fun h => ⟨by rw [h]; rfl, hK⟩)
  subst h
  rw [Bool.true_and]
  refine bindO_i (eLd_some l1) ?_
  simp only [i64, zI_int]
  refine (c_in66 _ g.pg 4 8).mono ?_
  rintro y N ⟨rfl, rfl⟩
  simp only [zB_bool]
  generalize hh1 : inB g.pg 4 8 = q1
  refine condB_i (fun h => ?_) (fun h => ⟨by rw [h]; rfl, hK⟩)
  subst h
  rw [Bool.true_and]
  refine bindO_i (eLd_some l2) ?_
  simp only [i64, zI_int]
  refine (c_in66 _ g.by' 24 64).mono ?_
  rintro y N ⟨rfl, rfl⟩
  simp only [zB_bool]
  generalize hh2 : inB g.by' 24 64 = q2
  refine condB_i (fun h => ?_) (fun h => ⟨by rw [h]; rfl, hK⟩)
  subst h
  rw [Bool.true_and]
  refine bindO_i (eLd_some l3) ?_
  simp only [i64, zI_int]
  refine (c_in66 _ g.sp 0 4).mono ?_
  rintro y N ⟨rfl, rfl⟩
  simp only [zB_bool]
  generalize hh3 : inB g.sp 0 4 = q3
  refine condB_i (fun h => ?_) (fun h => ⟨by rw [h]; rfl, hK⟩)
  subst h
  rw [Bool.true_and]
  refine bindO_i (eLd_some l4) ?_
  simp only [i64, zI_int]
  refine (c_in66 _ g.tr 2 20).mono ?_
  rintro y N ⟨rfl, rfl⟩
  simp only [zB_bool]
  generalize hh4 : inB g.tr 2 20 = q4
  refine condB_i (fun h => ?_) (fun h => ⟨by rw [h]; rfl, hK⟩)
  subst h
  rw [Bool.true_and]
  refine bindO_i (eLd_some l5) ?_
  refine ⟨_, _, _, _, _, rfl, ?_⟩
  unfold inB at hh0 hh1 hh3
  simp only [Bool.and_eq_true, decide_eq_true_eq] at hh0 hh1 hh3
  refine (c_half67 _ hK.wf g hh0 hh1 hh3).mono ?_
  rintro y N ⟨⟨z, rfl, hz⟩, hk2⟩
  simp only [i64, zI_int]
  exact ⟨by rw [hz], hK.trans0 hk2⟩

/-! ## Of a geometry that may be -/

def rawN (g : Geo) : Nat := (g.by' + 16).toNat
def isG (g : Geo) (b p : Int) : Bool := inB b 0 (g.bl - 1) && inB p 0 (g.pg - 1)

theorem c_when (M : Mem) (hw : M.WF) (g : Geo) (h : mayG g = true) (n : Int) : CallA tb.P 110 [geoA g, i64 n] M fun y N => y = i64 n ∧ Keep M N [] := by
  refine F110_ok ?_
  unfold F110
  refine ⟨_, _, _, _, _, rfl, ?_⟩
  simp only [letP_eq, i64, zI_int]
  have hg := get_new M (.cells (geoC g) true)
  obtain ⟨l0, l1, l2, l3, l4, l5⟩ := geo_ld hg
  have hK := Keep.new hw (.cells (geoC g) true)
  refine bindO_i (eLd_some l5) ?_
  refine ⟨_, _, _, _, _, rfl, ?_⟩
  refine (c_may102 _ hK.wf g).mono ?_
  rintro y N ⟨rfl, hk⟩
  simp only [zB_bool, h]
  exact condB_i (fun h => by simp at h) (fun _ => ⟨by trivial, hK.trans0 hk⟩)

theorem c_raw (M : Mem) (hw : M.WF) (g : Geo) (h : mayG g = true) : CallA tb.P 65 [geoA g] M fun y N => y = i64 (rawN g) ∧ Keep M N [] := by
  refine F65_ok ?_
  unfold F65
  refine ⟨_, _, _, _, _, rfl, ?_⟩
  simp only [letP_eq]
  have hg := get_new M (.cells (geoC g) true)
  obtain ⟨l0, l1, l2, l3, l4, l5⟩ := geo_ld hg
  have hK := Keep.new hw (.cells (geoC g) true)
  refine bindO_i (eLd_some l5) ?_
  refine ⟨_, _, _, _, _, rfl, ?_⟩
  refine bindO_i (eLd_some l2) ?_
  simp only [i64, zI_int]
  refine bindO_i (eLd_some l5) ?_
  refine ⟨_, _, _, _, _, rfl, ?_⟩
  refine (c_when _ hK.wf g h _).mono ?_
  rintro y N ⟨rfl, hk⟩
  simp only [i64, zI_int]
  have hg2 := hk.get hK.wf hg (by simp)
  obtain ⟨_, _, _, _, _, m5⟩ := geo_ld hg2
  refine ⟨bindO_i (eLd_some m5) rfl, ?_⟩
  refine (c_when _ hk.wf g h _).mono ?_
  rintro y N' ⟨rfl, hk'⟩
  simp only [i64, zI_int]
  refine ⟨?_, hK.trans0 (hk.trans0 hk')⟩
  have hm := mayG_iff.1 h
  rw [iAdd, wrap_i64' (by omega) (by omega)]
  unfold rawN
  congr 3
  omega

theorem c_is (M : Mem) (hw : M.WF) (g : Geo) (h : mayG g = true) (b p : Int) : CallA tb.P 127 [geoA g, placeA b p] M fun y N => y = .val (.bool (isG g b p)) ∧ Keep M N [] := by
  refine F127_ok ?_
  unfold F127
  refine ⟨_, _, _, _, _, rfl, _, _, rfl, ?_⟩
  simp only [letP_eq]
  have hg := get_new M (.cells (geoC g) true)
  have hK := Keep.new hw (.cells (geoC g) true)
  have hK2 := Keep.new hK.wf (.cells [i64 b, i64 p] true)
  have hg2 := hK2.get hK.wf hg (by simp)
  have hp2 := get_new (M.new (.cells (geoC g) true)) (.cells [i64 b, i64 p] true)
  obtain ⟨l0, l1, l2, l3, l4, l5⟩ := geo_ld hg2
  refine bindO_i (eLd_some l5) ?_
  refine ⟨_, _, _, _, _, rfl, ?_⟩
  refine (c_may102 _ hK2.wf g).mono ?_
  rintro y N ⟨rfl, hk⟩
  simp only [zB_bool, h]
  refine condB_i (fun _ => ?_) (fun h => by simp at h)
  have hgN := hk.get hK2.wf hg2 (by simp)
  have hpN := hk.get hK2.wf hp2 (by simp)
  obtain ⟨k0, k1, _⟩ := geo_ld hgN
  obtain ⟨p0, p1, _⟩ := place_ld hpN
  have hm := mayG_iff.1 h
  have hall := hK.trans0 (hK2.trans0 hk)
  unfold isG
  refine bindO_i (eLd_some p0) ?_
  simp only [i64, zI_int]
  refine bindO_i (eLd_some k0) ?_
  simp only [i64, zI_int]
  rw [show iSub .i64 g.bl 1 = g.bl - 1 by rw [iSub, wrap_i64' (by omega) (by omega)]]
  refine (c_in120 _ _ _ _).mono ?_
  rintro y N' ⟨rfl, rfl⟩
  simp only [zB_bool]
  refine condB_i (fun hb => ?_) (fun hb => ⟨by rw [hb]; rfl, hall⟩)
  rw [hb, Bool.true_and]
  refine bindO_i (eLd_some p1) ?_
  simp only [i64, zI_int]
  refine bindO_i (eLd_some k1) ?_
  simp only [i64, zI_int]
  rw [show iSub .i64 g.pg 1 = g.pg - 1 by rw [iSub, wrap_i64' (by omega) (by omega)]]
  refine (c_in120 _ _ _ _).mono ?_
  rintro y N' ⟨rfl, rfl⟩
  simp only [zB_bool]
  exact ⟨by trivial, hall⟩

/-- Is the place's number below 0? -/
theorem c_number (M : Mem) (hw : M.WF) (g : Geo) (h : mayG g = true) (b p : Int) : CallA tb.P 111 [geoA g, placeA b p] M fun y N => (∃ z, y = i64 z ∧ decide (z < 0) = !isG g b p) ∧ Keep M N [] := by
  refine F111_ok ?_
  unfold F111
  refine ⟨_, _, _, _, _, rfl, _, _, rfl, ?_⟩
  simp only [letP_eq]
  have hg := get_new M (.cells (geoC g) true)
  have hK := Keep.new hw (.cells (geoC g) true)
  have hK2 := Keep.new hK.wf (.cells [i64 b, i64 p] true)
  have hg2 := hK2.get hK.wf hg (by simp)
  have hp2 := get_new (M.new (.cells (geoC g) true)) (.cells [i64 b, i64 p] true)
  obtain ⟨l0, l1, l2, l3, l4, l5⟩ := geo_ld hg2
  refine bindO_i (eLd_some l5) ?_
  refine ⟨_, _, _, _, _, rfl, ?_⟩
  refine (c_may102 _ hK2.wf g).mono ?_
  rintro y N ⟨rfl, hk⟩
  simp only [zB_bool, h]
  refine condB_i (fun h => by simp at h) (fun _ => ?_)
  have hgN := hk.get hK2.wf hg2 (by simp)
  have hpN := hk.get hK2.wf hp2 (by simp)
  obtain ⟨_, _, _, _, _, k5⟩ := geo_ld hgN
  obtain ⟨_, _, p2⟩ := place_ld hpN
  refine bindO_i (eLd_some k5) ?_
  refine ⟨_, _, _, _, _, rfl, ?_⟩
  refine bindO_i (eLd_some p2) ?_
  refine ⟨_, _, rfl, ?_⟩
  refine (c_is _ hk.wf g h b p).mono ?_
  rintro y N' ⟨rfl, hk'⟩
  simp only [zB_bool]
  have hall := hK.trans0 (hK2.trans0 (hk.trans0 hk'))
  refine condB_i (fun hi => ?_) (fun hi => ?_)
  · refine ⟨⟨-1, rfl, ?_⟩, hall⟩
    rw [hi]; rfl
  have hi : isG g b p = true := by simpa using hi
  obtain ⟨_, k1, _⟩ := geo_ld (hk'.get hk.wf hgN (by simp))
  obtain ⟨p0, p1, _⟩ := place_ld (hk'.get hk.wf hpN (by simp))
  refine bindO_i (eLd_some p0) ?_
  simp only [i64, zI_int]
  refine bindO_i (eLd_some k1) ?_
  simp only [i64, zI_int]
  refine bindO_i (eLd_some p1) ?_
  simp only [i64, zI_int]
  refine ⟨⟨_, rfl, ?_⟩, hall⟩
  rw [hi]
  unfold isG inB at hi
  simp only [Bool.and_eq_true, decide_eq_true_eq] at hi
  have hm := mayG_iff.1 h
  have hb := mul_bnd (a := b) (b := g.pg) (by omega) (by omega) (by omega) (by omega)
  have hn : 0 ≤ b * g.pg := Int.mul_nonneg (by omega) (by omega)
  rw [iMul, wrap_i64' (n := b * g.pg) (by omega) (by omega), iAdd, wrap_i64' (by omega) (by omega)]
  simp only [Bool.not_true, decide_eq_false_iff_not]
  omega

end Go.Proofs.Ytjffimbigamadaa

/- Faults. -/
namespace Go.Proofs.Ytjffimbigamadaa
open Go.AM

structure Flt where
  blk : Int
  fac : Bool
  aft : Int
def fltC (f : Flt) : List AV := [i64 f.blk, .val (.bool f.fac), i64 f.aft]
def fltA (f : Flt) : AV := .agg (fltC f)
theorem fltC_len (f : Flt) : (fltC f).length = 3 := rfl
def FltsAt (M : Mem) (x : AV) (fs : List Flt) : Prop := SlAt 3 M x fs.length (fs.flatMap fltC)

theorem ty53 : tb.ty.get 53 = some ⟨.st [(0, 1, false), (1, 1, false), (2, 1, false)], 3, 24, [.int .i64 0, .bool false, .int .i64 0], some [3, 4, 3]⟩ := by kernel_rfl
theorem ty54 : tb.ty.get 54 = some ⟨.sli 53, 1, 24, [.slice none 0 0], none⟩ := by kernel_rfl

theorem FltsAt.len {M M' : Mem} {x : AV} {fs : List Flt} (h : FltsAt M x fs) : evLenCap tb false 54 x M' = some fs.length := SlAt.len h ty54 rfl
theorem FltsAt.at {M : Mem} {x : AV} {fs : List Flt} (h : FltsAt M x fs) {i : Nat} (hi : i < fs.length) :
    ∃ b o, evIndexAddr tb 54 x (.val (.int .i64 (i : Int))) = some (.ptr b o) ∧ evLoad tb 53 (.ptr b o) M = some (fltA fs[i]) := by
  obtain ⟨b, o, h1, h2⟩ := SlAt.ldAgg h ty54 rfl ty53 rfl rfl hi (k' := .i64)
  rw [flat_at fltC_len hi] at h2
  exact ⟨b, o, h1, h2⟩

theorem flt_ld {M : Mem} {b : Nat} {f : Flt} {rw' : Bool} (hg : M.get b = some (.cells (fltC f) rw')) :
    evLoad tb 3 (.ptr b 0) M = some (i64 f.blk) ∧ evLoad tb 4 (.ptr b 1) M = some (.val (.bool f.fac)) ∧ evLoad tb 3 (.ptr b 2) M = some (i64 f.aft) ∧ evLoad tb 53 (.ptr b 0) M = some (fltA f) :=
  ⟨ld_cell ty3 rfl hg rfl, ld_cell ty4 rfl hg rfl, ld_cell ty3 rfl hg rfl, ld_agg (n := 3) ty53 rfl rfl hg (by simp [fltC])⟩

theorem flt_st {M : Mem} {b : Nat} {cs : List AV} (f : Flt) (hg : M.get b = some (.cells cs true)) (hl : cs.length = 3) : evStore tb 53 (.ptr b 0) (fltA f) M = some (M.put b (.cells (fltC f) true)) :=
  st_all ty53 rfl hg hl (by intro v hv; simp only [fltC, List.mem_cons, List.not_mem_nil, or_false] at hv; rcases hv with rfl | rfl | rfl <;> rfl)

theorem c_find1 (M : Mem) (hw : M.WF) (f : Flt) (q : Nat) (b : Int) {rw' : Bool} (hq : M.get q = some (.cells [i64 b] rw')) : CallA tb.P 124 [fltA f, .ptr q 0] M fun y N => y = .val (.bool (f.blk == b)) ∧ Keep M N [] := by
  refine F124_ok ?_
  unfold F124
  refine ⟨_, _, _, rfl, ?_⟩
  simp only [letP_eq]
  have hg := get_new M (.cells (fltC f) true)
  obtain ⟨l0, _⟩ := flt_ld hg
  have hK := Keep.new hw (.cells (fltC f) true)
  refine bindO_i (eLd_some l0) ?_
  simp only [i64, zI_int]
  have l1 : evLoad tb 3 (.ptr q 0) (M.new (.cells (fltC f) true)) = some (i64 b) := ld_cell ty3 rfl (hK.get hw hq (by simp)) rfl
  refine bindO_i (eLd_some l1) ?_
  simp only [i64, zI_int]
  exact ⟨by trivial, hK⟩

theorem fn124' : tb.fn.get 124 = some Try.f124 := fn124

theorem c_index (M : Mem) (hw : M.WF) (x : AV) (fs : List Flt) (hx : FltsAt M x fs) (hl : fs.length ≤ 1000) (q : Nat) (b : Int) {rw' : Bool} (hq : M.get q = some (.cells [i64 b] rw')) :
    CallA tb.P 123 [x, .fn 124 [] [.ptr q 0]] M fun y N => Keep M N [] ∧ ((∃ (i : Nat) (h : i < fs.length), y = i64 i ∧ fs[i].blk = b ∧ ∀ (j : Nat) (hj : j < i), fs[j].blk ≠ b) ∨ (y = i64 (-1) ∧ ∀ f ∈ fs, f.blk ≠ b)) := by
  refine F123_ok ?_
  unfold F123
  refine bindO_i (eLen_some hx.len) ?_
  simp only [zI_int]
  refine ⟨fun z n N => ∃ i : Nat, z = i ∧ n = fs.length - i ∧ i ≤ fs.length ∧ Keep M N [] ∧ ∀ (j : Nat) (hj : j < fs.length), j < i → fs[j].blk ≠ b, ⟨fs.length, 0, rfl, rfl, Nat.zero_le _, Keep.refl hw, fun j _ h => by omega⟩, ?_⟩
  rintro _ z n N ⟨i, rfl, rfl, hi, hk, hne⟩
  have hxN : FltsAt N x fs := SlAt.keep0 hx hw hk
  have hqN := hk.get hw hq (by simp)
  refine condB_i (fun hlt => ?_) (fun hge => ?_)
  · have hlt : i < fs.length := by simpa using hlt
    obtain ⟨p, o, h1, h2⟩ := hxN.at hlt
    refine bindO_i (eIA_some h1) ?_
    simp only [zP_ptr]
    refine bindO_i (eLd_some h2) ?_
    refine ⟨_, _, _, rfl, ?_⟩
    refine eCall_i fn124' ?_
    refine (c_find1 N hk.wf fs[i] q b hqN).mono ?_
    rintro y N1 ⟨rfl, hk1⟩
    simp only [zB_bool]
    refine condB_i (fun h => ?_) (fun h => ?_)
    · exact ⟨hk.trans0 hk1, .inl ⟨i, hlt, rfl, by simpa using h, fun j hj => hne j (by omega) hj⟩⟩
    · refine ⟨fs.length - (i + 1), by omega, i + 1, iInc (by omega), rfl, hlt, hk.trans0 hk1, fun j hj hji => ?_⟩
      by_cases hji' : j = i
      · subst hji'; simpa using h
      · exact hne j hj (by omega)
  · have hge : i = fs.length := by have : ¬ (i : Int) < fs.length := by simpa using hge
                                   omega
    subst hge
    refine ⟨hk, .inr ⟨rfl, fun f hf => ?_⟩⟩
    obtain ⟨j, hj, rfl⟩ := List.getElem_of_mem hf
    exact hne j hj hj

def findF (fs : List Flt) (b : Int) : Option Flt := fs.find? fun f => f.blk == b
def flt0 : Flt := ⟨0, false, 0⟩

theorem c_find (M : Mem) (hw : M.WF) (x : AV) (fs : List Flt) (hx : FltsAt M x fs) (hl : fs.length ≤ 1000) (b : Int) :
    CallA tb.P 108 [x, i64 b] M fun y N => y = .tup [fltA ((findF fs b).getD flt0), .val (.bool (findF fs b).isSome)] ∧ Keep M N [] := by
  refine F108_ok ?_
  unfold F108
  simp only [letP_eq, i64, zI_int]
  have hK := Keep.new hw (.cells [i64 b] true)
  have hK2 := Keep.new hK.wf (.cells (fltC flt0) true)
  have hq := hK2.get hK.wf (get_new M (.cells [i64 b] true)) (by simp)
  have hf2 := get_new (M.new (.cells [i64 b] true)) (.cells (fltC flt0) true)
  have hk2 := hK.trans0 hK2
  refine (c_index _ hK2.wf x fs (SlAt.keep0 hx hw hk2) hl M.next b hq).mono ?_
  rintro y N ⟨hk, h⟩
  have hfN := hk.get hK2.wf hf2 (by simp)
  have hall := hk2.trans0 hk
  have hxN : FltsAt N x fs := SlAt.keep0 hx hw hall
  have fin : ∀ f : Flt, Keep M (N.put (M.new (.cells [i64 b] true)).next (.cells (fltC f) true)) [] := fun f => by
    refine hall.trans (Keep.put hk.wf (hk.wf _ _ hfN) _) (by simp) (fun c hc hlt => ?_)
    simp only [List.mem_singleton] at hc
    subst hc
    exact absurd hlt (by simp)
  have res : ∀ (f : Flt) (o : Bool), eRes tb [.c 53 (.ptr (M.new (.cells [i64 b] true)).next 0), .v (.val (.bool o))] (N.put (M.new (.cells [i64 b] true)).next (.cells (fltC f) true)) = some (.tup [fltA f, .val (.bool o)]) := fun f o => by
    obtain ⟨_, _, _, la⟩ := flt_ld (f := f) (b := (M.new (.cells [i64 b] true)).next) (M := N.put (M.new (.cells [i64 b] true)).next (.cells (fltC f) true)) (rw' := true) (by rw [Mem.get_put, if_pos rfl])
    unfold eRes resC resC resC
    simp only [la, Option.map_some]
  rcases h with ⟨i, hi, rfl, hb, hne⟩ | ⟨rfl, hne⟩
  · have hfind : findF fs b = some fs[i] := by
      unfold findF
      rw [List.find?_eq_some_iff_getElem]
      exact ⟨by simpa using hb, i, hi, rfl, fun j hj => by simpa using hne j hj⟩
    rw [hfind]
    simp only [i64, zI_int]
    refine condB_i (fun h => by exfalso; simp at h; omega) (fun _ => ?_)
    obtain ⟨p, o, h1, h2⟩ := hxN.at hi
    refine bindO_i (eIA_some h1) ?_
    simp only [zP_ptr]
    refine bindO_i (eLd_some h2) ?_
    refine ⟨_, _, _, rfl, ?_⟩
    refine bindO_i (eSt_some (flt_st fs[i] hfN rfl)) ?_
    refine bindO_i (res fs[i] true) ?_
    exact ⟨rfl, fin _⟩
  · have hfind : findF fs b = none := by
      unfold findF
      rw [List.find?_eq_none]
      exact fun f hf => by simpa using hne f hf
    rw [hfind]
    simp only [i64, zI_int]
    refine condB_i (fun _ => ?_) (fun h => by simp at h)
    refine bindO_i (eSt_some (flt_st flt0 hfN rfl)) ?_
    refine bindO_i (res flt0 false) ?_
    exact ⟨rfl, fin _⟩

def failsF (fs : List Flt) (b d : Int) : Bool := match findF fs b with
  | some f => decide (f.aft ≤ d)
  | none => false
def badF (fs : List Flt) (b : Int) : Bool := match findF fs b with
  | some f => f.fac
  | none => false

theorem c_fails (M : Mem) (hw : M.WF) (x : AV) (fs : List Flt) (hx : FltsAt M x fs) (hl : fs.length ≤ 1000) (b d : Int) : CallA tb.P 74 [x, i64 b, i64 d] M fun y N => y = .val (.bool (failsF fs b d)) ∧ Keep M N [] := by
  refine F74_ok ?_
  unfold F74
  simp only [i64, zI_int]
  refine (c_find M hw x fs hx hl b).mono ?_
  rintro y N ⟨rfl, hk⟩
  refine ⟨_, _, _, _, rfl, ?_⟩
  simp only [letP_eq]
  have hK := Keep.new hk.wf (.cells (fltC flt0) true)
  refine bindO_i (eSt_some (flt_st _ (get_new N (.cells (fltC flt0) true)) rfl)) ?_
  rw [Mem.new_put]
  have hK2 := hk.trans0 (Keep.new hk.wf (.cells (fltC ((findF fs b).getD flt0)) true))
  obtain ⟨_, _, l2, _⟩ := flt_ld (get_new N (.cells (fltC ((findF fs b).getD flt0)) true))
  unfold failsF
  cases hfd : findF fs b with
  | none => exact ⟨rfl, by rw [hfd] at hK2; exact hK2⟩
  | some f =>
    rw [hfd] at l2 hK2
    simp only [Option.isSome_some, condB_true]
    refine bindO_i (eLd_some l2) ?_
    simp only [i64, zI_int]
    exact ⟨rfl, hK2⟩

theorem c_bad (M : Mem) (hw : M.WF) (x : AV) (fs : List Flt) (hx : FltsAt M x fs) (hl : fs.length ≤ 1000) (b : Int) : CallA tb.P 75 [x, i64 b] M fun y N => y = .val (.bool (badF fs b)) ∧ Keep M N [] := by
  refine F75_ok ?_
  unfold F75
  simp only [i64, zI_int]
  refine (c_find M hw x fs hx hl b).mono ?_
  rintro y N ⟨rfl, hk⟩
  refine ⟨_, _, _, _, rfl, ?_⟩
  simp only [letP_eq]
  refine bindO_i (eSt_some (flt_st _ (get_new N (.cells (fltC flt0) true)) rfl)) ?_
  rw [Mem.new_put]
  have hK2 := hk.trans0 (Keep.new hk.wf (.cells (fltC ((findF fs b).getD flt0)) true))
  obtain ⟨_, l1, _⟩ := flt_ld (get_new N (.cells (fltC ((findF fs b).getD flt0)) true))
  unfold badF
  cases hfd : findF fs b with
  | none => exact ⟨rfl, by rw [hfd] at hK2; exact hK2⟩
  | some f =>
    rw [hfd] at l1 hK2
    simp only [Option.isSome_some, condB_true]
    refine bindO_i (eLd_some l1) ?_
    simp only [zB_bool]
    exact ⟨rfl, hK2⟩

end Go.Proofs.Ytjffimbigamadaa

/- Which faults may be. -/
namespace Go.Proofs.Ytjffimbigamadaa
open Go.AM

def bump (M : Mem) : Mem := ⟨M.next + 1, M.rows⟩
theorem bump_wf {M : Mem} (h : M.WF) : (bump M).WF := fun b r hb => by have := h b r hb; show b < M.next + 1; omega
theorem bump_keep {M : Mem} (h : M.WF) : Keep M (bump M) [] := ⟨bump_wf h, Nat.le_succ _, fun _ _ _ => rfl⟩
/-- What was put aside is used. -/
theorem bump_put {M N : Mem} (hw : M.WF) (hk : Keep (bump M) N []) (r : Row) : Keep M (N.put M.next r) [] :=
  ⟨hk.wf.put (Nat.lt_of_lt_of_le (Nat.lt_succ_self _) hk.nxt) r, Nat.le_trans (Nat.le_succ _) hk.nxt, fun b hb _ => by
    rw [Mem.get_put, if_neg (by omega)]
    exact hk.old b (by show b < M.next + 1; omega) (by simp)⟩

def okF (g : Geo) (pre : List Flt) (f : Flt) : Bool :=
  !((findF pre f.blk).isSome || (decide (f.blk < 0) || (decide (f.blk ≥ g.bl) || (decide (f.aft < 0) || (decide (f.aft > 1073741824) || (f.fac && (f.aft != 0)))))))
def mayP (g : Geo) (fs : List Flt) : Bool := mayG g && decide (fs.length ≤ 8) && (List.range fs.length).all fun i => okF g (fs.take i) (fs.getD i flt0)

theorem FltsAt.take {M : Mem} {x : AV} {fs : List Flt} (h : FltsAt M x fs) {i : Nat} (hi : i ≤ fs.length) : ∃ y, evSliceAt tb 54 x none (some (.val (.int .i64 (i : Int)))) none = some y ∧ FltsAt M y (fs.take i) := by
  obtain ⟨y, h1, h2, _⟩ := SlAt.slice h ty54 rfl ty53 rfl (lo := none) (hi := some (.val (.int .i64 (i : Int)))) (l := 0) (r := i) (k1 := .i64) (k2 := .i64) (.inl ⟨rfl, rfl⟩) (.inr rfl) (Nat.zero_le _) hi
  refine ⟨y, h1, ?_⟩
  unfold FltsAt
  have e1 : (fs.take i).length = i - 0 := by rw [List.length_take]; omega
  have e2 : (fs.take i).flatMap fltC = ((fs.flatMap fltC).drop (0 * 3)).take ((i - 0) * 3) := by
    rw [Nat.zero_mul, List.drop_zero, Nat.sub_zero]
    conv => rhs; rw [← List.take_append_drop i fs, List.flatMap_append]
    rw [List.take_left' (by rw [flat_length fltC_len, List.length_take, Nat.min_eq_left hi])]
  rw [e1, e2]
  exact h2

theorem c_mayP (M : Mem) (hw : M.WF) (g : Geo) (x : AV) (fs : List Flt) (hx : FltsAt M x fs) (hfl : fs.length ≤ 9223372036854775807) : CallA tb.P 62 [geoA g, x] M fun y N => y = .val (.bool (mayP g fs)) ∧ Keep M N [] := by
  refine F62_ok ?_
  unfold F62
  refine ⟨_, _, _, _, _, rfl, ?_⟩
  refine letP_i fun M6 hM6 => ?_
  have hM6' : M6 = M.new (.cells (geoC g) true) := hM6
  have hK : Keep M M6 [] := by rw [hM6']; exact Keep.new hw _
  have hg : M6.get M.next = some (.cells (geoC g) true) := by rw [hM6']; exact get_new _ _
  clear hM6 hM6'
  refine letP_i fun K20 hK20 => ?_
  obtain ⟨_, _, _, _, _, l5⟩ := geo_ld hg
  refine bindO_i (eLd_some l5) ?_
  refine ⟨_, _, _, _, _, rfl, ?_⟩
  refine (c_may102 M6 hK.wf g).mono ?_
  rintro y N ⟨rfl, hk⟩
  simp only [zB_bool]
  have hk1 := hK.trans0 hk
  have hgN := hk.get hK.wf hg (by simp)
  have hxN : FltsAt N x fs := SlAt.keep0 hx hw hk1
  refine condB_i (fun h => ?_) (fun hm => ?_)
  · have h : mayG g = false := by simpa using h
    rw [hK20]
    refine condB_i (fun _ => ⟨?_, hk1⟩) (fun h => by cases h)
    unfold mayP
    rw [h]; rfl
  have hm : mayG g = true := by simpa using hm
  refine bindO_i (eLen_some hxN.len) ?_
  simp only [zI_int]
  rw [hK20]
  clear hK20 K20
  refine condB_i (fun h => ⟨?_, hk1⟩) (fun h => ?_)
  · have h : ¬ fs.length ≤ 8 := by have : (8 : Int) < fs.length := by simpa using h
                                   omega
    unfold mayP
    rw [decide_eq_false h, Bool.and_false, Bool.false_and]
  have h8 : fs.length ≤ 8 := by have : ¬ ((fs.length : Int) > 8) := by simpa using h
                                omega
  clear h
  refine bindO_i (eLen_some hxN.len) ?_
  simp only [zI_int]
  refine ⟨fun z n P => ∃ i : Nat, z = i ∧ n = fs.length - i ∧ i ≤ fs.length ∧ Keep N P [] ∧ ∀ j, j < i → okF g (fs.take j) (fs.getD j flt0) = true, ⟨fs.length, 0, rfl, rfl, Nat.zero_le _, Keep.refl hk.wf, fun j h => by omega⟩, ?_⟩
  rintro _ z n P ⟨i, rfl, rfl, hi, hkP, hok⟩
  have hxP : FltsAt P x fs := SlAt.keep0 hxN hk.wf hkP
  have hall := hk1.trans0 hkP
  refine condB_i (fun hlt => ?_) (fun hge => ?_)
  rotate_left
  · have hge : i = fs.length := by have : ¬ (i : Int) < fs.length := by simpa using hge
                                   omega
    subst hge
    refine ⟨?_, hall⟩
    unfold mayP
    rw [hm, decide_eq_true h8, List.all_eq_true.2 (fun j hj => hok j (List.mem_range.1 hj))]
    rfl
  have hlt : i < fs.length := by simpa using hlt
  obtain ⟨p, o, h1, h2⟩ := hxP.at hlt
  have hgd : fs.getD i flt0 = fs[i] := by rw [List.getD_eq_getElem?_getD, List.getElem?_eq_getElem hlt]; rfl
  generalize hf : fs[i] = f at *
  refine bindO_i (eIA_some h1) ?_
  simp only [zP_ptr]
  refine bindO_i (eLd_some h2) ?_
  refine ⟨_, _, _, rfl, ?_⟩
  refine letP_i fun M35 hM35 => ?_
  subst hM35
  refine bindO_i (eSt_some (flt_st f (get_new P (.cells (fltC flt0) true)) rfl)) ?_
  rw [Mem.new_put]
  have hP1 := Keep.new hkP.wf (.cells (fltC f) true)
  have hf1 := get_new P (.cells (fltC f) true)
  generalize hPn : P.new (.cells (fltC f) true) = P1 at hP1 hf1
  have hb := bump_keep hP1.wf
  refine letP_i fun M37 hM37 => ?_
  have hM37' : M37 = bump P1 := hM37
  subst hM37'
  show bindO (eSl tb 54 x none (some (.val (.int .i64 (i : Int)))) none (bump P1)) _
  have hf2 := hb.get hP1.wf hf1 (by simp)
  have hx2 : FltsAt (bump P1) x fs := SlAt.keep0 hxP hkP.wf (hP1.trans0 hb)
  obtain ⟨y, h3, h4⟩ := hx2.take (i := i) (by omega)
  refine bindO_i (eSl_some h3) ?_
  obtain ⟨l0, _⟩ := flt_ld hf2
  refine bindO_i (eLd_some l0) ?_
  simp only [i64, zI_int]
  refine (c_find _ hb.wf y _ h4 (by rw [List.length_take]; omega) f.blk).mono ?_
  rintro y N2 ⟨rfl, hk2⟩
  refine ⟨_, _, _, _, rfl, ?_⟩
  refine letP_i fun M47 hM47 => ?_
  subst hM47
  have hp := bump_put hP1.wf hk2 (.cells (fltC ((findF (fs.take i) f.blk).getD flt0)) true)
  have hst := flt_st ((findF (fs.take i) f.blk).getD flt0) (M := N2.put P1.next (.cells (fltC flt0) true)) (b := P1.next) (by rw [Mem.get_put, if_pos rfl]) rfl
  rw [Mem.put_put] at hst
  refine bindO_i (eSt_some hst) ?_
  have hf3 := hp.get hP1.wf hf1 (by simp)
  have hkk := hkP.trans0 (hP1.trans0 hp)
  have hg3 := hkk.get hk.wf hgN (by simp)
  have hall3 := hk1.trans0 hkk
  obtain ⟨m0, m1, m2, _⟩ := flt_ld hf3
  obtain ⟨g0, _⟩ := geo_ld hg3
  generalize N2.put P1.next (.cells (fltC ((findF (fs.take i) f.blk).getD flt0)) true) = N3 at *
  refine letP_i fun K hKK => ?_
  have bad : okF g (fs.take i) f = false → K true := fun h => by
    rw [hKK]
    refine ⟨?_, hall3⟩
    unfold mayP
    rw [List.all_eq_false.2 ⟨i, List.mem_range.2 hlt, by rw [hgd, h]; simp⟩, Bool.and_false]
  have good : okF g (fs.take i) f = true → K false := fun h => by
    rw [hKK]
    refine ⟨fs.length - (i + 1), by omega, i + 1, iInc (by omega), rfl, hlt, hkk, fun j hj => ?_⟩
    by_cases hji : j = i
    · subst hji; rw [hgd]; exact h
    · exact hok j (by omega)
  have step : ∀ b : Bool, b = !okF g (fs.take i) f → K b := fun b hb => by
    cases b with
    | true => exact bad (by simpa using hb)
    | false => exact good (by simpa using hb)
  unfold okF at step
  simp only [Bool.not_not] at step
  refine condB_i (fun q => step true (by rw [q]; rfl)) (fun q => ?_)
  rw [q, Bool.false_or] at step
  refine bindO_i (eLd_some m0) ?_
  simp only [i64, zI_int]
  refine condB_i (fun q => step true (by rw [q]; rfl)) (fun q => ?_)
  rw [q, Bool.false_or] at step
  refine bindO_i (eLd_some m0) ?_
  simp only [i64, zI_int]
  refine bindO_i (eLd_some g0) ?_
  simp only [i64, zI_int]
  refine condB_i (fun q => step true (by rw [q]; rfl)) (fun q => ?_)
  rw [q, Bool.false_or] at step
  refine bindO_i (eLd_some m2) ?_
  simp only [i64, zI_int]
  refine condB_i (fun q => step true (by rw [q]; rfl)) (fun q => ?_)
  rw [q, Bool.false_or] at step
  refine bindO_i (eLd_some m2) ?_
  simp only [i64, zI_int]
  refine condB_i (fun q => step true (by rw [q]; rfl)) (fun q => ?_)
  rw [q, Bool.false_or] at step
  refine bindO_i (eLd_some m1) ?_
  simp only [zB_bool]
  refine condB_i (fun q => ?_) (fun q => step false (by rw [q]; rfl))
  rw [q, Bool.true_and] at step
  refine bindO_i (eLd_some m2) ?_
  simp only [i64, zI_int]
  exact step _ rfl

end Go.Proofs.Ytjffimbigamadaa

/- What a chip is in memory; power, operations. -/
namespace Go.Proofs.Ytjffimbigamadaa
open Go.AM

structure Blk where
  b : Nat
  by' : List (BitVec 8)
  next : Int
  wear : Int
  done : Int
def blkC (B : Blk) : List AV := [.sl B.b 0 B.by'.length B.by'.length none, i64 B.next, i64 B.wear, i64 B.done]
theorem blkC_len (B : Blk) : (blkC B).length = 4 := rfl

structure Chip where
  g : Geo
  fsA : AV
  fs : List Flt
  bb : Nat
  bs : List Blk
  off : Bool
  ops : Int
  cuts : Int
  cop : Int
  cby : Int
  cf : BitVec 8
  turn : Int
def blksA (C : Chip) : AV := .sl C.bb 0 C.bs.length C.bs.length (some 4)
def chipC (C : Chip) : List AV := [i64 C.g.bl, i64 C.g.pg, i64 C.g.by', i64 C.g.sp, i64 C.g.tr, C.fsA, blksA C, .val (.bool C.off), i64 C.ops, i64 C.cuts, i64 C.cop, i64 C.cby, bv8 C.cf, i64 C.turn]
def foot (p : Nat) (C : Chip) : List Nat := p :: C.bb :: C.bs.map (·.b)

structure ChipAt (M : Mem) (p : Nat) (C : Chip) : Prop where
  main : M.get p = some (.cells (chipC C) true)
  tab : M.get C.bb = some (.cells (C.bs.flatMap blkC) true)
  dat : ∀ B ∈ C.bs, M.get B.b = some (.cells (bvs B.by') true)
  flt : FltsAt M C.fsA C.fs
  nd : (foot p C).Nodup
  fsx : ∀ c, inBlk C.fsA c → c ∉ foot p C
  one : C.fsA.one = true
  fsl : C.fs.length ≤ 8
  may : mayG C.g = true
  len : C.bs.length = C.g.bl.toNat
  ful : ∀ B ∈ C.bs, B.by'.length = C.g.pg.toNat * rawN C.g
  cby0 : 0 ≤ C.cby

theorem ChipAt.keep {M N : Mem} {p : Nat} {C : Chip} (h : ChipAt M p C) (hw : M.WF) (hk : Keep M N []) : ChipAt N p C :=
  ⟨hk.get hw h.main (by simp), hk.get hw h.tab (by simp), fun B hB => hk.get hw (h.dat B hB) (by simp), SlAt.keep0 h.flt hw hk, h.nd, h.fsx, h.one, h.fsl, h.may, h.len, h.ful, h.cby0⟩

/-- Whatever is done elsewhere. -/
theorem ChipAt.keepS {M N : Mem} {p : Nat} {C : Chip} {S : List Nat} (h : ChipAt M p C) (hw : M.WF) (hk : Keep M N S) (hs : ∀ b ∈ S, b ∉ foot p C ∧ ¬ inBlk C.fsA b) : ChipAt N p C := by
  have hn : ∀ b ∈ foot p C, b ∉ S := fun b hb hS => (hs b hS).1 hb
  refine ⟨hk.get hw h.main (hn _ (by simp [foot])), hk.get hw h.tab (hn _ (by simp [foot])), fun B hB => hk.get hw (h.dat B hB) (hn _ ?_), SlAt.keep h.flt hw hk (fun b hb hS => (hs b hS).2 hb), h.nd, h.fsx, h.one, h.fsl, h.may, h.len, h.ful, h.cby0⟩
  simp only [foot, List.mem_cons, List.mem_map]
  exact .inr (.inr ⟨B, hB, rfl⟩)

structure Step (M N : Mem) (p : Nat) (C C' : Chip) : Prop where
  at' : ChipAt N p C'
  keep : Keep M N (foot p C)
  foot : foot p C' = foot p C
  fsA : C'.fsA = C.fsA
  fs : C'.fs = C.fs
  g : C'.g = C.g

theorem Step.refl {M : Mem} {p : Nat} {C : Chip} (hw : M.WF) (h : ChipAt M p C) : Step M M p C C := ⟨h, Keep.refl hw, rfl, rfl, rfl, rfl⟩
theorem Step.of0 {M N : Mem} {p : Nat} {C : Chip} (hw : M.WF) (h : ChipAt M p C) (hk : Keep M N []) : Step M N p C C := ⟨h.keep hw hk, hk.mono (by simp), rfl, rfl, rfl, rfl⟩
theorem Step.trans {M N P : Mem} {p : Nat} {C C' C'' : Chip} (h : Step M N p C C') (k : Step N P p C' C'') : Step M P p C C'' :=
  ⟨k.at', h.keep.trans k.keep (fun _ h _ => h) (fun _ hb _ => h.foot ▸ hb), k.foot.trans h.foot, k.fsA.trans h.fsA, k.fs.trans h.fs, k.g.trans h.g⟩
theorem Step.pre {M N P : Mem} {p : Nat} {C C' : Chip} (h : Keep M N []) (k : Step N P p C C') : Step M P p C C' :=
  ⟨k.at', h.trans k.keep (by simp) (fun _ hb _ => hb), k.foot, k.fsA, k.fs, k.g⟩
theorem Step.wf {M N : Mem} {p : Nat} {C C' : Chip} (h : Step M N p C C') : N.WF := h.keep.wf
theorem Step.post {M N P : Mem} {p : Nat} {C C' : Chip} (h : Step M N p C C') (k : Keep N P []) : Step M P p C C' :=
  ⟨h.at'.keep h.wf k, h.keep.trans k (fun _ h _ => h) (by simp), h.foot, h.fsA, h.fs, h.g⟩

/-! ## What is written -/

theorem nd_p {p : Nat} {C : Chip} (h : (foot p C).Nodup) : p ≠ C.bb ∧ ∀ B ∈ C.bs, p ≠ B.b ∧ C.bb ≠ B.b := by
  unfold foot at h
  rw [List.nodup_cons, List.nodup_cons] at h
  simp only [List.mem_cons, List.mem_map, not_or, not_exists, not_and] at h
  exact ⟨h.1.1, fun B hB => ⟨fun e => h.1.2 B hB e.symm, fun e => h.2.1 B hB e.symm⟩⟩

/-- The chip's own cells. -/
theorem ChipAt.set {M : Mem} {p : Nat} {C : Chip} (h : ChipAt M p C) (hw : M.WF) (C' : Chip) (h1 : C'.g = C.g) (h2 : C'.fsA = C.fsA) (h3 : C'.fs = C.fs) (h4 : C'.bb = C.bb) (h5 : C'.bs = C.bs) (h6 : 0 ≤ C'.cby) :
    Step M (M.put p (.cells (chipC C') true)) p C C' := by
  have hp := nd_p h.nd
  have hf : _root_.Go.Proofs.Ytjffimbigamadaa.foot p C' = _root_.Go.Proofs.Ytjffimbigamadaa.foot p C := by unfold foot; rw [h4, h5]
  refine ⟨⟨by rw [Mem.get_put, if_pos rfl], ?_, ?_, ?_, by rw [hf]; exact h.nd, by rw [hf, h2]; exact h.fsx, by rw [h2]; exact h.one, by rw [h3]; exact h.fsl, by rw [h1]; exact h.may, by rw [h1, h5]; exact h.len, by rw [h1, h5]; exact h.ful, h6⟩,
    (Keep.put hw (hw _ _ h.main) _).mono (fun b hb _ => by simp only [List.mem_singleton] at hb; subst hb; simp [foot]), hf, h2, h3, h1⟩
  · rw [h4, h5, Mem.get_put, if_neg (fun e => hp.1 e.symm)]; exact h.tab
  · rw [h5]
    intro B hB
    rw [Mem.get_put, if_neg (fun e => (hp.2 B hB).1 e.symm)]; exact h.dat B hB
  · rw [h2, h3]
    refine SlAt.mono h.flt fun b r hb hr => ?_
    rw [Mem.get_put, if_neg (fun e => h.fsx b hb (by rw [e]; simp [foot]))]; exact hr

theorem map_set_b {bs : List Blk} {i : Nat} {B' : Blk} (hi : i < bs.length) (hb : B'.b = bs[i].b) : (bs.set i B').map (·.b) = bs.map (·.b) := by
  rw [List.map_set]
  apply List.ext_getElem?
  intro j
  rw [List.getElem?_set]
  by_cases hj : i = j
  · subst hj
    rw [if_pos rfl, if_pos (by simpa using hi), List.getElem?_map, List.getElem?_eq_getElem hi]
    simp [hb]
  · rw [if_neg hj]

theorem mem_set {bs : List Blk} {i : Nat} {B B' : Blk} (h : B ∈ bs.set i B') : B ∈ bs ∨ B = B' := (List.mem_or_eq_of_mem_set h)

/-- A block's numbers. -/
theorem ChipAt.setB {M : Mem} {p : Nat} {C : Chip} (h : ChipAt M p C) (hw : M.WF) {i : Nat} (hi : i < C.bs.length) (B' : Blk) (hb : B'.b = C.bs[i].b) (hy : B'.by' = C.bs[i].by') :
    Step M (M.put C.bb (.cells ((C.bs.set i B').flatMap blkC) true)) p C { C with bs := C.bs.set i B' } := by
  have hp := nd_p h.nd
  have hf : _root_.Go.Proofs.Ytjffimbigamadaa.foot p { C with bs := C.bs.set i B' } = _root_.Go.Proofs.Ytjffimbigamadaa.foot p C := by unfold foot; simp only; rw [map_set_b hi hb]
  have hB : ∀ B ∈ C.bs.set i B', ∃ B0 ∈ C.bs, B.b = B0.b ∧ B.by' = B0.by' := fun B hB => by
    rcases mem_set hB with h1 | rfl
    · exact ⟨B, h1, rfl, rfl⟩
    · exact ⟨_, List.getElem_mem hi, hb, hy⟩
  refine ⟨⟨?_, by rw [Mem.get_put, if_pos rfl], ?_, ?_, by rw [hf]; exact h.nd, by rw [hf]; exact h.fsx, h.one, h.fsl, h.may, by simpa using h.len, ?_, h.cby0⟩,
    (Keep.put hw (hw _ _ h.tab) _).mono (fun b hb _ => by simp only [List.mem_singleton] at hb; subst hb; simp [foot]), hf, rfl, rfl, rfl⟩
  · rw [Mem.get_put, if_neg hp.1, h.main]
    simp [chipC, blksA]
  · intro B hBm
    obtain ⟨B0, h1, h2, h3⟩ := hB B hBm
    rw [Mem.get_put, h2, h3, if_neg (fun e => (hp.2 B0 h1).2 e.symm)]; exact h.dat B0 h1
  · refine SlAt.mono h.flt fun b r hb hr => ?_
    rw [Mem.get_put, if_neg (fun e => h.fsx b hb (by rw [e]; simp [foot]))]; exact hr
  · intro B hBm
    obtain ⟨B0, h1, h2, h3⟩ := hB B hBm
    rw [h3]; exact h.ful B0 h1

theorem nd_b {p : Nat} {C : Chip} (h : (foot p C).Nodup) {i j : Nat} (hi : i < C.bs.length) (hj : j < C.bs.length) (he : C.bs[i].b = C.bs[j].b) : i = j := by
  unfold foot at h
  rw [List.nodup_cons, List.nodup_cons] at h
  have := h.2.2
  exact (List.getElem_inj (h₀ := by simpa using hi) (h₁ := by simpa using hj) this).1 (by simpa using he)

/-- A block's bytes. -/
theorem ChipAt.setD {M : Mem} {p : Nat} {C : Chip} (h : ChipAt M p C) (hw : M.WF) {i : Nat} (hi : i < C.bs.length) (l : List (BitVec 8)) (hl : l.length = C.bs[i].by'.length) :
    Step M (M.put C.bs[i].b (.cells (bvs l) true)) p C { C with bs := C.bs.set i { C.bs[i] with by' := l } } := by
  have hp := nd_p h.nd
  have hBi := hp.2 _ (List.getElem_mem hi)
  have hf : _root_.Go.Proofs.Ytjffimbigamadaa.foot p { C with bs := C.bs.set i { C.bs[i] with by' := l } } = _root_.Go.Proofs.Ytjffimbigamadaa.foot p C := by unfold foot; simp only; rw [map_set_b (B' := { C.bs[i] with by' := l }) hi rfl]
  have hc : (C.bs.set i { C.bs[i] with by' := l }).flatMap blkC = C.bs.flatMap blkC := by
    have h1 : blkC { C.bs[i] with by' := l } = (blkC C.bs[i]).set 1 (i64 C.bs[i].next) := by unfold blkC; simp [hl]
    rw [← flat_set blkC_len hi (by omega) h1]
    have h2 := flat_get blkC_len hi (j := 1) (by omega)
    apply List.ext_getElem?
    intro j
    rw [List.getElem?_set]
    by_cases hj : i * 4 + 1 = j
    · subst hj
      rw [if_pos rfl, h2]
      split
      · rfl
      · rename_i hlt
        exfalso; apply hlt
        rw [flat_length blkC_len]; omega
    · rw [if_neg hj]
  refine ⟨⟨?_, ?_, ?_, ?_, by rw [hf]; exact h.nd, by rw [hf]; exact h.fsx, h.one, h.fsl, h.may, by simpa using h.len, ?_, h.cby0⟩,
    (Keep.put hw (hw _ _ (h.dat _ (List.getElem_mem hi))) _).mono (fun b hb _ => by
      simp only [List.mem_singleton] at hb; subst hb
      simp only [foot, List.mem_cons, List.mem_map]
      exact .inr (.inr ⟨_, List.getElem_mem hi, rfl⟩)), hf, rfl, rfl, rfl⟩
  · rw [Mem.get_put, if_neg hBi.1, h.main]
    simp [chipC, blksA]
  · show (M.put _ _).get C.bb = _
    rw [Mem.get_put, if_neg hBi.2, hc]; exact h.tab
  · intro B hBm
    obtain ⟨j, hj, rfl⟩ := List.getElem_of_mem hBm
    have hj' : j < C.bs.length := by simpa using hj
    rw [List.getElem_set]
    by_cases hji : i = j
    · subst hji
      rw [if_pos rfl, Mem.get_put, if_pos rfl]
    · rw [if_neg hji, Mem.get_put, if_neg (fun e => hji (nd_b h.nd hj' hi e).symm)]
      exact h.dat _ (List.getElem_mem hj')
  · refine SlAt.mono h.flt fun b r hb hr => ?_
    rw [Mem.get_put, if_neg (fun e => h.fsx b hb (by
      rw [e]
      simp only [foot, List.mem_cons, List.mem_map]
      exact .inr (.inr ⟨_, List.getElem_mem hi, rfl⟩)))]; exact hr
  · intro B hBm
    rcases mem_set hBm with h1 | rfl
    · exact h.ful B h1
    · rw [hl]; exact h.ful _ (List.getElem_mem hi)

/-! ## What is read -/

theorem ty114 : tb.ty.get 114 = some ⟨.st [(0, 5, true), (5, 1, false), (6, 1, false), (7, 1, false), (8, 1, false), (9, 1, false), (10, 3, true), (13, 1, false)], 14, 144, [.int .i64 0, .int .i64 0, .int .i64 0, .int .i64 0, .int .i64 0, .slice none 0 0, .slice none 0 0, .bool false, .int .i64 0, .int .i64 0, .int .i64 0, .int .i64 0, .int .u8 0, .int .i64 0], some [23, 54, 112, 4, 3, 3, 42, 3]⟩ := by kernel_rfl
theorem ty112 : tb.ty.get 112 = some ⟨.sli 117, 1, 24, [.slice none 0 0], none⟩ := by kernel_rfl
theorem ty117 : tb.ty.get 117 = some ⟨.st [(0, 1, false), (1, 1, false), (2, 1, false), (3, 1, false)], 4, 48, [.slice none 0 0, .int .i64 0, .int .i64 0, .int .i64 0], some [33, 3, 3, 3]⟩ := by kernel_rfl
theorem ty42 : tb.ty.get 42 = some ⟨.st [(0, 1, false), (1, 1, false), (2, 1, false)], 3, 24, [.int .i64 0, .int .i64 0, .int .u8 0], some [3, 3, 5]⟩ := by kernel_rfl

section
variable {p : Nat} {M : Mem}
theorem fa0 : eFA tb 114 (.ptr p 0) 0 M = some (.ptr p 0, M) := eFA_some (by unfold evFieldAddr; rw [ty114]; rfl)
theorem fa1 : eFA tb 114 (.ptr p 0) 1 M = some (.ptr p 5, M) := eFA_some (by unfold evFieldAddr; rw [ty114]; rfl)
theorem fa2 : eFA tb 114 (.ptr p 0) 2 M = some (.ptr p 6, M) := eFA_some (by unfold evFieldAddr; rw [ty114]; rfl)
theorem fa3 : eFA tb 114 (.ptr p 0) 3 M = some (.ptr p 7, M) := eFA_some (by unfold evFieldAddr; rw [ty114]; rfl)
theorem fa4 : eFA tb 114 (.ptr p 0) 4 M = some (.ptr p 8, M) := eFA_some (by unfold evFieldAddr; rw [ty114]; rfl)
theorem fa5 : eFA tb 114 (.ptr p 0) 5 M = some (.ptr p 9, M) := eFA_some (by unfold evFieldAddr; rw [ty114]; rfl)
theorem fa6 : eFA tb 114 (.ptr p 0) 6 M = some (.ptr p 10, M) := eFA_some (by unfold evFieldAddr; rw [ty114]; rfl)
theorem fa7 : eFA tb 114 (.ptr p 0) 7 M = some (.ptr p 13, M) := eFA_some (by unfold evFieldAddr; rw [ty114]; rfl)

variable {C : Chip} (h : ChipAt M p C)
include h
theorem ld_g : eLd tb 23 (.ptr p 0) M = some (geoA C.g, M) := eLd_some (ld_agg (n := 5) ty23 rfl rfl h.main (by simp [chipC]))
theorem ld_fs : eLd tb 54 (.ptr p 5) M = some (C.fsA, M) := eLd_some (ld_cell ty54 rfl h.main rfl)
theorem ld_bs : eLd tb 112 (.ptr p 6) M = some (blksA C, M) := eLd_some (ld_cell ty112 rfl h.main rfl)
theorem ld_off : eLd tb 4 (.ptr p 7) M = some (.val (.bool C.off), M) := eLd_some (ld_cell ty4 rfl h.main rfl)
theorem ld_ops : eLd tb 3 (.ptr p 8) M = some (i64 C.ops, M) := eLd_some (ld_cell ty3 rfl h.main rfl)
theorem ld_cuts : eLd tb 3 (.ptr p 9) M = some (i64 C.cuts, M) := eLd_some (ld_cell ty3 rfl h.main rfl)
theorem ld_cby : eLd tb 3 (.ptr p 11) M = some (i64 C.cby, M) := eLd_some (ld_cell ty3 rfl h.main rfl)
theorem ld_turn : eLd tb 3 (.ptr p 13) M = some (i64 C.turn, M) := eLd_some (ld_cell ty3 rfl h.main rfl)
theorem len_bs : eLen tb false 112 (blksA C) M = some (i64 (C.bs.length : Int), M) := eLen_some (by unfold evLenCap blksA; rw [ty112]; rfl)

theorem ia_bs {i : Nat} (hi : i < C.bs.length) : eIA tb 112 (blksA C) (.val (.int .i64 (i : Int))) M = some (.ptr C.bb (i * 4), M) := eIA_some (by
  unfold evIndexAddr blksA
  rw [ty112]
  have h0 : decide (0 ≤ (i : Int)) = true := by simp
  simp only [ty117, Int.toNat_natCast, blt_of hi, cond_true, h0, Nat.zero_add])
theorem ld_by {i : Nat} (hi : i < C.bs.length) : eLd tb 33 (.ptr C.bb (i * 4)) M = some (.sl C.bs[i].b 0 C.bs[i].by'.length C.bs[i].by'.length none, M) := eLd_some (ld_cell ty33 rfl h.tab (by
  have := flat_get blkC_len hi (j := 0) (by omega)
  rw [Nat.add_zero] at this; rw [this]; rfl))
theorem ld_next {i : Nat} (hi : i < C.bs.length) : eLd tb 3 (.ptr C.bb (i * 4 + 1)) M = some (i64 C.bs[i].next, M) := eLd_some (ld_cell ty3 rfl h.tab (by rw [flat_get blkC_len hi (by omega)]; rfl))
theorem ld_done {i : Nat} (hi : i < C.bs.length) : eLd tb 3 (.ptr C.bb (i * 4 + 3)) M = some (i64 C.bs[i].done, M) := eLd_some (ld_cell ty3 rfl h.tab (by rw [flat_get blkC_len hi (by omega)]; rfl))
theorem ld_blk {i : Nat} (hi : i < C.bs.length) : eLd tb 117 (.ptr C.bb (i * 4)) M = some (.agg (blkC C.bs[i]), M) := eLd_some (by
  rw [ld_agg (n := 4) ty117 rfl rfl h.tab (by rw [flat_length blkC_len]; omega), flat_at blkC_len hi])

/-- A cell of the chip is written. -/
theorem st_chip {t : TypeId} {ti : TI} {o : Nat} {v : AV} (C' : Chip) (ht : tb.ty.get t = some ti) (hs : ti.size = 1) (hv : v.one = true) (ho : o < 14) (hc : chipC C' = (chipC C).set o v) :
    eSt tb t (.ptr p o) v M = some (undefA, M.put p (.cells (chipC C') true)) := by
  rw [hc]
  exact eSt_some (st_cell ht hs hv h.main (by simpa [chipC] using ho))
theorem st_blk {i j : Nat} (hi : i < C.bs.length) {z : Int} (B' : Blk) (hj : j < 4) (hc : blkC B' = (blkC C.bs[i]).set j (i64 z)) :
    eSt tb 3 (.ptr C.bb (i * 4 + j)) (i64 z) M = some (undefA, M.put C.bb (.cells ((C.bs.set i B').flatMap blkC) true)) := by
  rw [← flat_set blkC_len hi hj hc]
  exact eSt_some (st_cell ty3 rfl rfl h.tab (by rw [flat_length blkC_len]; omega))
end

end Go.Proofs.Ytjffimbigamadaa

/- Power, operations, what is asked. -/
namespace Go.Proofs.Ytjffimbigamadaa
open Go.AM

theorem nil_eq {p : Nat} {M : Mem} {xo yo : Operand} : eBin tb .eql 24 xo yo (.ptr p 0) (.val (.pointer none)) M = some (.val (.bool false), M) := eBin_some (by kernel_rfl)
theorem nil_ne {p : Nat} {M : Mem} {xo yo : Operand} : eBin tb .neq 24 xo yo (.ptr p 0) (.val (.pointer none)) M = some (.val (.bool true), M) := eBin_some (by kernel_rfl)

/-! ## One operation more -/

def bgn (C : Chip) : Bool := !(C.turn == 0) && !(iAdd .i64 C.ops 1 != C.turn)
def bgC (C : Chip) : Chip := if bgn C = true then { C with ops := iAdd .i64 C.ops 1, turn := 0, off := true, cuts := iAdd .i64 C.cuts 1 } else { C with ops := iAdd .i64 C.ops 1 }

theorem c_begin (M : Mem) (hw : M.WF) (p : Nat) (C : Chip) (h : ChipAt M p C) : CallA tb.P 70 [.ptr p 0] M fun y N => y = .val (.bool (bgn C)) ∧ Step M N p C (bgC C) := by
  refine F70_ok ?_
  unfold F70
  have s1 := h.set hw { C with ops := iAdd .i64 C.ops 1 } rfl rfl rfl rfl rfl h.cby0
  have t1 := st_chip h { C with ops := iAdd .i64 C.ops 1 } (o := 8) (v := i64 (iAdd .i64 C.ops 1)) ty3 rfl rfl (by omega) rfl
  simp only [i64] at t1
  simp only [eNil_ptr, bindO_some, fa4, zP_ptr, ld_ops h, i64, zI_int, t1]
  generalize hN1 : M.put p (.cells (chipC { C with ops := iAdd .i64 C.ops 1 }) true) = N1 at s1
  have h1 := s1.at'
  have hw1 := s1.wf
  refine letP_i fun K hK => ?_
  have no : bgn C = false → K true := fun hb => by
    rw [hK]
    refine ⟨by rw [hb], ?_⟩
    unfold bgC
    rw [hb]
    exact s1
  have yes : bgn C = true → K false := fun hb => by
    rw [hK]
    have s2 := h1.set hw1 { C with ops := iAdd .i64 C.ops 1, turn := 0 } rfl rfl rfl rfl rfl h.cby0
    have t2 := st_chip h1 { C with ops := iAdd .i64 C.ops 1, turn := 0 } (o := 13) (v := i64 0) ty3 rfl rfl (by omega) rfl
    simp only [i64] at t2
    simp only [condB_false, eNil_ptr, bindO_some, fa7, zP_ptr, t2]
    generalize N1.put p (.cells (chipC { C with ops := iAdd .i64 C.ops 1, turn := 0 }) true) = N2 at s2
    have h2 := s2.at'
    have s3 := h2.set s2.wf { C with ops := iAdd .i64 C.ops 1, turn := 0, off := true } rfl rfl rfl rfl rfl h.cby0
    have t3 := st_chip h2 { C with ops := iAdd .i64 C.ops 1, turn := 0, off := true } (o := 7) (v := .val (.bool true)) ty4 rfl rfl (by omega) rfl
    simp only [eNil_ptr, bindO_some, fa3, zP_ptr, t3]
    generalize N2.put p (.cells (chipC { C with ops := iAdd .i64 C.ops 1, turn := 0, off := true }) true) = N3 at s3
    have h3 := s3.at'
    have s4 := h3.set s3.wf { C with ops := iAdd .i64 C.ops 1, turn := 0, off := true, cuts := iAdd .i64 C.cuts 1 } rfl rfl rfl rfl rfl h.cby0
    have t4 := st_chip h3 { C with ops := iAdd .i64 C.ops 1, turn := 0, off := true, cuts := iAdd .i64 C.cuts 1 } (o := 9) (v := i64 (iAdd .i64 C.cuts 1)) ty3 rfl rfl (by omega) rfl
    simp only [i64] at t4
    simp only [eNil_ptr, bindO_some, fa5, zP_ptr, ld_cuts h3, i64, zI_int, t4]
    refine ⟨by rw [hb], ?_⟩
    unfold bgC
    rw [if_pos hb]
    exact s1.trans (s2.trans (s3.trans s4))
  simp only [eNil_ptr, bindO_some, fa7, fa4, zP_ptr, ld_turn h1, ld_ops h1, i64, zI_int]
  refine condB_i (fun q => no (by unfold bgn; rw [q]; rfl)) (fun q => ?_)
  have hb : bgn C = !(iAdd .i64 C.ops 1 != C.turn) := by unfold bgn; rw [q]; rfl
  cases hq : (iAdd .i64 C.ops 1 != C.turn) with
  | true => exact no (by rw [hb, hq]; rfl)
  | false => exact yes (by rw [hb, hq]; rfl)

/-- What is answered ahead of an operation. -/
def askd (C : Chip) (b p : Int) : Int := if C.off = true then 9 else if isG C.g b p = true then 0 else 2

theorem c_asked (M : Mem) (hw : M.WF) (p : Nat) (C : Chip) (h : ChipAt M p C) (b k : Int) : CallA tb.P 69 [.ptr p 0, placeA b k] M fun y N => y = i64 (askd C b k) ∧ Keep M N [] := by
  refine F69_ok ?_
  unfold F69
  refine ⟨_, _, rfl, ?_⟩
  simp only [letP_eq]
  have hK := Keep.new hw (.cells [i64 b, i64 k] true)
  have hp := get_new M (.cells [i64 b, i64 k] true)
  have h1 := h.keep hw hK
  simp only [nil_eq, bindO_some, zB_bool, condB_false, eNil_ptr, fa3, zP_ptr, i64] at *
  simp only [ld_off h1, bindO_some, zB_bool]
  unfold askd
  refine condB_i (fun q => ⟨by rw [if_pos q], hK⟩) (fun q => ?_)
  rw [if_neg (by rw [q]; simp)]
  simp only [fa0, bindO_some, zP_ptr, ld_g h1]
  refine ⟨_, _, _, _, _, rfl, ?_⟩
  obtain ⟨_, _, l2⟩ := place_ld hp
  refine bindO_i (eLd_some l2) ?_
  refine ⟨_, _, rfl, ?_⟩
  refine (c_number _ hK.wf C.g h.may b k).mono ?_
  rintro y N ⟨⟨z, rfl, hz⟩, hk⟩
  simp only [i64, zI_int]
  rw [hz]
  refine condB_i (fun q => ⟨?_, hK.trans0 hk⟩) (fun q => ⟨?_, hK.trans0 hk⟩)
  · have q : isG C.g b k = false := by simpa using q
    rw [q]; rfl
  · have q : isG C.g b k = true := by simpa using q
    rw [q]; rfl

end Go.Proofs.Ytjffimbigamadaa
