import Derived.Test.YtmifiialedlcnaaG6
set_option linter.unusedSimpArgs false
set_option linter.unusedVariables false
/- Power, operations, what is asked. -/
namespace Go.Proofs.Ytmifiialedlcnaa
open Go.AM

theorem nil_eq {p : Nat} {M : Mem} {xo yo : Operand} : eBin tb .eql 24 xo yo (.ptr p 0) (.val (.pointer none)) M = some (.val (.bool false), M) := eBin_some (by kernel_rfl)
theorem nil_ne {p : Nat} {M : Mem} {xo yo : Operand} : eBin tb .neq 24 xo yo (.ptr p 0) (.val (.pointer none)) M = some (.val (.bool true), M) := eBin_some (by kernel_rfl)

/-! ## One operation more -/

def bgn (C : Chip) : Bool := !(C.turn == 0) && !(iAdd .i64 C.ops 1 != C.turn)
def bgC (C : Chip) : Chip := if bgn C = true then { C with ops := iAdd .i64 C.ops 1, turn := 0, off := true, cuts := iAdd .i64 C.cuts 1 } else { C with ops := iAdd .i64 C.ops 1 }

theorem c_begin (M : Mem) (hw : M.WF) (p : Nat) (C : Chip) (h : ChipAt M p C) : CallA tb.P 70 [.ptr p 0] M fun y N => y = .val (.bool (bgn C)) ∧ Step M N p C (bgC C) := by
  refine F70_ok ?_
  unfold F70
  have s1 := h.set hw { C with ops := iAdd .i64 C.ops 1 } rfl rfl rfl rfl rfl h.cby0
  have t1 := st_chip h { C with ops := iAdd .i64 C.ops 1 } (o := 8) (v := i64 (iAdd .i64 C.ops 1)) ty3 rfl rfl (by omega) rfl
  simp only [i64] at t1
  simp only [eNil_ptr, bindO_some, fa4, zP_ptr, ld_ops h, i64, zI_int, t1]
  generalize hN1 : M.put p (.cells (chipC { C with ops := iAdd .i64 C.ops 1 }) true) = N1 at s1
  have h1 := s1.at'
  have hw1 := s1.wf
  refine letP_i fun K hK => ?_
  have no : bgn C = false → K true := fun hb => by
    rw [hK]
    refine ⟨by rw [hb], ?_⟩
    unfold bgC
    rw [hb]
    exact s1
  have yes : bgn C = true → K false := fun hb => by
    rw [hK]
    have s2 := h1.set hw1 { C with ops := iAdd .i64 C.ops 1, turn := 0 } rfl rfl rfl rfl rfl h.cby0
    have t2 := st_chip h1 { C with ops := iAdd .i64 C.ops 1, turn := 0 } (o := 13) (v := i64 0) ty3 rfl rfl (by omega) rfl
    simp only [i64] at t2
    simp only [condB_false, eNil_ptr, bindO_some, fa7, zP_ptr, t2]
    generalize N1.put p (.cells (chipC { C with ops := iAdd .i64 C.ops 1, turn := 0 }) true) = N2 at s2
    have h2 := s2.at'
    have s3 := h2.set s2.wf { C with ops := iAdd .i64 C.ops 1, turn := 0, off := true } rfl rfl rfl rfl rfl h.cby0
    have t3 := st_chip h2 { C with ops := iAdd .i64 C.ops 1, turn := 0, off := true } (o := 7) (v := .val (.bool true)) ty4 rfl rfl (by omega) rfl
    simp only [eNil_ptr, bindO_some, fa3, zP_ptr, t3]
    generalize N2.put p (.cells (chipC { C with ops := iAdd .i64 C.ops 1, turn := 0, off := true }) true) = N3 at s3
    have h3 := s3.at'
    have s4 := h3.set s3.wf { C with ops := iAdd .i64 C.ops 1, turn := 0, off := true, cuts := iAdd .i64 C.cuts 1 } rfl rfl rfl rfl rfl h.cby0
    have t4 := st_chip h3 { C with ops := iAdd .i64 C.ops 1, turn := 0, off := true, cuts := iAdd .i64 C.cuts 1 } (o := 9) (v := i64 (iAdd .i64 C.cuts 1)) ty3 rfl rfl (by omega) rfl
    simp only [i64] at t4
    simp only [eNil_ptr, bindO_some, fa5, zP_ptr, ld_cuts h3, i64, zI_int, t4]
    refine ⟨by rw [hb], ?_⟩
    unfold bgC
    rw [if_pos hb]
    exact s1.trans (s2.trans (s3.trans s4))
  simp only [eNil_ptr, bindO_some, fa7, fa4, zP_ptr, ld_turn h1, ld_ops h1, i64, zI_int]
  refine condB_i (fun q => no (by unfold bgn; rw [q]; rfl)) (fun q => ?_)
  have hb : bgn C = !(iAdd .i64 C.ops 1 != C.turn) := by unfold bgn; rw [q]; rfl
  cases hq : (iAdd .i64 C.ops 1 != C.turn) with
  | true => exact no (by rw [hb, hq]; rfl)
  | false => exact yes (by rw [hb, hq]; rfl)

/-- What is answered ahead of an operation. -/
def askd (C : Chip) (b p : Int) : Int := if C.off = true then 9 else if isG C.g b p = true then 0 else 2

theorem c_asked (M : Mem) (hw : M.WF) (p : Nat) (C : Chip) (h : ChipAt M p C) (b k : Int) : CallA tb.P 69 [.ptr p 0, placeA b k] M fun y N => y = i64 (askd C b k) ∧ Keep M N [] := by
  refine F69_ok ?_
  unfold F69
  refine ⟨_, _, rfl, ?_⟩
  simp only [letP_eq]
  have hK := Keep.new hw (.cells [i64 b, i64 k] true)
  have hp := get_new M (.cells [i64 b, i64 k] true)
  have h1 := h.keep hw hK
  simp only [nil_eq, bindO_some, zB_bool, condB_false, eNil_ptr, fa3, zP_ptr, i64] at *
  simp only [ld_off h1, bindO_some, zB_bool]
  unfold askd
  refine condB_i (fun q => ⟨by rw [if_pos q], hK⟩) (fun q => ?_)
  rw [if_neg (by rw [q]; simp)]
  simp only [fa0, bindO_some, zP_ptr, ld_g h1]
  refine ⟨_, _, _, _, _, rfl, ?_⟩
  obtain ⟨_, _, l2⟩ := place_ld hp
  refine bindO_i (eLd_some l2) ?_
  refine ⟨_, _, rfl, ?_⟩
  refine (c_number _ hK.wf C.g h.may b k).mono ?_
  rintro y N ⟨⟨z, rfl, hz⟩, hk⟩
  simp only [i64, zI_int]
  rw [hz]
  refine condB_i (fun q => ⟨?_, hK.trans0 hk⟩) (fun q => ⟨?_, hK.trans0 hk⟩)
  · have q : isG C.g b k = false := by simpa using q
    rw [q]; rfl
  · have q : isG C.g b k = true := by simpa using q
    rw [q]; rfl

end Go.Proofs.Ytmifiialedlcnaa
