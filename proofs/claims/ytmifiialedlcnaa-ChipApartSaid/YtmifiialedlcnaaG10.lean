import Derived.Test.YtmifiialedlcnaaG9
set_option linter.unusedSimpArgs false
set_option linter.unusedVariables false
/- Erase, Arm, Boot. -/
namespace Go.Proofs.Ytmifiialedlcnaa
open Go.AM

theorem fill_set {α : Type} (a : α) {l : List α} {q : Nat} (h : q < l.length) : (List.replicate q a ++ l.drop q).set q a = List.replicate (q + 1) a ++ l.drop (q + 1) := by
  rw [List.set_append_right _ _ (by simp), List.length_replicate, Nat.sub_self, ← List.getElem_cons_drop h, List.set_cons_zero, List.replicate_succ', List.append_assoc, List.singleton_append]

theorem ia_by {b n c q : Nat} {M : Mem} (h : q < n) : eIA tb 33 (.sl b 0 n c none) (.val (.int .i64 (q : Int))) M = some (.ptr b q, M) := eIA_some (by
  unfold evIndexAddr
  rw [ty33]
  have h0 : decide (0 ≤ (q : Int)) = true := by simp
  simp only [ty5, Int.toNat_natCast, AM.blt_of h, cond_true, h0, Nat.zero_add, Nat.mul_one])

def erS (C : Chip) (fill : BitVec 8) (i : Nat) : Chip × Int :=
  match C.bs[i]? with
  | none => (C, 0)
  | some B =>
    if failsF C.fs i B.done = true then (C, 10)
    else (C.upB i { B with by' := List.replicate B.by'.length fill, next := if fill = 255#8 then 0 else C.g.pg, wear := iAdd .i64 B.wear 1, done := iAdd .i64 B.done 1 }, 0)
def erF (C : Chip) : BitVec 8 := if bgn C = true then C.cf else 255#8
def erR (C : Chip) (b : Int) : Chip × Int :=
  if askd C b 0 = 0 then ((erS (bgC C) (erF C) b.toNat).1, if bgn C = true then 9 else (erS (bgC C) (erF C) b.toNat).2)
  else (C, askd C b 0)

theorem c_erase (M : Mem) (hw : M.WF) (p : Nat) (C : Chip) (h : ChipAt M p C) (b : Int) :
    CallA tb.P 24 [.ptr p 0, i64 b] M fun y N => y = i64 (erR C b).2 ∧ Step M N p C (erR C b).1 := by
  refine F24_ok ?_
  unfold F24
  simp only [i64, zI_int]
  refine (c_asked M hw p C h b 0).mono ?_
  rintro y M3 ⟨rfl, hk3⟩
  have h3 := h.keep hw hk3
  simp only [i64, zI_int]
  refine condB_i (fun q => ?_) (fun q => ?_)
  · have q : ¬ askd C b 0 = 0 := by simpa using q
    unfold erR
    rw [if_neg q]
    exact ⟨rfl, Step.of0 hw h hk3⟩
  have q : askd C b 0 = 0 := by simpa using q
  have hpg := (askd_zero q).2
  unfold erR
  rw [if_pos q]
  obtain ⟨i, j, hi, rfl, _, hj, hpg8, hr1, hr2, hf, hle, hmax⟩ := h.place hpg
  simp only [Int.toNat_natCast]
  refine (c_begin M3 hk3.wf p C h3).mono ?_
  rintro y M6 ⟨rfl, hs⟩
  simp only [zB_bool]
  have hbb := bgC_bs C
  have hS6 := hs.pre hk3
  have h6 := hs.at'
  unfold erF
  have hcf : C.cf = (bgC C).cf := hbb.2.2.2.2.symm
  rw [hcf]
  have hbbe : (bgC C).bb = C.bb := by unfold bgC; split <;> rfl
  generalize hC1 : bgC C = C1 at *
  have hi1 : i < C1.bs.length := by rw [hbb.1]; exact hi
  have hf1 : C1.bs[i].by'.length ≤ 640 := by
    have : C1.bs[i] = C.bs[i] := by simp only [hbb.1]
    rw [this]; exact hmax
  generalize bgn C = cut at *
  refine letP_i fun K hK => ?_
  have fin : ∀ fill : BitVec 8, (if cut = true then C1.cf else 255#8) = fill → K (fill.toNat : Int) := by
    intro fill hfill
    rw [hK, hfill]
    clear hK K
    refine letP_i fun K59 hK59 => ?_
    have kk : ∀ (z : Int) (N : Mem) (C2 : Chip), erS C1 fill i = (C2, z) → Step M6 N p C1 C2 → K59 z N := by
      intro z N C2 e s
      rw [hK59, e]
      refine condB_i (fun hc => ⟨by rw [hc]; rfl, hS6.trans s⟩) (fun hc => ⟨by rw [hc]; rfl, hS6.trans s⟩)
    clear hK59
    refine (c_failed M6 hs.wf p C1 h6 (i : Int)).mono ?_
    rintro y M17 ⟨rfl, hk17⟩
    have h17 := h6.keep hs.wf hk17
    have hs17 := Step.of0 hs.wf h6 hk17
    have hfl : failed C1 (i : Int) = failsF C1.fs i C1.bs[i].done := by
      unfold failed
      rw [Int.toNat_natCast, List.getElem?_eq_getElem hi1, decide_eq_true (by omega), Bool.true_and]
    have hpgS : ∀ r, (if failsF C1.fs i C1.bs[i].done = true then (C1, 10)
        else (C1.upB i { C1.bs[i] with by' := List.replicate C1.bs[i].by'.length fill, next := if fill = 255#8 then 0 else C1.g.pg, wear := iAdd .i64 C1.bs[i].wear 1, done := iAdd .i64 C1.bs[i].done 1 }, (0 : Int))) = r → erS C1 fill i = r := fun r hr => by
      unfold erS
      rw [List.getElem?_eq_getElem hi1]
      exact hr
    simp only [zB_bool]
    rw [hfl]
    refine condB_i (fun q3 => ?_) (fun q3 => kk 10 M17 C1 (hpgS _ (by rw [if_pos (by simpa using q3)])) hs17)
    have q3' : ¬ failsF C1.fs i C1.bs[i].done = true := by simpa using q3
    simp only [eNil_ptr, bindO_some, fa2, zP_ptr, ld_bs h17, ia_bs h17 hi1, ld_by h17 hi1]
    refine bindO_i (eLen_some (show evLenCap tb false 33 (.sl C1.bs[i].b 0 C1.bs[i].by'.length C1.bs[i].by'.length none) M17 = some C1.bs[i].by'.length by unfold evLenCap; rw [ty33]; rfl)) ?_
    simp only [zI_int]
    refine ⟨fun z n P => ∃ k : Nat, z = k ∧ n = C1.bs[i].by'.length - k ∧ k ≤ C1.bs[i].by'.length ∧ Step M17 P p C1 (C1.upB i { C1.bs[i] with by' := List.replicate k fill ++ C1.bs[i].by'.drop k }), ⟨C1.bs[i].by'.length, 0, rfl, rfl, Nat.zero_le _, ?_⟩, ?_⟩
    · have : C1.upB i { C1.bs[i] with by' := List.replicate 0 fill ++ C1.bs[i].by'.drop 0 } = C1 := by
        unfold Chip.upB
        rw [List.drop_zero, List.replicate_zero, List.nil_append, show ({ C1.bs[i] with by' := C1.bs[i].by' } : Blk) = C1.bs[i] from rfl, List.set_getElem_self]
      rw [this]
      exact Step.refl hk17.wf h17
    rintro _ z n P ⟨k, rfl, rfl, hk, hsP⟩
    have hiP : i < (C1.upB i { C1.bs[i] with by' := List.replicate k fill ++ C1.bs[i].by'.drop k }).bs.length := by rw [upB_len]; exact hi1
    have hbP : (C1.upB i { C1.bs[i] with by' := List.replicate k fill ++ C1.bs[i].by'.drop k }).bb = C1.bb := rfl
    refine condB_i (fun hlt => ?_) (fun hge => ?_)
    · have hlt : k < C1.bs[i].by'.length := by simpa using hlt
      have hl := ld_by hsP.at' hiP
      rw [upB_get, hbP] at hl
      have hlen : (List.replicate k fill ++ C1.bs[i].by'.drop k).length = C1.bs[i].by'.length := by simp; omega
      simp only [hl, hlen, bindO_some]
      simp only [ia_by hlt, bindO_some, zP_ptr]
      have hdat := hsP.at'.dat _ (List.getElem_mem hiP)
      rw [upB_get] at hdat
      have hst := cells_store hdat (i := k) (by rw [hlen]; exact hlt) fill
      rw [fill_set fill hlt] at hst
      refine bindO_i (eSt_some hst) ?_
      have hsD := hsP.at'.setD hsP.wf hiP (List.replicate (k + 1) fill ++ C1.bs[i].by'.drop (k + 1)) (by rw [upB_get, hlen]; simp; omega)
      have he : ({ C1.upB i { C1.bs[i] with by' := List.replicate k fill ++ C1.bs[i].by'.drop k } with bs := (C1.upB i { C1.bs[i] with by' := List.replicate k fill ++ C1.bs[i].by'.drop k }).bs.set i { (C1.upB i { C1.bs[i] with by' := List.replicate k fill ++ C1.bs[i].by'.drop k }).bs[i] with by' := List.replicate (k + 1) fill ++ C1.bs[i].by'.drop (k + 1) } } : Chip) = C1.upB i { C1.bs[i] with by' := List.replicate (k + 1) fill ++ C1.bs[i].by'.drop (k + 1) } := by
        simp [Chip.upB]
      rw [he] at hsD
      rw [upB_get] at hsD
      exact ⟨C1.bs[i].by'.length - (k + 1), by omega, k + 1, iInc (by omega), rfl, hlt, hsP.trans hsD⟩
    · have hge : k = C1.bs[i].by'.length := by have : ¬ (k : Int) < C1.bs[i].by'.length := by simpa using hge
                                               omega
      subst hge
      rw [List.drop_length, List.append_nil] at hsP hiP
      obtain ⟨N2, hst, hs2⟩ := set_next hsP.at' hsP.wf hiP 0
      have hb1 : (C1.upB i { C1.bs[i] with by' := List.replicate C1.bs[i].by'.length fill }).bb = C1.bb := rfl
      rw [hb1] at hst
      refine bindO_i hst ?_
      rw [upB_upB] at hs2
      simp only [upB_get] at hs2
      have hs02 := hsP.trans hs2
      clear hs2 hst
      refine letP_i fun K50 hK50 => ?_
      have k50 : ∀ (N : Mem), Step M17 N p C1 (C1.upB i { C1.bs[i] with by' := List.replicate C1.bs[i].by'.length fill, next := if fill = 255#8 then 0 else C1.g.pg }) → K50 N := by
        intro N sN
        rw [hK50]
        generalize (if fill = 255#8 then (0 : Int) else C1.g.pg) = nx at *
        have hiN : i < (C1.upB i { C1.bs[i] with by' := List.replicate C1.bs[i].by'.length fill, next := nx }).bs.length := by rw [upB_len]; exact hi1
        have hw1 := ld_wear sN.at' hiN
        rw [upB_get] at hw1
        have hbN : (C1.upB i { C1.bs[i] with by' := List.replicate C1.bs[i].by'.length fill, next := nx }).bb = C1.bb := rfl
        rw [hbN] at hw1
        simp only [hw1, bindO_some, i64, zI_int]
        obtain ⟨N3, hst3, hs3⟩ := set_wear sN.at' sN.wf hiN (iAdd .i64 C1.bs[i].wear 1)
        rw [hbN] at hst3
        refine bindO_i hst3 ?_
        rw [upB_upB] at hs3
        simp only [upB_get] at hs3
        have hi3 : i < (C1.upB i { C1.bs[i] with by' := List.replicate C1.bs[i].by'.length fill, next := nx, wear := iAdd .i64 C1.bs[i].wear 1 }).bs.length := by rw [upB_len]; exact hi1
        have hd1 := ld_done hs3.at' hi3
        rw [upB_get] at hd1
        have hb3 : (C1.upB i { C1.bs[i] with by' := List.replicate C1.bs[i].by'.length fill, next := nx, wear := iAdd .i64 C1.bs[i].wear 1 }).bb = C1.bb := rfl
        rw [hb3] at hd1
        simp only [hd1, bindO_some, i64, zI_int]
        obtain ⟨N4, hst4, hs4⟩ := set_done hs3.at' hs3.wf hi3 (iAdd .i64 C1.bs[i].done 1)
        rw [hb3] at hst4
        refine bindO_i hst4 ?_
        rw [upB_upB] at hs4
        simp only [upB_get] at hs4
        exact kk 0 N4 _ (hpgS _ (by rw [if_neg q3'])) (hs17.trans (sN.trans (hs3.trans hs4)))
      have hz : ((fill.toNat : Int) != 255) = decide (fill ≠ 255#8) := ne_u8 fill 255 (by omega)
      rw [hz]
      refine condB_i (fun hc => ?_) (fun hc => ?_)
      · have hc : fill ≠ 255#8 := by simpa using hc
        have hpg := ld_pg hs02.at'
        simp only [eNil_ptr, bindO_some, fa0, zP_ptr, Nat.zero_add, hpg, i64, zI_int]
        have hi2 : i < (C1.upB i { C1.bs[i] with by' := List.replicate C1.bs[i].by'.length fill, next := 0 }).bs.length := by rw [upB_len]; exact hi1
        obtain ⟨N3, hst3, hs3⟩ := set_next hs02.at' hs02.wf hi2 C1.g.pg
        refine bindO_i hst3 ?_
        rw [upB_upB] at hs3
        simp only [upB_get] at hs3
        refine k50 N3 ?_
        rw [if_neg hc]
        exact hs02.trans hs3
      · have hc : fill = 255#8 := by simpa using hc
        refine k50 N2 ?_
        rw [if_pos hc]
        exact hs02
  refine condB_i (fun hc => ?_) (fun hc => ?_)
  · have hld := ld_cf h6
    simp only [eNil_ptr, bindO_some, fa6, zP_ptr, Nat.reduceAdd, hld, bv8, zI_int]
    exact fin _ (by rw [if_pos hc])
  · exact fin 255#8 (by rw [hc]; rfl)

/-! ## Arm, Boot -/

def cutA (op by' : Int) (f : BitVec 8) : AV := .agg [i64 op, i64 by', bv8 f]
def armR (C : Chip) (op by' : Int) (f : BitVec 8) : Chip × Int :=
  if C.off = true then (C, 9)
  else if op < 1 ∨ op > 1073741824 ∨ by' < 0 ∨ by' > 1073741824 then (C, 2)
  else ({ C with cop := op, cby := by', cf := f, turn := iAdd .i64 C.ops op }, 0)

theorem c_arm (M : Mem) (hw : M.WF) (p : Nat) (C : Chip) (h : ChipAt M p C) (op by' : Int) (f : BitVec 8) :
    CallA tb.P 26 [.ptr p 0, cutA op by' f] M fun y N => y = i64 (armR C op by' f).2 ∧ Step M N p C (armR C op by' f).1 := by
  refine F26_ok ?_
  unfold F26
  refine ⟨_, _, _, rfl, ?_⟩
  refine letP_i fun M4 hM4 => ?_
  have hM4' : M4 = M.new (.cells [i64 op, i64 by', bv8 f] true) := hM4
  have hK : Keep M M4 [] := by rw [hM4']; exact Keep.new hw _
  have hbx : M4.get M.next = some (.cells [i64 op, i64 by', bv8 f] true) := by rw [hM4']; exact get_new _ _
  clear hM4 hM4'
  have h1 := h.keep hw hK
  have s0 := Step.of0 hw h hK
  have hpn : M.next ∉ foot p C := fun hm => by have := h.lt hw _ hm; omega
  have k0 : eLd tb 3 (.ptr M.next 0) M4 = some (i64 op, M4) := eLd_some (ld_cell ty3 rfl hbx rfl)
  have k1 : eLd tb 3 (.ptr M.next 1) M4 = some (i64 by', M4) := eLd_some (ld_cell ty3 rfl hbx rfl)
  have kA : eLd tb 42 (.ptr M.next 0) M4 = some (cutA op by' f, M4) := eLd_some (ld_agg (n := 3) ty42 rfl rfl hbx (by simp))
  simp only [nil_eq, bindO_some, zB_bool, condB_false, eNil_ptr, fa3, zP_ptr, ld_off h1]
  unfold armR
  refine condB_i (fun q => ⟨by rw [if_pos q]; rfl, by rw [if_pos q]; exact s0⟩) (fun q => ?_)
  rw [if_neg (by rw [q]; simp)]
  refine letP_i fun K hKK => ?_
  have bad : (op < 1 ∨ op > 1073741824 ∨ by' < 0 ∨ by' > 1073741824) → K true := fun hb => by
    rw [hKK]
    simp only [condB_true]
    rw [if_pos hb]
    exact ⟨rfl, s0⟩
  have good : ¬ (op < 1 ∨ op > 1073741824 ∨ by' < 0 ∨ by' > 1073741824) → K false := fun hb => by
    rw [hKK]
    simp only [condB_false]
    rw [if_neg hb]
    simp only [eNil_ptr, bindO_some, fa4, zP_ptr, kA]
    refine ⟨_, _, _, rfl, ?_⟩
    simp only [ld_ops h1, bindO_some, i64, zI_int, eNil_ptr, fa6, zP_ptr]
    simp only [i64] at k0
    simp only [k0, bindO_some, zI_int]
    have hset : setAt (chipC C) 10 [i64 op, i64 by', bv8 f] = chipC { C with cop := op, cby := by', cf := f } := rfl
    have hst : evStore tb 42 (.ptr p 10) (cutA op by' f) M4 = some (M4.put p (.cells (chipC { C with cop := op, cby := by', cf := f }) true)) := by
      have := st_any (T := tb) (x := cutA op by' f) (n := 3) (o := 10) ty42 rfl rfl h1.main (by simp [chipC]) (by intro v hv; simp only [cutA, AV.cells, List.mem_cons, List.not_mem_nil, or_false] at hv; rcases hv with rfl | rfl | rfl <;> rfl)
      rw [this]; rfl
    have s1 := h1.set hK.wf { C with cop := op, cby := by', cf := f } rfl rfl rfl rfl rfl (by show 0 ≤ by'; omega)
    refine bindO_i (eSt_some hst) ?_
    have hbx2 := step_get s1 hK.wf hbx hpn
    generalize M4.put p (.cells (chipC { C with cop := op, cby := by', cf := f }) true) = N1 at *
    refine ⟨bindO_i (eLd_some (ld_cell ty3 rfl hbx2 rfl)) rfl, ?_⟩
    simp only [eNil_ptr, bindO_some, fa7, zP_ptr]
    have h2 := s1.at'
    have s2 := h2.set s1.wf { C with cop := op, cby := by', cf := f, turn := iAdd .i64 C.ops op } rfl rfl rfl rfl rfl h2.cby0
    have t2 := st_chip h2 { C with cop := op, cby := by', cf := f, turn := iAdd .i64 C.ops op } (o := 13) (v := i64 (iAdd .i64 C.ops op)) ty3 rfl rfl (by omega) rfl
    refine bindO_i t2 ?_
    exact ⟨by trivial, s0.trans (s1.trans s2)⟩
  simp only [i64] at k0 k1
  simp only [k0, k1, bindO_some, zI_int]
  refine condB_i (fun q => bad (.inl (by simpa using q))) (fun q1 => ?_)
  refine condB_i (fun q => bad (.inr (.inl (by simpa using q)))) (fun q2 => ?_)
  refine condB_i (fun q => bad (.inr (.inr (.inl (by simpa using q))))) (fun q3 => ?_)
  have q1 : ¬ op < 1 := by simpa using q1
  have q2 : ¬ op > 1073741824 := by simpa using q2
  have q3 : ¬ by' < 0 := by simpa using q3
  by_cases q4 : by' > 1073741824
  · rw [decide_eq_true q4]; exact bad (.inr (.inr (.inr q4)))
  · rw [decide_eq_false q4]; exact good (by omega)

def bootR (C : Chip) : Chip × Int := if C.off = true then ({ C with off := false, turn := 0 }, 0) else (C, 7)

theorem c_boot (M : Mem) (hw : M.WF) (p : Nat) (C : Chip) (h : ChipAt M p C) : CallA tb.P 29 [.ptr p 0] M fun y N => y = i64 (bootR C).2 ∧ Step M N p C (bootR C).1 := by
  refine F29_ok ?_
  unfold F29
  simp only [nil_eq, bindO_some, zB_bool, condB_false, eNil_ptr, fa3, zP_ptr, ld_off h]
  unfold bootR
  refine condB_i (fun q => ?_) (fun q => ?_)
  · have q : C.off = false := by simpa using q
    rw [if_neg (by rw [q]; simp)]
    exact ⟨rfl, Step.refl hw h⟩
  have q : C.off = true := by simpa using q
  rw [if_pos q]
  have s1 := h.set hw { C with off := false } rfl rfl rfl rfl rfl h.cby0
  have t1 := st_chip h { C with off := false } (o := 7) (v := .val (.bool false)) ty4 rfl rfl (by omega) rfl
  simp only [t1, bindO_some, eNil_ptr, fa7, zP_ptr]
  generalize M.put p (.cells (chipC { C with off := false }) true) = N1 at *
  have h2 := s1.at'
  have s2 := h2.set s1.wf { C with off := false, turn := 0 } rfl rfl rfl rfl rfl h.cby0
  have t2 := st_chip h2 { C with off := false, turn := 0 } (o := 13) (v := i64 0) ty3 rfl rfl (by omega) rfl
  refine bindO_i t2 ?_
  exact ⟨rfl, s1.trans s2⟩

end Go.Proofs.Ytmifiialedlcnaa
