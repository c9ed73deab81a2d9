import Derived.Test.YtjffimbigamadaaW2
set_option linter.unusedSimpArgs false
set_option linter.unusedVariables false
set_option linter.unusedSectionVars false
/- Audit's Spread, Limit, lost, twice, Why. -/
namespace Go.Proofs.Ytjffimbigamadaa
open Go.AM

theorem ty155 : tb.ty.get 155 = some ⟨.mp 3 4, 1, 8, [.map none], none⟩ := by kernel_rfl
theorem nil_ne0 {M : Mem} {xo yo : Operand} : eBin tb .neq 24 xo yo (.val (.pointer none)) (.val (.pointer none)) M = some (.val (.bool false), M) := eBin_some (by kernel_rfl)

abbrev sOff : AV := .val (.string ⟨#[111, 102, 102]⟩)
abbrev sTwice : AV := .val (.string ⟨#[116, 119, 105, 99, 101]⟩)
abbrev sWear : AV := .val (.string ⟨#[119, 101, 97, 114]⟩)
abbrev sNone : AV := .val (.string ⟨#[]⟩)

def sprC (C : Chip) : Int := sprL (wsN C C.g.bl.toNat) (gdN C C.g.bl.toNat)
def limI (C : Chip) : Int := iAdd .i64 (iAdd .i64 C.g.tr (iMul .i64 2 C.g.bl)) C.cuts
def lostN (gd : List Bool) (n : Nat) : Nat := ((List.range n).filter fun k => !gd.getD k false).length
theorem lostN_succ (gd : List Bool) (n : Nat) : lostN gd (n + 1) = lostN gd n + (if gd.getD n false = true then 0 else 1) := by
  unfold lostN
  rw [List.range_succ, List.filter_append, List.length_append]
  congr 1
  simp only [List.filter_cons, List.filter_nil]
  cases gd.getD n false <;> simp
theorem lostN_le (gd : List Bool) : ∀ n, lostN gd n ≤ n
  | 0 => Nat.le_refl _
  | n + 1 => by
    have := lostN_le gd n
    rw [lostN_succ]; split <;> omega

theorem c_slack (M : Mem) (hw : M.WF) (g : Geo) (h : mayG g = true) : CallA tb.P 59 [geoA g] M fun y N => y = i64 (iMul .i64 2 g.bl) ∧ Keep M N [] := by
  refine F59_ok ?_
  unfold F59
  refine ⟨_, _, _, _, _, rfl, ?_⟩
  refine letP_i fun M6 hM6 => ?_
  have hM6' : M6 = M.new (.cells (geoC g) true) := hM6
  have hk6 : Keep M M6 [] := by rw [hM6']; exact Keep.new hw _
  have hg6 : M6.get M.next = some (.cells (geoC g) true) := by rw [hM6']; exact get_new _ _
  clear hM6 hM6'
  refine bindO_i (eLd_some (geo_ld hg6).2.2.2.2.2) ?_
  refine ⟨_, _, _, _, _, rfl, ?_⟩
  refine (c_may102 M6 hk6.wf g).mono ?_
  rintro y M14 ⟨rfl, hk14⟩
  rw [h]
  simp only [zB_bool, Bool.not_true, condB_false]
  refine bindO_i (eLd_some (geo_ld (hk14.get hk6.wf hg6 (by simp))).1) ?_
  simp only [i64, zI_int]
  exact ⟨by trivial, hk6.trans0 hk14⟩

theorem a_limit (M : Mem) (hw : M.WF) (p : Nat) (C : Chip) (h : ChipAt M p C) : CallA tb.P 55 [.ptr p 0] M fun y N => y = i64 (limI C) ∧ Keep M N [] := by
  refine F55_ok ?_
  unfold F55
  refine (c_geo M hw p C h).mono ?_
  rintro y M2 ⟨rfl, hk2⟩
  refine ⟨_, _, _, _, _, rfl, ?_⟩
  refine letP_i fun M8 hM8 => ?_
  subst hM8
  refine bindO_i (geo_st C.g (get_new M2 _) rfl) ?_
  rw [Mem.new_put]
  have hk8 := Keep.new hk2.wf (.cells (geoC C.g) true)
  have hg8 := get_new M2 (.cells (geoC C.g) true)
  generalize M2.new (.cells (geoC C.g) true) = M8 at hk8 hg8 ⊢
  refine bindO_i (eLd_some (geo_ld hg8).2.2.2.2.1) ?_
  simp only [i64, zI_int]
  refine bindO_i (eLd_some (geo_ld hg8).2.2.2.2.2) ?_
  refine ⟨_, _, _, _, _, rfl, ?_⟩
  refine (c_slack M8 hk8.wf C.g h.may).mono ?_
  rintro y M19 ⟨rfl, hk19⟩
  simp only [i64, zI_int]
  have hg19 := hk19.get hk8.wf hg8 (by simp)
  have hK19 := hk2.trans0 (hk8.trans0 hk19)
  refine ⟨bindO_i (eLd_some (geo_ld hg19).2.2.2.2.1) rfl, ?_⟩
  refine (c_cuts M19 hk19.wf p C (h.keep hw hK19)).mono ?_
  rintro y M23 ⟨rfl, rfl⟩
  simp only [i64, zI_int]
  exact ⟨bindO_i (eLd_some (geo_ld hg19).2.2.2.2.1) rfl, by trivial, hK19⟩

theorem a_spread (M : Mem) (hw : M.WF) (p : Nat) (C : Chip) (h : ChipAt M p C) : CallA tb.P 54 [.ptr p 0] M fun y N => y = i64 (sprC C) ∧ Keep M N [] := by
  refine F54_ok ?_
  unfold F54
  obtain ⟨_, _, _, _, _, _, _, h4⟩ := nP_bnd h.may
  refine (a_wears M hw p C h).mono ?_
  rintro y M2 ⟨x, z, rfl, hk2, hx, hz, _⟩
  refine ⟨x, z, rfl, ?_⟩
  refine (w_spread M2 x z _ _ hx.at hz.at (by rw [gdN_len, wsN_len]) (by rw [wsN_len]; omega)).mono ?_
  rintro y N ⟨rfl, rfl⟩
  simp only [i64, zI_int]
  exact ⟨by trivial, hk2⟩

theorem a_lost (M : Mem) (hw : M.WF) (p : Nat) (C : Chip) (h : ChipAt M p C) : CallA tb.P 104 [.ptr p 0] M fun y N => y = i64 (lostN (gdN C C.g.bl.toNat) C.g.bl.toNat : Int) ∧ Keep M N [] := by
  refine F104_ok ?_
  unfold F104
  obtain ⟨_, _, _, _, _, _, _, h4⟩ := nP_bnd h.may
  refine (a_wears M hw p C h).mono ?_
  rintro y M2 ⟨x, z, rfl, hk2, hx, hz, _⟩
  refine ⟨x, z, rfl, ?_⟩
  refine bindO_i (bools_len hz.at) ?_
  simp only [zI_int]
  rw [gdN_len]
  refine ⟨fun a i n P => ∃ j : Nat, a = lostN (gdN C C.g.bl.toNat) j ∧ i = j ∧ n = C.g.bl.toNat - j ∧ j ≤ C.g.bl.toNat ∧ P = M2, ⟨C.g.bl.toNat, 0, rfl, rfl, rfl, Nat.zero_le _, rfl⟩, ?_⟩
  rintro _ a i n P ⟨j, rfl, rfl, rfl, hj, rfl⟩
  have hle := lostN_le (gdN C C.g.bl.toNat) j
  refine condB_i (fun hlt => ?_) (fun hge => ?_)
  · have hlt : j < C.g.bl.toNat := Int.ofNat_lt.1 (of_decide_eq_true hlt)
    refine letP_i fun K hK => ?_
    obtain ⟨b, o, h1, _, h3⟩ := bool_one hz.at (i := j) (by rw [gdN_len]; omega)
    refine bindO_i (h1 P) ?_
    simp only [zP_ptr]
    refine bindO_i h3 ?_
    simp only [zB_bool]
    have hs := lostN_succ (gdN C C.g.bl.toNat) j
    cases hg : (gdN C C.g.bl.toNat).getD j false with
    | true =>
      simp only [Bool.not_true, condB_false]
      rw [hK]
      exact ⟨C.g.bl.toNat - (j + 1), by omega, j + 1, by rw [hs, if_pos hg, Nat.add_zero], iInc (by omega), rfl, hlt, rfl⟩
    | false =>
      simp only [Bool.not_false, condB_true]
      rw [hK]
      exact ⟨C.g.bl.toNat - (j + 1), by omega, j + 1, by rw [iInc (by omega), hs, if_neg (by rw [hg]; simp)], iInc (by omega), rfl, hlt, rfl⟩
  · have hge : j = C.g.bl.toNat := by have : ¬ (j : Int) < C.g.bl.toNat := of_decide_eq_false hge
                                      omega
    subst hge
    exact ⟨rfl, hk2⟩

/-! ## Two of one number -/

def mE (l : List Int) : List (AV × AV) := l.map fun s => (i64 s, bv true)
theorem find_in (s : Int) : ∀ (l : List Int) (o : Nat), s ∈ l → ∃ i k, findA tb 3 (i64 s) (mE l) o = some (some (i, k, bv true))
  | [], _, h => by simp at h
  | a :: l, o, h => by
    show ∃ i k, (match eqA tb 60 3 (i64 s) (i64 a) with | some true => some (some (o, i64 a, bv true)) | some false => findA tb 3 (i64 s) (mE l) (o + 1) | none => none) = _
    rw [eqA_int]
    cases hb : s == a with
    | true => exact ⟨_, _, rfl⟩
    | false =>
      have hne : ¬ s = a := by intro e; rw [e] at hb; simp at hb
      exact find_in s l (o + 1) (by simpa [hne] using h)
theorem find_out (s : Int) : ∀ (l : List Int) (o : Nat), s ∉ l → findA tb 3 (i64 s) (mE l) o = some none
  | [], _, _ => rfl
  | a :: l, o, h => by
    show (match eqA tb 60 3 (i64 s) (i64 a) with | some true => some (some (o, i64 a, bv true)) | some false => findA tb 3 (i64 s) (mE l) (o + 1) | none => none) = _
    rw [eqA_int]
    have hne : ¬ s = a := fun e => h (by simp [e])
    have hb : (s == a) = false := by simpa using hne
    rw [hb]
    exact find_out s l (o + 1) (fun hm => h (by simp [hm]))

theorem look_map {M : Mem} {b : Nat} {l : List Int} (hg : M.get b = some (.map (mE l))) (s : Int) : evLookup tb 155 (.map b) (i64 s) false M = some (bv (decide (s ∈ l))) := by
  unfold evLookup
  rw [ty155]
  simp only
  rw [ty3, ty4]
  have he : entsOf M (.map b) = some (mE l) := by unfold entsOf; simp only; rw [hg]
  rw [he]
  have hk : keyOk tb 60 3 (i64 s) = true := by unfold keyOk; rw [ty3]
  simp only [hk, cond_true]
  by_cases hm : s ∈ l
  · obtain ⟨i, k, h⟩ := find_in s l 0 hm
    rw [h, decide_eq_true hm]; rfl
  · rw [find_out s l 0 hm, decide_eq_false hm]; rfl
theorem put_map {M : Mem} {b : Nat} {l : List Int} (hg : M.get b = some (.map (mE l))) (s : Int) (hs : s ∉ l) : evMapUpdate tb 155 (.map b) (i64 s) (bv true) M = some (M.put b (.map (mE (l ++ [s])))) := by
  unfold evMapUpdate
  rw [ty155]
  simp only
  rw [ty3, hg]
  have hk : keyOk tb 60 3 (i64 s) = true := by unfold keyOk; rw [ty3]
  simp only [hk, cond_true]
  rw [find_out s l 0 hs]
  simp [mE]

theorem nodup_snoc {α : Type} {l : List α} {a : α} (h : l.Nodup) : (l ++ [a]).Nodup ↔ a ∉ l := by
  rw [List.nodup_append]
  constructor
  · rintro ⟨_, _, h3⟩ hm
    exact h3 a hm a (by simp) rfl
  · intro hm
    exact ⟨h, by simp, fun x hx y hy e => hm (by rw [List.mem_singleton] at hy; rw [← hy, ← e]; exact hx)⟩

/-- The pages' numbers. -/
def sqC (C : Chip) : List Int := (idx C (nP C.g)).map fun i => (fdI C i).t.s

theorem rdC_cuts {C : Chip} (h : Calm C) (b k : Int) : (rdC C b k).cuts = C.cuts := by
  unfold rdC
  split
  · rw [h.bg.2.1]
  · rfl
theorem ov_cuts {α : Type} (f : α → Nat → Nat → Tg → Int → α) {C : Chip} (h : Calm C) (hm : mayG C.g = true) (a : α) : ∀ i, i ≤ nP C.g → (ovN f C a i).1.cuts = C.cuts
  | 0, _ => rfl
  | i + 1, hi => by
    have ih := ov_cuts f h hm a i (by omega)
    have hc := (calm_ov f h hm a i (by omega)).2
    show (ovS f (ovN f C a i) i).1.cuts = _
    generalize ovN f C a i = s at *
    unfold ovS
    split
    · exact ih
    · split
      · exact ih
      · split
        · exact (rdC_cuts hc _ _).trans ih
        · exact (rdC_cuts hc _ _).trans ih

/-- What else is so behind a scan. -/
structure Also (C C' : Chip) : Prop where
  cuts : C'.cuts = C.cuts
  ops : ∀ k : Nat, 0 ≤ C.ops → C.ops ≤ (k : Int) → k ≤ 1000000 → 0 ≤ C'.ops ∧ C'.ops ≤ (k : Int) + 200
theorem ov_ops {α : Type} (f : α → Nat → Nat → Tg → Int → α) {C : Chip} (h : Calm C) (hm : mayG C.g = true) (a : α) {k : Nat} (h0 : 0 ≤ C.ops) (h1 : C.ops ≤ (k : Int)) (hk : k ≤ 1000000) : ∀ i, i ≤ nP C.g → 0 ≤ (ovN f C a i).1.ops ∧ (ovN f C a i).1.ops ≤ (k : Int) + i
  | 0, _ => ⟨h0, by show C.ops ≤ _; omega⟩
  | i + 1, hi => by
    have ih := ov_ops f h hm a h0 h1 hk i (by omega)
    have hc := (calm_ov f h hm a i (by omega)).2
    have hn := (nP_bnd hm).2.1
    show 0 ≤ (ovS f (ovN f C a i) i).1.ops ∧ (ovS f (ovN f C a i) i).1.ops ≤ _
    generalize ovN f C a i = s at *
    have hr : ∀ b q, 0 ≤ (rdC s.1 b q).ops ∧ (rdC s.1 b q).ops ≤ (k : Int) + (i + 1 : Nat) := fun b q => by
      unfold rdC
      split
      · rw [hc.bg.2.1]
        show 0 ≤ iAdd .i64 s.1.ops 1 ∧ iAdd .i64 s.1.ops 1 ≤ _
        rw [iAdd, wrap_i64' (by omega) (by omega)]
        omega
      · omega
    unfold ovS
    split
    · omega
    · split
      · omega
      · split
        · exact hr _ _
        · exact hr _ _

theorem a_twice (M : Mem) (hw : M.WF) (p : Nat) (C : Chip) (h : ChipAt M p C) (hc : Calm C) : CallA tb.P 103 [.ptr p 0] M fun y N => ∃ (b : Bool) (C' : Chip), y = bv b ∧ (b = true ↔ ¬ (sqC C).Nodup) ∧ Step M N p C C' ∧ Rd C C' ∧ Also C C' := by
  refine F103_ok ?_
  unfold F103
  have hmg : mayG C.g = true := h.may
  obtain ⟨hn1, hn2, e1, e2, h3, h3', h4, h4'⟩ := nP_bnd hmg
  refine (c_scan M hw p C h).mono ?_
  rintro y M2 ⟨x, rfl, hx, hfx, s2⟩
  obtain ⟨o3, o4⟩ := rd_ov fScan [] hc hmg
  have o5 : Also C (ovN fScan C [] (nP C.g)).1 := ⟨ov_cuts fScan hc hmg [] (nP C.g) (Nat.le_refl _), fun k h0 h1 hk => by have := ov_ops fScan hc hmg [] h0 h1 hk (nP C.g) (Nat.le_refl _); omega⟩
  rw [scan_idx] at o3
  rw [o3] at hx ⊢
  simp only [if_true] at hx
  generalize (ovN fScan C [] (nP C.g)).1 = C2 at *
  have hil : (idx C (nP C.g)).length ≤ 160 := by
    have := List.length_filter_le (okI C) (List.range (nP C.g))
    rw [List.length_range] at this
    unfold idx; omega
  refine ⟨_, _, rfl, ?_⟩
  refine letP_i fun M5 hM5 => ?_
  have hk5 : Keep M2 M5 [] := by rw [hM5]; exact Keep.new s2.wf _
  have hm5 : M5.get M2.next = some (.map (mE [])) := by rw [hM5]; exact get_new _ _
  clear hM5
  have hfs : ∀ P, Keep M2 P [] → FdsAt P x ((idx C (nP C.g)).map (fdI C)) := fun P hk => SlAt.mono hx.at fun c r _ hr => hk.get s2.wf hr (by simp)
  have hsq : sqC C = ((idx C (nP C.g)).map (fdI C)).map fun f => f.t.s := by rw [List.map_map]; rfl
  generalize (idx C (nP C.g)).map (fdI C) = fl at *
  refine bindO_i (eLen_some (hfs M5 hk5).len) ?_
  simp only [zI_int]
  have hfl : fl.length ≤ 200 := by
    have : (sqC C).length = fl.length := by rw [hsq, List.length_map]
    have h2 : (sqC C).length = (idx C (nP C.g)).length := by unfold sqC; rw [List.length_map]
    omega
  rw [hsq]
  have hfin : ∀ (N : Mem) (b : Bool), Keep M2 N [] → (b = true ↔ ¬ (fl.map fun f => f.t.s).Nodup) → ∃ (b' : Bool) (C' : Chip), bv b = bv b' ∧ (b' = true ↔ ¬ (fl.map fun f => f.t.s).Nodup) ∧ Step M N p C C' ∧ Rd C C' ∧ Also C C' :=
    fun N b hk hb => ⟨b, C2, rfl, hb, s2.post hk, o4, o5⟩
  refine ⟨fun z n P => ∃ t : Nat, z = t ∧ n = fl.length - t ∧ t ≤ fl.length ∧ Keep M2 P [] ∧ P.get M2.next = some (.map (mE ((fl.map fun f => f.t.s).take t))) ∧ ((fl.map fun f => f.t.s).take t).Nodup, ⟨fl.length, 0, rfl, rfl, Nat.zero_le _, hk5, hm5, by simp⟩, ?_⟩
  rintro _ z n P ⟨t, rfl, rfl, ht, hkP, hmP, hnd⟩
  refine condB_i (fun hlt => ?_) (fun hge => ?_)
  · have hlt : t < fl.length := Int.ofNat_lt.1 (of_decide_eq_true hlt)
    have hts : t < (fl.map fun f => f.t.s).length := by rw [List.length_map]; exact hlt
    have hget : (fl.map fun f => f.t.s)[t] = fl[t].t.s := by rw [List.getElem_map]
    have htk : (fl.map fun f => f.t.s).take (t + 1) = (fl.map fun f => f.t.s).take t ++ [fl[t].t.s] := by
      rw [List.take_add_one, List.getElem?_eq_getElem hts, hget]; rfl
    obtain ⟨b, o, f1, f2, _⟩ := (hfs P hkP).all hlt
    refine bindO_i (f1 P) ?_
    simp only [zP_ptr]
    refine bindO_i f2 ?_
    refine ⟨_, _, _, _, _, _, rfl, ?_⟩
    refine letP_i fun M23 hM23 => ?_
    have hst : evStore tb 78 (.ptr P.next 0) (.agg (fdC fl[t])) M23 = some (M23.put P.next (.cells (fdC fl[t]) true)) := by
      refine st_all ty78 rfl (cs := [i64 0, i64 0, i64 0, i64 0, i64 0, i64 0]) ?_ rfl (fdC_one _)
      rw [hM23]; exact get_new _ _
    refine bindO_i (eSt_some hst) ?_
    subst hM23
    rw [Mem.new_put]
    have hk24 := Keep.new hkP.wf (.cells (fdC fl[t]) true)
    have hf24 := get_new P (.cells (fdC fl[t]) true)
    generalize P.new (.cells (fdC fl[t]) true) = M24 at hk24 hf24 ⊢
    have l24 : eLd tb 3 (.ptr P.next 4) M24 = some (.val (.int .i64 fl[t].t.s), M24) := eLd_some (ld_cell ty3 rfl hf24 rfl)
    refine bindO_i l24 ?_
    simp only [zI_int]
    have hm24 := hk24.get hkP.wf hmP (by simp)
    refine bindO_i (eLk_some (look_map hm24 _)) ?_
    simp only [zB_bool]
    refine condB_i (fun hd => ?_) (fun hd => ?_)
    · have hd : fl[t].t.s ∈ (fl.map fun f => f.t.s).take t := of_decide_eq_true hd
      refine hfin M24 true (hkP.trans0 hk24) ⟨fun _ hno => ?_, fun _ => rfl⟩
      have h1 : ((fl.map fun f => f.t.s).take (t + 1)).Nodup := hno.sublist (List.take_sublist _ _)
      rw [htk] at h1
      exact (nodup_snoc hnd).1 h1 hd
    · have hd : fl[t].t.s ∉ (fl.map fun f => f.t.s).take t := of_decide_eq_false hd
      refine bindO_i l24 ?_
      simp only [zI_int]
      refine bindO_i (eMU_some (put_map hm24 _ hd)) ?_
      have hmn : M2.next < M24.next := hk24.wf _ _ hm24
      refine ⟨fl.length - (t + 1), by omega, t + 1, iInc (by omega), rfl, hlt, ?_, ?_, ?_⟩
      · exact (hkP.trans0 hk24).trans (Keep.put hk24.wf hmn _) (by simp) (fun c hc hlt => by rw [List.mem_singleton] at hc; omega)
      · show (M24.put M2.next _).get M2.next = _
        rw [Mem.get_put, if_pos rfl, htk]
      · rw [htk]; exact (nodup_snoc hnd).2 hd
  · have hge : t = fl.length := by have : ¬ (t : Int) < fl.length := of_decide_eq_false hge
                                   omega
    subst hge
    rw [List.take_of_length_le (by rw [List.length_map]; exact Nat.le_refl _)] at hnd
    exact hfin P false hkP ⟨fun h => by simp at h, fun h => absurd hnd h⟩

theorem Rd.ws {C C' : Chip} (h : Rd C C') (n : Nat) : wsN C' n = wsN C n ∧ gdN C' n = gdN C n := by
  constructor
  · unfold wsN wearOf; rw [h.bs]
  · unfold gdN failed; rw [h.bs, h.fs]
theorem Rd.spr {C C' : Chip} (h : Rd C C') : sprC C' = sprC C := by unfold sprC; rw [h.g, (h.ws _).1, (h.ws _).2]
theorem Rd.lim {C C' : Chip} (h : Rd C C') (hc : C'.cuts = C.cuts) : limI C' = limI C := by unfold limI; rw [h.g, hc]

def whyC (C : Chip) (b : Bool) : AV := if b = true then sTwice else if limI C < sprC C ∧ (lostN (gdN C C.g.bl.toNat) C.g.bl.toNat : Int) ≤ C.g.sp then sWear else sNone

theorem a_why (M : Mem) (hw : M.WF) (p : Nat) (C : Chip) (h : ChipAt M p C) (hc : Calm C) : CallA tb.P 60 [.ptr p 0] M fun y N => ∃ (b : Bool) (C' : Chip), y = whyC C b ∧ (b = true ↔ ¬ (sqC C).Nodup) ∧ Step M N p C C' ∧ Rd C C' ∧ Also C C' := by
  refine F60_ok ?_
  unfold F60
  refine (c_on M hw p C h).mono ?_
  rintro y M2 ⟨rfl, rfl⟩
  rw [hc.off]
  simp only [zB_bool, Bool.not_false, Bool.not_true, condB_false]
  refine (a_twice M2 hw p C h hc).mono ?_
  rintro y M5 ⟨b, C2, rfl, hb, s5, r5, c5⟩
  simp only [zB_bool]
  refine condB_i (fun hb' => ⟨b, C2, by unfold whyC; rw [if_pos hb'], hb, s5, r5, c5⟩) (fun hb' => ?_)
  refine letP_i fun K25 hK25 => ?_
  have fin : ∀ (N : Mem) (w : Bool), Keep M5 N [] → (w = true ↔ limI C < sprC C ∧ (lostN (gdN C C.g.bl.toNat) C.g.bl.toNat : Int) ≤ C.g.sp) → K25 w N := by
    intro N w hk hw'
    rw [hK25]
    refine condB_i (fun q => ⟨b, C2, ?_, hb, s5.post hk, r5, c5⟩) (fun q => ⟨b, C2, ?_, hb, s5.post hk, r5, c5⟩)
    · unfold whyC; rw [if_neg (by rw [hb']; simp), if_pos (hw'.1 q)]
    · unfold whyC; rw [if_neg (by rw [hb']; simp), if_neg (fun e => by rw [hw'.2 e] at q; cases q)]
  clear hK25
  refine (a_spread M5 s5.wf p C2 s5.at').mono ?_
  rintro y M8 ⟨rfl, hk8⟩
  simp only [i64, zI_int]
  have h8 := s5.at'.keep s5.wf hk8
  refine (a_limit M8 hk8.wf p C2 h8).mono ?_
  rintro y M11 ⟨rfl, hk11⟩
  simp only [i64, zI_int]
  rw [r5.spr, r5.lim c5.cuts]
  have hK11 := hk8.trans0 hk11
  refine condB_i (fun hgt => ?_) (fun hgt => ?_)
  · have hgt : limI C < sprC C := of_decide_eq_true hgt
    have h11 := h8.keep hk8.wf hk11
    refine (a_lost M11 hk11.wf p C2 h11).mono ?_
    rintro y M14 ⟨rfl, hk14⟩
    simp only [i64, zI_int]
    refine (c_geo M14 hk14.wf p C2 (h11.keep hk11.wf hk14)).mono ?_
    rintro y M17 ⟨rfl, hk17⟩
    refine ⟨_, _, _, _, _, rfl, ?_⟩
    refine fin M17 _ (hK11.trans0 (hk14.trans0 hk17)) ?_
    rw [decide_eq_true_eq, r5.g, (r5.ws _).2]
    exact ⟨fun q => ⟨hgt, q⟩, fun q => q.2⟩
  · have hgt : ¬ limI C < sprC C := of_decide_eq_false hgt
    exact fin M11 false hK11 ⟨fun q => by simp at q, fun q => absurd q.1 hgt⟩

/-- Without power. -/
theorem a_off (M : Mem) (hw : M.WF) (p : Nat) (C : Chip) (h : ChipAt M p C) (hc : C.off = true) : CallA tb.P 60 [.ptr p 0] M fun y N => y = sOff ∧ N = M := by
  refine F60_ok ?_
  unfold F60
  refine (c_on M hw p C h).mono ?_
  rintro y M2 ⟨rfl, rfl⟩
  rw [hc]
  simp only [zB_bool, Bool.not_false, Bool.not_true, condB_true]
  exact ⟨by trivial, by trivial⟩
theorem a_nil (M : Mem) : CallA tb.P 60 [.val (.pointer none)] M fun y N => y = sOff ∧ N = M := by
  refine F60_ok ?_
  unfold F60
  have on : CallA tb.P 27 [.val (.pointer none)] M fun y N => y = bv false ∧ N = M := by
    refine F27_ok ?_
    unfold F27
    simp only [letP_eq, nil_ne0, bindO_some, zB_bool, condB_false]
    exact ⟨by trivial, by trivial⟩
  refine on.mono ?_
  rintro y M2 ⟨rfl, rfl⟩
  simp only [zB_bool, Bool.not_false, condB_true]
  exact ⟨by trivial, by trivial⟩

end Go.Proofs.Ytjffimbigamadaa
