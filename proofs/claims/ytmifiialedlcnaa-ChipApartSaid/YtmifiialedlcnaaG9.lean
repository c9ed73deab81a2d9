import Derived.Test.YtmifiialedlcnaaG8
set_option linter.unusedSimpArgs false
set_option linter.unusedVariables false
/- Program, Erase, Arm, Boot. -/
namespace Go.Proofs.Ytmifiialedlcnaa
open Go.AM

theorem ChipAt.lt {M : Mem} {p : Nat} {C : Chip} (h : ChipAt M p C) (hw : M.WF) : ∀ c ∈ foot p C, c < M.next := by
  intro c hc
  simp only [foot, List.mem_cons, List.mem_map] at hc
  rcases hc with rfl | rfl | ⟨B, hB, rfl⟩
  · exact hw _ _ h.main
  · exact hw _ _ h.tab
  · exact hw _ _ (h.dat B hB)
theorem step_get {M N : Mem} {p : Nat} {C C' : Chip} (s : Step M N p C C') (hw : M.WF) {c : Nat} {r : Row} (hg : M.get c = some r) (hc : c ∉ foot p C) : N.get c = some r := s.keep.get hw hg hc

def Chip.upB (C : Chip) (i : Nat) (B : Blk) : Chip := { C with bs := C.bs.set i B }
theorem upB_len (C : Chip) (i : Nat) (B : Blk) : (C.upB i B).bs.length = C.bs.length := by simp [Chip.upB]
theorem upB_get {C : Chip} {i : Nat} {B : Blk} (h : i < (C.upB i B).bs.length) : (C.upB i B).bs[i] = B := by simp [Chip.upB]
theorem upB_upB (C : Chip) (i : Nat) (B B' : Blk) : (C.upB i B).upB i B' = C.upB i B' := by simp [Chip.upB]

section
variable {M : Mem} {p : Nat} {C : Chip} (h : ChipAt M p C) (hw : M.WF) {i : Nat} (hi : i < C.bs.length)
include h hw
theorem set_next (z : Int) : ∃ N, eSt tb 3 (.ptr C.bb (i * 4 + 1)) (.val (.int .i64 z)) M = some (undefA, N) ∧ Step M N p C (C.upB i { C.bs[i] with next := z }) :=
  ⟨_, st_blk h hi (z := z) { C.bs[i] with next := z } (j := 1) (by omega) rfl, h.setB hw hi _ rfl rfl⟩
theorem set_wear (z : Int) : ∃ N, eSt tb 3 (.ptr C.bb (i * 4 + 2)) (.val (.int .i64 z)) M = some (undefA, N) ∧ Step M N p C (C.upB i { C.bs[i] with wear := z }) :=
  ⟨_, st_blk h hi (z := z) { C.bs[i] with wear := z } (j := 2) (by omega) rfl, h.setB hw hi _ rfl rfl⟩
theorem set_done (z : Int) : ∃ N, eSt tb 3 (.ptr C.bb (i * 4 + 3)) (.val (.int .i64 z)) M = some (undefA, N) ∧ Step M N p C (C.upB i { C.bs[i] with done := z }) :=
  ⟨_, st_blk h hi (z := z) { C.bs[i] with done := z } (j := 3) (by omega) rfl, h.setB hw hi _ rfl rfl⟩
end

/-! ## Bytes written over -/

def over (l : List (BitVec 8)) (o : Nat) (m : List (BitVec 8)) : List (BitVec 8) := l.take o ++ m ++ l.drop (o + m.length)
theorem over_length {l : List (BitVec 8)} {o : Nat} {m : List (BitVec 8)} (h : o + m.length ≤ l.length) : (over l o m).length = l.length := by
  unfold over
  simp only [List.length_append, List.length_take, List.length_drop]; omega
theorem over_nil' (l : List (BitVec 8)) (o : Nat) : over l o [] = l := by simp [over]
theorem setAt_bvs {l : List (BitVec 8)} {o : Nat} {m : List (BitVec 8)} (h : o + m.length ≤ l.length) : setAt (bvs l) o (bvs m) = bvs (over l o m) := by
  have h1 : bvs l = bvs (l.take o) ++ bvs ((l.drop o).take m.length) ++ bvs (l.drop (o + m.length)) := by
    rw [← bvs_append, ← bvs_append]
    congr 1
    conv => lhs; rw [← List.take_append_drop o l, ← List.take_append_drop m.length (l.drop o)]
    rw [List.drop_drop, List.append_assoc]
  have h2 := setAt_mid (bvs m) (bvs (l.take o)) (bvs (l.drop (o + m.length))) (bvs ((l.drop o).take m.length)) (by simp; omega)
  rw [bvs_length, List.length_take, Nat.min_eq_left (by omega)] at h2
  rw [h1, h2]
  unfold over
  rw [bvs_append, bvs_append]

/-- A copy onto a page. -/
theorem copy_page {M : Mem} {p : Nat} {C : Chip} (h : ChipAt M p C) (hw : M.WF) {i j : Nat} (hi : i < C.bs.length) (hp : isG C.g i j = true) {x : AV} {m : List (BitVec 8)} (hx : BytesAt M x m) (hm : m.length ≤ rawN C.g) :
    ∃ N, evCopy tb 33 (.sl C.bs[i].b (j * rawN C.g) (rawN C.g) (C.bs[i].by'.length - j * rawN C.g) none) x M = some (i64 (m.length : Int), N) ∧
      Step M N p C (C.upB i { C.bs[i] with by' := over C.bs[i].by' (j * rawN C.g) m }) := by
  obtain ⟨i', j', hi', e1, e2, hj, hpg, hr1, hr2, hf, hle, hmax⟩ := h.place hp
  have e1 : i' = i := by omega
  have e2 : j' = j := by omega
  subst e1 e2
  have hs : (j' + 1) * rawN C.g = j' * rawN C.g + rawN C.g := by rw [Nat.add_mul, Nat.one_mul]
  have hfit : j' * rawN C.g + m.length ≤ C.bs[i'].by'.length := by omega
  have hmin : Nat.min m.length (rawN C.g) = m.length := Nat.min_eq_left hm
  unfold evCopy
  rw [ty33]
  simp only [ty5]
  have he1 : evLen (.sl C.bs[i'].b (j' * rawN C.g) (rawN C.g) (C.bs[i'].by'.length - j' * rawN C.g) none) = some (rawN C.g) := rfl
  rw [he1, SlAt.evLen hx]
  simp only [hmin, SlAt.evFirst hx]
  by_cases h0 : m.length = 0
  · have hnil : m = [] := List.eq_nil_of_length_eq_zero h0
    subst hnil
    refine ⟨M, rfl, ?_⟩
    have : C.upB i' { C.bs[i'] with by' := over C.bs[i'].by' (j' * rawN C.g) [] } = C := by
      rw [over_nil']
      unfold Chip.upB
      rw [show ({ C.bs[i'] with by' := C.bs[i'].by' } : Blk) = C.bs[i'] from rfl, List.set_getElem_self]
    rw [this]
    exact Step.refl hw h
  · have hb : Nat.beq m.length 0 = false := AM.beq_ne h0
    rw [hb, cond_false]
    have hst : M.storeAt C.bs[i'].b (j' * rawN C.g) (bvs m) = some (M.put C.bs[i'].b (.cells (bvs (over C.bs[i'].by' (j' * rawN C.g) m)) true)) := by
      unfold Mem.storeAt
      rw [h.dat _ (List.getElem_mem hi)]
      simp only [bvs_length, AM.ble_of hfit, cond_true, ones_of (bvs_one m), setAt_bvs hfit]
    rw [hst]
    exact ⟨_, rfl, h.setD hw hi _ (over_length hfit)⟩

/-! ## Program -/

def pgS (C : Chip) (cut : Bool) (i j : Nat) (d : List (BitVec 8)) : Chip × Int :=
  match C.bs[i]? with
  | none => (C, 0)
  | some B =>
    if failsF C.fs i B.done = true then (C, 10)
    else if (j : Int) ≠ B.next then (C, 11)
    else if cut = true then (C.upB i { B with by' := over B.by' (j * rawN C.g) (d.take (min C.cby.toNat d.length)), next := iAdd .i64 B.next 1 }, 0)
    else (C.upB i { B with by' := over B.by' (j * rawN C.g) d, next := iAdd .i64 B.next 1, done := iAdd .i64 B.done 1 }, 0)
def pgR (C : Chip) (b k : Int) (d : List (BitVec 8)) : Chip × Int :=
  if askd C b k = 0 then
    (if d.length = rawN C.g then ((pgS (bgC C) (bgn C) b.toNat k.toNat d).1, if bgn C = true then 9 else (pgS (bgC C) (bgn C) b.toNat k.toNat d).2) else (C, 2))
  else (C, askd C b k)

theorem c_program (M : Mem) (hw : M.WF) (p : Nat) (C : Chip) (h : ChipAt M p C) (b k : Int) (x : AV) (d : List (BitVec 8)) (hx : BytesAt M x d) (hd : d.length ≤ 9223372036854775807) (hxf : ∀ c, inBlk x c → c ∉ foot p C) :
    CallA tb.P 19 [.ptr p 0, placeA b k, x] M fun y N => y = i64 (pgR C b k d).2 ∧ Step M N p C (pgR C b k d).1 := by
  refine F19_ok ?_
  unfold F19
  refine ⟨_, _, rfl, ?_⟩
  refine letP_i fun M3 hM3 => ?_
  have hM3' : M3 = M.new (.cells [i64 b, i64 k] true) := hM3
  have hK : Keep M M3 [] := by rw [hM3']; exact Keep.new hw _
  have hpl : M3.get M.next = some (.cells [i64 b, i64 k] true) := by rw [hM3']; exact get_new _ _
  clear hM3 hM3'
  have h1 := h.keep hw hK
  have hpn : M.next ∉ foot p C := fun hm => by have := h.lt hw _ hm; omega
  obtain ⟨_, _, l2⟩ := place_ld hpl
  refine bindO_i (eLd_some l2) ?_
  refine ⟨_, _, rfl, ?_⟩
  refine (c_asked _ hK.wf p C h1 b k).mono ?_
  rintro y M8 ⟨rfl, hk8⟩
  have h8 := h1.keep hK.wf hk8
  have hK8 := hK.trans0 hk8
  simp only [i64, zI_int]
  refine condB_i (fun q => ?_) (fun q => ?_)
  · have q : ¬ askd C b k = 0 := by simpa using q
    unfold pgR
    rw [if_neg q]
    exact ⟨rfl, Step.of0 hw h hK8⟩
  have q : askd C b k = 0 := by simpa using q
  have hpg := (askd_zero q).2
  have hx8 : BytesAt M8 x d := SlAt.keep0 hx hw hK8
  refine bindO_i (eLen_some hx8.len) ?_
  simp only [zI_int, eNil_ptr, bindO_some, fa0, zP_ptr, ld_g h8]
  refine ⟨_, _, _, _, _, rfl, ?_⟩
  refine (c_raw _ hk8.wf C.g h.may).mono ?_
  rintro y M23 ⟨rfl, hk23⟩
  have h23 := h8.keep hk8.wf hk23
  have hK23 := hK8.trans0 hk23
  simp only [i64, zI_int]
  refine condB_i (fun q2 => ?_) (fun q2 => ?_)
  · have q2 : ¬ d.length = rawN C.g := fun e => by rw [e] at q2; simp at q2
    unfold pgR
    rw [if_pos q, if_neg q2]
    exact ⟨rfl, Step.of0 hw h hK23⟩
  have q2 : d.length = rawN C.g := by
    have : (d.length : Int) = rawN C.g := by simpa using q2
    omega
  unfold pgR
  rw [if_pos q, if_pos q2]
  obtain ⟨i, j, hi, rfl, rfl, hj, hpg8, hr1, hr2, hf, hle, hmax⟩ := h.place hpg
  simp only [Int.toNat_natCast]
  have hplN : M23.get M.next = some (.cells [i64 (i : Int), i64 (j : Int)] true) := (hk8.trans0 hk23).get hK.wf hpl (by simp)
  obtain ⟨a0, _, _⟩ := place_ld hplN
  simp only [eNil_ptr, bindO_some, fa2, zP_ptr, ld_bs h23, eLd_some a0, i64, zI_int, ia_bs h23 hi]
  refine (c_begin M23 hk23.wf p C h23).mono ?_
  rintro y M36 ⟨rfl, hs⟩
  simp only [zB_bool]
  have hbb := bgC_bs C
  have hft : foot p (bgC C) = foot p C := hs.foot
  have hS36 := hs.pre hK23
  have h36 := hs.at'
  have hpl36 := step_get hs hk23.wf hplN hpn
  generalize hC1 : bgC C = C1 at *
  have hi1 : i < C1.bs.length := by rw [hbb.1]; exact hi
  have hp1 : isG C1.g i j = true := by rw [hbb.2.1]; exact hpg
  have hrw : rawN C1.g = rawN C.g := by rw [hbb.2.1]
  have hx36 : BytesAt M36 x d := SlAt.keep hx hw hS36.keep hxf
  have hbbe : C1.bb = C.bb := by rw [← hC1]; unfold bgC; split <;> rfl
  generalize bgn C = cut at *
  refine letP_i fun K hK85 => ?_
  have kk : ∀ (z : Int) (N : Mem) (C2 : Chip), pgS C1 cut i j d = (C2, z) → Step M36 N p C1 C2 → K z N := by
    intro z N C2 e s
    rw [hK85, e]
    refine condB_i (fun hc => ⟨by rw [hc]; rfl, hS36.trans s⟩) (fun hc => ⟨by rw [hc]; rfl, hS36.trans s⟩)
  obtain ⟨b0, _, _⟩ := place_ld hpl36
  refine bindO_i (eLd_some b0) ?_
  simp only [i64, zI_int]
  refine (c_failed M36 hs.wf p C1 h36 (i : Int)).mono ?_
  rintro y M41 ⟨rfl, hk41⟩
  have h41 := h36.keep hs.wf hk41
  have hs41 := Step.of0 hs.wf h36 hk41
  have hfl : failed C1 (i : Int) = failsF C1.fs i C1.bs[i].done := by
    unfold failed
    rw [Int.toNat_natCast, List.getElem?_eq_getElem hi1, decide_eq_true (by omega), Bool.true_and]
  have hpgS : ∀ r, (if failsF C1.fs i C1.bs[i].done = true then (C1, 10)
      else if (j : Int) ≠ C1.bs[i].next then (C1, 11)
      else if cut = true then (C1.upB i { C1.bs[i] with by' := over C1.bs[i].by' (j * rawN C1.g) (d.take (min C1.cby.toNat d.length)), next := iAdd .i64 C1.bs[i].next 1 }, 0)
      else (C1.upB i { C1.bs[i] with by' := over C1.bs[i].by' (j * rawN C1.g) d, next := iAdd .i64 C1.bs[i].next 1, done := iAdd .i64 C1.bs[i].done 1 }, (0 : Int))) = r → pgS C1 cut i j d = r := fun r hr => by
    unfold pgS
    rw [List.getElem?_eq_getElem hi1]
    exact hr
  simp only [zB_bool]
  rw [hfl]
  refine condB_i (fun q3 => kk 10 M41 C1 (hpgS _ (by rw [if_pos q3])) hs41) (fun q3 => ?_)
  have q3' : ¬ failsF C1.fs i C1.bs[i].done = true := by rw [q3]; simp
  have hpl41 := hk41.get hs.wf hpl36 (by simp)
  obtain ⟨_, c1, c2⟩ := place_ld hpl41
  have hnx := ld_next h41 hi1
  rw [hbbe] at hnx
  simp only [eLd_some c1, bindO_some, i64, zI_int, hnx]
  refine condB_i (fun q4 => kk 11 M41 C1 (hpgS _ (by rw [if_neg q3', if_pos (by simpa using q4)])) hs41) (fun q4 => ?_)
  have q4 : ¬ (j : Int) ≠ C1.bs[i].next := by simpa using q4
  have hx41 : BytesAt M41 x d := SlAt.keep0 hx36 hs.wf hk41
  refine condB_i (fun hc => ?_) (fun hc => ?_)
  · -- the cut
    have hcb := ld_cby h41
    simp only [eNil_ptr, bindO_some, fa6, zP_ptr, eLd_some c2]
    refine ⟨_, _, rfl, ?_⟩
    simp only [Nat.reduceAdd, hcb, bindO_some, i64, zI_int]
    refine bindO_i (eLen_some hx41.len) ?_
    simp only [zI_int]
    have hcby := h41.cby0
    have hmin : eMin tb #[3, 3] 3 [.int .i64 C1.cby, .int .i64 (d.length : Int)] M41 = some (.val (.int .i64 ((min C1.cby.toNat d.length : Nat) : Int)), M41) := by
      have : eMin tb #[3, 3] 3 [.int .i64 C1.cby, .int .i64 (d.length : Int)] M41 = some (.val (.int .i64 (if (d.length : Int) < C1.cby then (d.length : Int) else C1.cby)), M41) := rfl
      rw [this]
      congr 4
      split <;> omega
    refine bindO_i hmin ?_
    simp only [zI_int]
    obtain ⟨y60, hsl, hy60⟩ := hx41.slice (lo := none) (hi := some (.val (.int .i64 ((min C1.cby.toNat d.length : Nat) : Int)))) (a := 0) (r := min C1.cby.toNat d.length) (.inl ⟨rfl, rfl⟩) (.inr rfl) (by omega) (by omega)
    rw [List.drop_zero] at hy60
    refine bindO_i (eSl_some hsl) ?_
    refine (c_page M41 hk41.wf p C1 h41 hi1 hp1).mono ?_
    rintro y M62 ⟨rfl, hk62⟩
    have h62 := h41.keep hk41.wf hk62
    have hx62 : BytesAt M62 x d := SlAt.keep0 hx41 hk41.wf hk62
    refine ⟨bindO_i (ld_cby h62) rfl, bindO_i (eLen_some hx62.len) rfl, ?_⟩
    have hy62 : BytesAt M62 y60 (d.take (min C1.cby.toNat d.length)) := SlAt.keep0 hy60 hk41.wf hk62
    obtain ⟨N, hcp, hsN⟩ := copy_page h62 hk62.wf hi1 hp1 hy62 (by rw [List.length_take]; omega)
    refine bindO_i hcp ?_
    simp only [i64, zI_int]
    have hiN : i < (C1.upB i { C1.bs[i] with by' := over C1.bs[i].by' (j * rawN C1.g) (d.take (min C1.cby.toNat d.length)) }).bs.length := by rw [upB_len]; exact hi1
    have hn1 := ld_next hsN.at' hiN
    rw [upB_get] at hn1
    have hbN : (C1.upB i { C1.bs[i] with by' := over C1.bs[i].by' (j * rawN C1.g) (d.take (min C1.cby.toNat d.length)) }).bb = C.bb := hbbe
    rw [hbN] at hn1
    simp only [hn1, bindO_some, i64, zI_int]
    obtain ⟨N2, hst, hs2⟩ := set_next hsN.at' hsN.wf hiN (iAdd .i64 C1.bs[i].next 1)
    rw [hbN] at hst
    refine bindO_i hst ?_
    rw [upB_upB] at hs2
    simp only [upB_get] at hs2
    refine kk 0 N2 _ (hpgS _ (by rw [if_neg q3', if_neg q4, if_pos hc])) (hs41.trans (Step.pre hk62 (hsN.trans hs2)))
  · have hc' : ¬ cut = true := by rw [hc]; simp
    simp only [eLd_some c2, bindO_some]
    refine ⟨_, _, rfl, ?_⟩
    refine (c_page M41 hk41.wf p C1 h41 hi1 hp1).mono ?_
    rintro y M74 ⟨rfl, hk74⟩
    have h74 := h41.keep hk41.wf hk74
    have hx74 : BytesAt M74 x d := SlAt.keep0 hx41 hk41.wf hk74
    obtain ⟨N, hcp, hsN⟩ := copy_page h74 hk74.wf hi1 hp1 hx74 (by rw [q2, hrw]; exact Nat.le_refl _)
    refine bindO_i hcp ?_
    simp only [i64, zI_int]
    have hiN : i < (C1.upB i { C1.bs[i] with by' := over C1.bs[i].by' (j * rawN C1.g) d }).bs.length := by rw [upB_len]; exact hi1
    have hn1 := ld_next hsN.at' hiN
    rw [upB_get] at hn1
    have hbN : (C1.upB i { C1.bs[i] with by' := over C1.bs[i].by' (j * rawN C1.g) d }).bb = C.bb := hbbe
    rw [hbN] at hn1
    simp only [hn1, bindO_some, i64, zI_int]
    obtain ⟨N2, hst, hs2⟩ := set_next hsN.at' hsN.wf hiN (iAdd .i64 C1.bs[i].next 1)
    rw [hbN] at hst
    refine bindO_i hst ?_
    rw [upB_upB] at hs2
    simp only [upB_get] at hs2
    have hi2 : i < (C1.upB i { C1.bs[i] with by' := over C1.bs[i].by' (j * rawN C1.g) d, next := iAdd .i64 C1.bs[i].next 1 }).bs.length := by rw [upB_len]; exact hi1
    have hd1 := ld_done hs2.at' hi2
    rw [upB_get] at hd1
    have hb2 : (C1.upB i { C1.bs[i] with by' := over C1.bs[i].by' (j * rawN C1.g) d, next := iAdd .i64 C1.bs[i].next 1 }).bb = C.bb := hbbe
    rw [hb2] at hd1
    simp only [hd1, bindO_some, i64, zI_int]
    obtain ⟨N3, hst3, hs3⟩ := set_done hs2.at' hs2.wf hi2 (iAdd .i64 C1.bs[i].done 1)
    rw [hb2] at hst3
    refine bindO_i hst3 ?_
    rw [upB_upB] at hs3
    simp only [upB_get] at hs3
    refine kk 0 N3 _ (hpgS _ (by rw [if_neg q3', if_neg q4, if_neg hc'])) (hs41.trans (Step.pre hk74 (hsN.trans (hs2.trans hs3))))

end Go.Proofs.Ytmifiialedlcnaa
