import Derived.Test.YtjffimbigamadaaG22
import Derived.Test.YtjffimbigamadaaL2
import Derived.Test.YtjffimbigamadaaR15
set_option linter.unusedSimpArgs false
set_option linter.unusedVariables false
/- ChipScript. -/
namespace Go.Proofs.Ytjffimbigamadaa
open Go.AM
open Go.ChangeShapes Go.WideShapes Go.RowKit

theorem nil_eq55 {p : Nat} {M : Mem} {xo yo : Operand} : eBin tb .eql 55 xo yo (.ptr p 0) (.val (.pointer none)) M = some (.val (.bool false), M) := eBin_some (by kernel_rfl)
theorem nil_nil55 {M : Mem} {xo yo : Operand} : eBin tb .eql 55 xo yo (.val (.pointer none)) (.val (.pointer none)) M = some (.val (.bool true), M) := eBin_some (by kernel_rfl)

set_option maxRecDepth 100000 in
theorem chip_script (M : Mem) (hw : M.WF) (g : Geo) (fx : AV) (fs : List Flt) (hfx : FltsAt M fx fs) (hfl : fs.length ≤ 9223372036854775807) (x : AV) (xs : List Act) (hx : ActsAt M x xs) (hxl : xs.length ≤ 9223372036854775807) (hxo : ∀ a ∈ xs, actOk a) :
    CallA tb.P 8 [geoA g, fx, x] M fun y _ => y = .val (.bool true) := by
  refine F8_ok ?_
  unfold F8
  refine ⟨_, _, _, _, _, rfl, ?_⟩
  refine letP_i fun M6 hM6 => ?_
  have hM6' : M6 = M.new (.cells (geoC g) true) := hM6
  have hK6 : Keep M M6 [] := by rw [hM6']; exact Keep.new hw _
  have hg6 : M6.get M.next = some (.cells (geoC g) true) := by rw [hM6']; exact get_new _ _
  clear hM6 hM6'
  have hx6 : ActsAt M6 x xs := SlAt.keep0 hx hw hK6
  have hf6 : FltsAt M6 fx fs := SlAt.keep0 hfx hw hK6
  have hgn : M.next < M6.next := hK6.wf _ _ hg6
  refine letP_i fun K12 hK12 => ?_
  have aw : ∀ (N : Mem) (R : Bool → Mem → Prop), (∀ N', R true N') → CallA tb.P 17 [] N fun y N' => zB y fun b => R b N' := fun N R hR => by
    refine (chip_awake N).mono ?_
    rintro y N' ⟨rfl, _⟩
    simp only [zB_bool]
    exact hR N'
  have big : K12 true := by
    rw [hK12]
    simp only [condB_true]
    exact aw _ (fun b N' => (AV.val (.bool b) : AV) = .val (.bool true)) (fun _ => rfl)
  have small : xs.length ≤ 80 → K12 false := by
    intro h80
    rw [hK12]
    clear big hK12 K12
    simp only [condB_false]
    obtain ⟨_, _, _, _, _, l5⟩ := geo_ld hg6
    refine bindO_i (eLd_some l5) ?_
    refine ⟨_, _, _, _, _, rfl, ?_⟩
    refine bindO_i (eLd_some l5) ?_
    refine ⟨_, _, _, _, _, rfl, ?_⟩
    refine (c_new M6 hK6.wf g fx fs hf6 hfl).mono ?_
    rintro y28 M29 ⟨hk29, hc⟩
    have hg29 := hk29.get hK6.wf hg6 (by simp)
    obtain ⟨_, _, _, _, _, m5⟩ := geo_ld hg29
    refine ⟨bindO_i (eLd_some m5) rfl, ?_⟩
    have hf29 : FltsAt M29 fx fs := SlAt.keep0 hf6 hK6.wf hk29
    refine (d_new M29 hk29.wf g fx fs hf29 hfl).mono ?_
    rintro y31 M32 ⟨hk32, hd⟩
    clear hfl hxl
    rcases hc with ⟨hno, rfl⟩ | ⟨hmay, p, fsA, bb, bs, rfl, hchip, hblank, hfoot, hfsA⟩
    · rcases hd with ⟨_, rfl⟩ | ⟨hyes, _⟩
      rotate_left
      · rw [hno] at hyes; cases hyes
      rw [nil_nil24, bindO_some]
      simp only [zB_bool]
      rw [nil_nil55, bindO_some]
      simp only [zB_bool]
      rw [ne_bool, bindO_some]
      simp only [zB_bool, bne_self_eq_false, condB_false]
      rw [nil_nil55, bindO_some]
      simp only [zB_bool, condB_true]
      exact aw _ (fun b N' => (AV.val (.bool b) : AV) = .val (.bool true)) (fun _ => rfl)
    rcases hd with ⟨hno, _⟩ | ⟨_, r, S, rfl, hdoc, hnew, hown, hdfs, hdpg⟩
    · rw [hno] at hmay; cases hmay
    rw [nil_eq, bindO_some]
    simp only [zB_bool]
    rw [nil_eq55, bindO_some]
    simp only [zB_bool]
    rw [ne_bool, bindO_some]
    simp only [zB_bool, bne_self_eq_false, condB_false]
    rw [nil_eq55, bindO_some]
    simp only [zB_bool, condB_false]
    have hxlt : ∀ c, inBlk x c → c < M6.next := fun c hc => SlAt.blk_lt hx6 hK6.wf hc
    have hB : Both M32 p (newChip g fsA fs bb bs) r S M6.next M29.next [] := ⟨hchip.keep hk29.wf hk32, hdoc, hk32.wf, hk29.nxt, hk32.nxt, fun c hc => ⟨hfoot c hc, hchip.lt hk29.wf c hc⟩, fun c hc => ⟨hfsA c hc, SlAt.blk_lt hchip.flt hk29.wf hc⟩, fun c hc => ⟨hown c hc, by simp⟩, fun c hc => ⟨hdfs c hc, by simp⟩, fun q hq c hc => ⟨hdpg q hq c hc, by simp⟩, fun c hc => by simp at hc⟩
    have hA : Alike 0 (newChip g fsA fs bb bs) (vw S) := alike_new hmay hchip.may hchip.len hblank hnew (by have := hdoc.pgl; rw [hnew.geo] at this; exact this)
    have hR : RngF (newChip g fsA fs bb bs) := rng_of_mayP hmay
    have hg32 := hk32.get hk29.wf hg29 (by simp)
    have hx32 : ActsAt M32 x xs := SlAt.keep0 (SlAt.keep0 hx6 hK6.wf hk29) hk29.wf hk32
    have hCg : (newChip g fsA fs bb bs).g = g := rfl
    have hmg := hchip.may
    clear hchip hblank hfoot hfsA hdoc hnew hown hdfs hdpg hk32 hk29 hg29 m5 hf29
    have hmg : mayG g = true := hmg
    have hm := mayG_iff.1 hmg
    generalize hC0 : newChip g fsA fs bb bs = C0 at *
    generalize hF : M6.next = F at *
    generalize M29.next = B at *
    refine ⟨fun z m P => ∃ (t : Nat) (C : Chip) (S : DocS), z = t ∧ m = xs.length - t ∧ t ≤ xs.length ∧ Both P p C r S F B [] ∧ Alike t C (vw S) ∧ RngF C ∧ C.g = g ∧ ActsAt P x xs ∧ P.get M.next = some (.cells (geoC g) true), ⟨xs.length, 0, C0, S, rfl, rfl, Nat.zero_le _, hB, hA, hR, hCg, hx32, hg32⟩, ?_⟩
    rintro _ z m P ⟨t, C, S1, rfl, rfl, ht, hB1, hA1, hR1, hg1, hxP, hgP⟩
    refine bindO_i (eLen_some hxP.len) ?_
    simp only [zI_int]
    refine condB_i (fun hlt => ?_) (fun hge => ?_)
    · have hlt : t < xs.length := by simpa using hlt
      refine letP_i fun K71 hK71 => ?_
      obtain ⟨b, o, h1, h2⟩ := hxP.at hlt
      refine bindO_i (eIA_some h1) ?_
      simp only [zP_ptr]
      refine bindO_i (eLd_some h2) ?_
      have hao := hxo _ (List.getElem_mem hlt)
      generalize xs[t] = a at *
      refine ⟨_, _, _, _, _, _, _, _, rfl, ?_⟩
      refine (r_done hB1 hA1 (by omega) a hao).mono ?_
      rintro y N ⟨rfl, C', S', hB2, hA2, hfr, e1, e2⟩
      simp only [zB_bool, Bool.not_true, condB_false]
      have hR2 : RngF C' := by unfold RngF; rw [e1, e2]; exact hR1
      refine (r_same hB2 hA2 hR2).mono ?_
      rintro y N2 ⟨rfl, hk2⟩
      simp only [zB_bool]
      rw [hK71]
      simp only [Bool.not_true, condB_false]
      have hxN : ActsAt N x xs := SlAt.mono hxP fun c row hc hr => hfr c row (.inl (hxlt c hc)) hr
      exact ⟨xs.length - (t + 1), by omega, t + 1, C', S', iInc (by omega), rfl, hlt, hB2.keep hk2, hA2, hR2, by rw [e1, hg1], SlAt.keep0 hxN hB2.wf hk2, hk2.get hB2.wf (hfr _ _ (.inl hgn) hgP) (by simp)⟩
    · -- all pages are read
      have ht80 : t ≤ 80 := by omega
      have hA1 := hA1.mono ht80
      refine ⟨fun z m P => ∃ (i : Nat) (C : Chip) (S : DocS), z = i ∧ m = g.bl.toNat - i ∧ i ≤ g.bl.toNat ∧ Both P p C r S F B [] ∧ Alike (80 + i * g.pg.toNat) C (vw S) ∧ C.g = g ∧ P.get M.next = some (.cells (geoC g) true), ⟨g.bl.toNat, 0, C, S1, rfl, rfl, Nat.zero_le _, hB1, hA1.mono (by omega), hg1, hgP⟩, ?_⟩
      clear hB1 hA1 hR1 hg1 hxP hgP
      rintro _ z m P ⟨i, C, S1, rfl, rfl, hi, hB1, hA1, hg1, hgP⟩
      refine letP_i fun K93 hK93 => ?_
      have fin : K93 false := by
        rw [hK93]
        simp only [condB_false]
        exact aw _ (fun b N' => (AV.val (.bool b) : AV) = .val (.bool true)) (fun _ => rfl)
      have go : i < g.bl.toNat → K93 true := by
        intro hib
        rw [hK93]
        clear fin hK93 K93
        simp only [condB_true]
        have hbig : i * g.pg.toNat ≤ 200 := by
          have : i * g.pg.toNat ≤ 20 * 8 := Nat.mul_le_mul (by omega) (by omega)
          omega
        refine ⟨fun z m P => ∃ (j : Nat) (C : Chip) (S : DocS), z = j ∧ m = g.pg.toNat - j ∧ j ≤ g.pg.toNat ∧ Both P p C r S F B [] ∧ Alike (80 + i * g.pg.toNat + j) C (vw S) ∧ C.g = g ∧ P.get M.next = some (.cells (geoC g) true), ⟨g.pg.toNat, 0, C, S1, rfl, rfl, Nat.zero_le _, hB1, hA1, hg1, hgP⟩, ?_⟩
        clear hB1 hA1 hg1 hgP
        rintro _ z m P ⟨j, C, S1, rfl, rfl, hj, hB1, hA1, hg1, hgP⟩
        have l1 : eLd tb 3 (.ptr M.next 1) P = some (.val (.int .i64 g.pg), P) := eLd_some (geo_ld hgP).2.1
        refine bindO_i l1 ?_
        simp only [zI_int]
        refine condB_i (fun hlt => ?_) (fun hge => ?_)
        · have hlt : j < g.pg.toNat := by have : (j : Int) < g.pg := by simpa using hlt
                                          omega
          refine (r_done hB1 hA1 (by omega) ⟨0, i, j, 0#8, 0, 0, 0, 0#8⟩ (by show inI64 0; unfold inI64; omega)).mono ?_
          rintro y N ⟨rfl, C', S', hB2, hA2, hfr, e1, e2⟩
          simp only [zB_bool, Bool.not_true, condB_false]
          exact ⟨g.pg.toNat - (j + 1), by omega, j + 1, C', S', iInc (by omega), rfl, hlt, hB2, hA2, by rw [e1, hg1], hfr _ _ (.inl hgn) hgP⟩
        · refine ⟨g.bl.toNat - (i + 1), by omega, i + 1, C, S1, iInc (by omega), rfl, hib, hB1, hA1.mono ?_, hg1, hgP⟩
          rw [Nat.add_mul, Nat.one_mul]; omega
      have l0 : eLd tb 3 (.ptr M.next 0) P = some (.val (.int .i64 g.bl), P) := eLd_some (geo_ld hgP).1
      refine bindO_i l0 ?_
      simp only [zI_int]
      refine condB_i (fun hlt => ?_) (fun _ => fin)
      have hlt : i < g.bl.toNat := by have : (i : Int) < g.bl := by simpa using hlt
                                      omega
      simp only [eNil_ptr, bindO_some, ra8, zP_ptr, rd_off hB1.d.main, zB_bool]
      refine condB_i (fun _ => ?_) (fun _ => fin)
      simp only [eNil_ptr, bindO_some, ra9, zP_ptr, rd_wait hB1.d.main, i64, zI_int]
      cases hq : (S1.d.wait == 0) with
      | true => exact go hlt
      | false => exact fin
  refine bindO_i (eLen_some hx6.len) ?_
  simp only [zI_int]
  refine condB_i (fun _ => big) (fun h80 => ?_)
  have h80 : xs.length ≤ 80 := by have : ¬ (xs.length : Int) > 80 := by simpa using h80
                                  omega
  refine bindO_i (eLen_some hf6.len) ?_
  simp only [zI_int]
  cases decide ((fs.length : Int) > 20) with
  | true => exact big
  | false => exact small h80

end Go.Proofs.Ytjffimbigamadaa
