import Derived.Test.YtjffimbigamadaaH11
set_option linter.unusedSimpArgs false
set_option linter.unusedVariables false
set_option linter.unusedSectionVars false
/- What a calm chip tells: which pages, how many. -/
namespace Go.Proofs.Ytjffimbigamadaa
open Go.AM

def okI (C : Chip) (i : Nat) : Bool := !badF C.fs (plB C.g i) && (state (pgI C i) == 1)
def idx (C : Chip) (n : Nat) : List Nat := (List.range n).filter (okI C)
def fdI (C : Chip) (i : Nat) : Fd := ⟨plB C.g i, plK C.g i, tgOf (pgI C i)⟩

theorem see_one (C : Chip) (i : Nat) : ((seeI C i).2 = 1 ↔ state (pgI C i) = 1) ∧ (state (pgI C i) = 1 → (seeI C i).1 = tgOf (pgI C i)) ∧ (seeI C i).2 = ((state (pgI C i) : Nat) : Int) := by
  have e : (seeI C i).2 = ((state (pgI C i) : Nat) : Int) := by unfold seeI lkS; rw [if_pos rfl]
  refine ⟨by rw [e]; omega, fun h => ?_, e⟩
  unfold seeI lkT
  rw [if_pos ⟨rfl, h⟩]

theorem scan_idx (C : Chip) : ∀ n, foldT C.g fScan (badF C.fs) (seeI C) [] n = (idx C n).map (fdI C)
  | 0 => rfl
  | n + 1 => by
    obtain ⟨h1, h2, _⟩ := see_one C n
    have hi : idx C (n + 1) = idx C n ++ (if okI C n = true then [n] else []) := by
      unfold idx
      rw [List.range_succ, List.filter_append]
      congr 1
      simp only [List.filter_cons, List.filter_nil]
    unfold foldT
    rw [scan_idx C n, hi, List.map_append]
    cases hb : badF C.fs (plB C.g n) with
    | true =>
      rw [if_pos rfl]
      have : okI C n = false := by unfold okI; rw [hb]; rfl
      rw [this]; simp
    | false =>
      rw [if_neg (by simp)]
      unfold fScan
      by_cases hs : state (pgI C n) = 1
      · have : okI C n = true := by unfold okI; rw [hb, hs]; rfl
        rw [if_pos (h1.2 hs), this, if_pos rfl, h2 hs]
        rfl
      · have : okI C n = false := by unfold okI; rw [hb]; simp [hs]
        rw [if_neg (fun e => hs (h1.1 e)), this]; simp

/-! ## Cells of a found -/

theorem cellsAt_sub {M : Mem} {b o n : Nat} {cs : List AV} (h : M.cellsAt b o n = some cs) {j m : Nat} (hjm : j + m ≤ n) : M.cellsAt b (o + j) m = some ((cs.drop j).take m) := by
  unfold Mem.cellsAt at h ⊢
  split at h
  · rename_i ds rw' hg
    rw [cond_eq_ite] at h
    split at h
    · rename_i hle
      have hle := Nat.le_of_ble_eq_true hle
      injection h with h
      rw [ble_of (show o + j + m ≤ ds.length by omega), cond_true, ← h]
      rw [List.drop_take, List.take_take, List.drop_drop, Nat.min_eq_left (by omega)]
    · cases h
  · cases h
theorem cellsAt_cell {M : Mem} {b o n : Nat} {cs : List AV} (h : M.cellsAt b o n = some cs) {j : Nat} {v : AV} (hj : j < n) (hv : cs[j]? = some v) : M.cellAt b (o + j) = some v := by
  unfold Mem.cellsAt at h
  unfold Mem.cellAt
  split at h
  · rename_i ds rw' hg
    rw [cond_eq_ite] at h
    split at h
    · rename_i hle
      have hle := Nat.le_of_ble_eq_true hle
      injection h with h
      rw [← h, List.getElem?_take, if_pos hj, List.getElem?_drop] at hv
      exact hv
    · cases h
  · cases h

theorem FdsAt.all {M : Mem} {x : AV} {l : List Fd} (h : FdsAt M x l) {i : Nat} (hi : i < l.length) :
    ∃ b o, (∀ N, eIA tb 70 x (.val (.int .i64 (i : Int))) N = some (.ptr b o, N)) ∧ eLd tb 78 (.ptr b o) M = some (.agg (fdC l[i]), M) ∧ eLd tb 3 (.ptr b o) M = some (.val (.int .i64 l[i].b), M) ∧ eLd tb 30 (.ptr b o) M = some (placeA l[i].b l[i].k, M) ∧ eLd tb 76 (.ptr b (o + 2)) M = some (tgA l[i].t, M) := by
  obtain ⟨b, o, g1, _, g3, g4⟩ := SlAt.at h ty70 rfl ty78 rfl hi (k' := .i64)
  rw [flat_at fdC_len hi] at g4
  refine ⟨b, o, fun N => eIA_some g1, eLd_some ?_, eLd_some ?_, eLd_some ?_, eLd_some ?_⟩
  · unfold evLoad
    rw [ty78]
    simp only [TI.isAgg, cond_true, g4, Option.map_some]
  · unfold evLoad
    rw [ty3]
    simp only [TI.isAgg, cond_false]
    have := cellsAt_cell g4 (j := 0) (v := i64 l[i].b) (by omega) rfl
    rw [Nat.add_zero] at this
    exact this
  · unfold evLoad
    rw [ty30]
    simp only [TI.isAgg, cond_true]
    have := cellsAt_sub g4 (j := 0) (m := 2) (by omega)
    rw [Nat.add_zero] at this
    rw [this]; rfl
  · unfold evLoad
    rw [ty76]
    simp only [TI.isAgg, cond_true]
    have := cellsAt_sub g4 (j := 2) (m := 4) (by omega)
    rw [this]; rfl

theorem ChipAt.of_get {M N : Mem} {p : Nat} {C : Chip} (h : ChipAt M p C) (hg : ∀ c row, (c ∈ foot p C ∨ inBlk C.fsA c) → M.get c = some row → N.get c = some row) : ChipAt N p C := by
  refine ⟨hg _ _ (.inl (by simp [foot])) h.main, hg _ _ (.inl (by simp [foot])) h.tab, fun B hB => hg _ _ (.inl ?_) (h.dat B hB), SlAt.mono h.flt fun c row hc hr => hg c row (.inr hc) hr, h.nd, h.fsx, h.one, h.fsl, h.may, h.len, h.ful, h.cby0⟩
  simp only [foot, List.mem_cons, List.mem_map]
  exact .inr (.inr ⟨B, hB, rfl⟩)

/-- A calm chip is read; it stays calm, and the same. -/
structure Rd (C C' : Chip) : Prop where
  g : C'.g = C.g
  fs : C'.fs = C.fs
  bs : C'.bs = C.bs
  calm : Calm C'
theorem Rd.refl {C : Chip} (h : Calm C) : Rd C C := ⟨rfl, rfl, rfl, h⟩
theorem Rd.trans {C C' C'' : Chip} (h : Rd C C') (k : Rd C' C'') : Rd C C'' := ⟨k.g.trans h.g, k.fs.trans h.fs, k.bs.trans h.bs, k.calm⟩
theorem Rd.pgI {C C' : Chip} (h : Rd C C') (i : Nat) : pgI C' i = pgI C i := pgI_same h.g h.bs i
theorem Rd.rd {C C' : Chip} (h : Rd C C') (hm : mayG C.g = true) {i : Nat} (hi : i < nP C.g) : rdE C' (plB C.g i) (plK C.g i) = 0 ∧ rdB C' (plB C.g i) (plK C.g i) = Go.Proofs.Ytjffimbigamadaa.pgI C i ∧ Rd C (rdC C' (plB C.g i) (plK C.g i)) := by
  obtain ⟨r1, r2, r3⟩ := calm_rd h.calm (i := i) (by rw [h.g]; exact hm) (by rw [h.g]; exact hi)
  rw [h.g] at r1 r2 r3
  rw [h.pgI] at r2
  obtain ⟨q1, q2, q3⟩ := rdC_same C' (plB C.g i) (plK C.g i)
  exact ⟨r1, r2, q1.trans h.g, q2.trans h.fs, q3.trans h.bs, r3⟩
theorem rd_ov {α : Type} (f : α → Nat → Nat → Tg → Int → α) (a : α) {C : Chip} (h : Calm C) (hm : mayG C.g = true) : (ovN f C a (nP C.g)).2 = (foldT C.g f (badF C.fs) (seeI C) a (nP C.g), 0) ∧ Rd C (ovN f C a (nP C.g)).1 := by
  obtain ⟨e, hc⟩ := calm_ov f h hm a (nP C.g) (Nat.le_refl _)
  obtain ⟨g1, g2, g3⟩ := ovN_same f C a (nP C.g)
  exact ⟨e, g1, g2, g3, hc⟩
theorem Rd.idx {C C' : Chip} (h : Rd C C') (n : Nat) : idx C' n = idx C n ∧ ∀ i, fdI C' i = fdI C i := by
  have h1 : ∀ i, okI C' i = okI C i := fun i => by unfold okI; rw [h.fs, h.g, h.pgI]
  refine ⟨?_, fun i => by unfold fdI; rw [h.g, h.pgI]⟩
  unfold Go.Proofs.Ytjffimbigamadaa.idx
  congr 1
  funext i
  exact h1 i

end Go.Proofs.Ytjffimbigamadaa
