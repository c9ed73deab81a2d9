import Derived.Test.YtjffimbigamadaaG12
set_option linter.unusedSimpArgs false
set_option linter.unusedVariables false
set_option linter.unusedSectionVars false
/- A chip without faults, powered: one block of it. -/
namespace Go.Proofs.Ytjffimbigamadaa
open Go.AM

theorem mayP_nil (g : Geo) : mayP g [] = mayG g := by unfold mayP; simp

/-- What is known of a block of a chip that has no faults. -/
structure Ok (C : Chip) (g : Geo) (i : Nat) (l : List (BitVec 8)) (nx wr : Int) : Prop where
  g : C.g = g
  fs : C.fs = []
  off : C.off = false
  turn : C.turn = 0
  blk : ∃ B, C.bs[i]? = some B ∧ B.by' = l ∧ B.next = nx ∧ B.wear = wr

section
variable {C : Chip} {g : Geo} {i : Nat} {l : List (BitVec 8)} {nx wr : Int}

theorem Ok.bg (h : Ok C g i l nx wr) : bgn C = false ∧ bgC C = { C with ops := iAdd .i64 C.ops 1 } ∧ Ok (bgC C) g i l nx wr := by
  have h1 : bgn C = false := by unfold bgn; rw [h.turn]; rfl
  have h2 : bgC C = { C with ops := iAdd .i64 C.ops 1 } := by unfold bgC; rw [h1]; rfl
  refine ⟨h1, h2, ?_⟩
  rw [h2]
  exact ⟨h.g, h.fs, h.off, h.turn, h.blk⟩

theorem Ok.askd (h : Ok C g i l nx wr) {k : Int} : askd C i k = if isG g i k = true then 0 else 2 := by
  unfold Go.Proofs.Ytjffimbigamadaa.askd
  rw [h.off, h.g]; rfl

theorem failsF_nil (b d : Int) : failsF [] b d = false := rfl

/-- A page is programmed. -/
theorem Ok.pg (h : Ok C g i l nx wr) {j : Nat} (hj : nx = (j : Int)) (hp : isG g i j = true) {d : List (BitVec 8)} (hd : d.length = rawN g) :
    (pgR C i j d).2 = 0 ∧ Ok (pgR C i j d).1 g i (over l (j * rawN g) d) (iAdd .i64 (j : Int) 1) wr := by
  obtain ⟨h1, h2, h3⟩ := h.bg
  obtain ⟨B, hB, hl, hn, hwr⟩ := h3.blk
  have hlt : i < (bgC C).bs.length := (List.getElem?_eq_some_iff.1 hB).1
  have e : pgR C i j d = ((bgC C).upB i { B with by' := over B.by' (j * rawN (bgC C).g) d, next := iAdd .i64 B.next 1, done := iAdd .i64 B.done 1 }, 0) := by
    unfold pgR
    rw [h.askd, if_pos hp, if_pos rfl, h.g, if_pos hd, h1]
    unfold pgS
    rw [Int.toNat_natCast, Int.toNat_natCast, hB]
    simp only [h3.fs, failsF_nil, hn, hj]
    simp
  rw [e]
  refine ⟨rfl, ⟨h3.g, h3.fs, h3.off, h3.turn, ⟨{ B with by' := over B.by' (j * rawN (bgC C).g) d, next := iAdd .i64 B.next 1, done := iAdd .i64 B.done 1 }, by
    show ((bgC C).bs.set i _)[i]? = _
    rw [List.getElem?_set_self hlt], ?_, ?_, hwr⟩⟩⟩
  · simp only [hl, h3.g]
  · simp only [hn, hj]

/-- A page is read. -/
theorem Ok.rd (h : Ok C g i l nx wr) {j : Nat} (hp : isG g i j = true) : rdE C i j = 0 ∧ rdB C i j = (l.drop (j * rawN g)).take (rawN g) ∧ Ok (rdC C i j) g i l nx wr := by
  obtain ⟨h1, h2, h3⟩ := h.bg
  obtain ⟨B, hB, hl, hn, hwr⟩ := h.blk
  have e : rdE C i j = 0 := by
    unfold rdE
    rw [h.askd, if_pos hp, if_pos rfl, h1]; rfl
  refine ⟨e, ?_, ?_⟩
  · unfold rdB pageB
    rw [if_pos e, Int.toNat_natCast, Int.toNat_natCast, hB]
    simp only [hl, h.g]
  · unfold rdC
    rw [h.askd, if_pos hp, if_pos rfl]
    exact h3

theorem Ok.used (h : Ok C g i l nx wr) : usedOf C i = nx ∧ wearOf C i = wr := by
  obtain ⟨B, hB, hl, hn, hwr⟩ := h.blk
  unfold usedOf wearOf
  rw [if_pos (by omega), if_pos (by omega), Int.toNat_natCast, hB]
  exact ⟨hn, hwr⟩
end

/-! ## Where a chip lies -/

structure Here (M : Mem) (p F G : Nat) (C : Chip) : Prop where
  at' : ChipAt M p C
  wf : M.WF
  rng : ∀ c ∈ foot p C, F ≤ c ∧ c < G
  nxt : G ≤ M.next

theorem Here.step {M N : Mem} {p F G : Nat} {C C' : Chip} (h : Here M p F G C) (s : Step M N p C C') : Here N p F G C' :=
  ⟨s.at', s.wf, by rw [s.foot]; exact h.rng, Nat.le_trans h.nxt s.keep.nxt⟩
theorem Here.keep {M N : Mem} {p F G : Nat} {C : Chip} (h : Here M p F G C) (k : Keep M N []) : Here N p F G C :=
  h.step (Step.of0 h.wf h.at' k)
theorem Here.notin {M : Mem} {p F G c : Nat} {C : Chip} (h : Here M p F G C) (hc : c < F ∨ G ≤ c) : c ∉ foot p C := fun hm => by
  have := h.rng c hm; omega
theorem Here.get {M N : Mem} {p F G c : Nat} {C C' : Chip} {r : Row} (h : Here M p F G C) (s : Step M N p C C') (hc : c < F ∨ G ≤ c) (hg : M.get c = some r) : N.get c = some r := step_get s h.wf hg (h.notin hc)
/-- Bytes that lie elsewhere stay. -/
theorem Here.bytes {M N : Mem} {p F G : Nat} {C C' : Chip} {x : AV} {l : List (BitVec 8)} (h : Here M p F G C) (s : Step M N p C C') (hx : BytesAt M x l) (hc : ∀ c, inBlk x c → c < F ∨ G ≤ c) : BytesAt N x l :=
  SlAt.mono hx fun c r hin hr => h.get s (hc c hin) hr

/-! ## Pages of a block's bytes -/

theorem over_page {l d : List (BitVec 8)} {r j k n : Nat} (hl : l.length = n * r) (hd : d.length = r) (hj : j < n) (hk : k < n) :
    ((over l (j * r) d).drop (k * r)).take r = if k = j then d else (l.drop (k * r)).take r := by
  have hjr : (j + 1) * r ≤ n * r := Nat.mul_le_mul_right _ hj
  have hkr : (k + 1) * r ≤ n * r := Nat.mul_le_mul_right _ hk
  rw [Nat.add_mul, Nat.one_mul] at hjr hkr
  apply List.ext_getElem?
  intro q
  rw [List.getElem?_take, List.getElem?_drop]
  have hov : ∀ t, (over l (j * r) d)[t]? = if t < j * r then l[t]? else if t < j * r + r then d[t - j * r]? else l[t]? := by
    intro t
    unfold over
    by_cases h1 : t < j * r
    · rw [if_pos h1, List.append_assoc, List.getElem?_append_left (by rw [List.length_take]; omega), List.getElem?_take, if_pos h1]
    · rw [if_neg h1]
      have hlt : (l.take (j * r)).length = j * r := by rw [List.length_take]; omega
      rw [List.append_assoc, List.getElem?_append_right (by omega), hlt]
      by_cases h2 : t < j * r + r
      · rw [if_pos h2, List.getElem?_append_left (by omega)]
      · rw [if_neg h2, List.getElem?_append_right (by omega), List.getElem?_drop, hd]
        congr 1; omega
  rw [hov]
  by_cases hq : q < r
  · rw [if_pos hq]
    by_cases hkj : k = j
    · subst hkj
      rw [if_pos rfl, if_neg (by omega), if_pos (by omega)]
      congr 1; omega
    · rw [if_neg hkj, List.getElem?_take, if_pos hq, List.getElem?_drop]
      rcases Nat.lt_or_gt_of_ne hkj with h1 | h1
      · have h2 : (k + 1) * r ≤ j * r := Nat.mul_le_mul_right _ h1
        rw [Nat.add_mul, Nat.one_mul] at h2
        rw [if_pos (by omega)]
      · have h2 : (j + 1) * r ≤ k * r := Nat.mul_le_mul_right _ h1
        rw [Nat.add_mul, Nat.one_mul] at h2
        rw [if_neg (by omega), if_neg (by omega)]
  · rw [if_neg hq]
    split
    · rw [List.getElem?_eq_none (by omega)]
    · rw [List.getElem?_take, if_neg hq]

theorem rep_page {v : BitVec 8} {r k n : Nat} (hk : k < n) : ((List.replicate (n * r) v).drop (k * r)).take r = List.replicate r v := by
  have hkr : (k + 1) * r ≤ n * r := Nat.mul_le_mul_right _ hk
  rw [Nat.add_mul, Nat.one_mul] at hkr
  rw [List.drop_replicate, List.take_replicate, Nat.min_eq_left (by omega)]

end Go.Proofs.Ytjffimbigamadaa
