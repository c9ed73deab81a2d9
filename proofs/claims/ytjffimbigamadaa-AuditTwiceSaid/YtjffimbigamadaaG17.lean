import Derived.Test.YtjffimbigamadaaG16
set_option linter.unusedSimpArgs false
set_option linter.unusedVariables false
set_option linter.unusedSectionVars false
/- A chip without faults, with a cut that may wait. -/
namespace Go.Proofs.Ytjffimbigamadaa
open Go.AM

structure Sx (C : Chip) (g : Geo) (o t b : Nat) (f : BitVec 8) (c : Nat) : Prop where
  g : C.g = g
  fs : C.fs = []
  off : C.off = false
  turn : C.turn = (t : Int)
  ops : C.ops = (o : Int)
  by' : C.cby = (b : Int)
  cf : C.cf = f
  cuts : C.cuts = (c : Int)
structure Sf (C : Chip) (g : Geo) (o b : Nat) (f : BitVec 8) (c : Nat) : Prop where
  g : C.g = g
  fs : C.fs = []
  off : C.off = true
  ops : C.ops = (o : Int)
  by' : C.cby = (b : Int)
  cf : C.cf = f
  cuts : C.cuts = (c : Int)
def BlkIs (C : Chip) (i : Nat) (l : List (BitVec 8)) (nx wr : Int) : Prop := ∃ B, C.bs[i]? = some B ∧ B.by' = l ∧ B.next = nx ∧ B.wear = wr

section
variable {C : Chip} {g : Geo} {o t b c : Nat} {f : BitVec 8}

theorem inc1 {o : Nat} (h : o ≤ 1000000) : iAdd .i64 (o : Int) 1 = ((o + 1 : Nat) : Int) := iInc (by omega)

theorem Sx.bgn_eq (h : Sx C g o t b f c) (ho : o ≤ 1000000) : bgn C = (decide (t ≠ 0) && decide (o + 1 = t)) := by
  unfold bgn
  rw [h.turn, h.ops, inc1 ho]
  have h1 : (((t : Nat) : Int) == 0) = decide (t = 0) := by
    rw [Bool.eq_iff_iff, beq_iff_eq, decide_eq_true_eq]; omega
  have h2 : (((o + 1 : Nat) : Int) != (t : Int)) = decide (o + 1 ≠ t) := by
    rw [Bool.eq_iff_iff, bne_iff_ne, decide_eq_true_eq]; omega
  rw [h1, h2]
  simp

/-- An operation that is not the cut's. -/
theorem Sx.go (h : Sx C g o t b f c) (ho : o ≤ 1000000) (hn : t = 0 ∨ o + 1 ≠ t) : bgn C = false ∧ Sx (bgC C) g (o + 1) t b f c ∧ (bgC C).bs = C.bs := by
  have h1 : bgn C = false := by
    rw [h.bgn_eq ho]
    rcases hn with h | h
    · simp [h]
    · simp [h]
  have h2 : bgC C = { C with ops := ((o + 1 : Nat) : Int) } := by
    unfold bgC; rw [h1, h.ops, inc1 ho]; rfl
  rw [h2]
  exact ⟨h1, ⟨h.g, h.fs, h.off, h.turn, rfl, h.by', h.cf, h.cuts⟩, rfl⟩

/-- The cut's. -/
theorem Sx.cut (h : Sx C g o t b f c) (ho : o ≤ 1000000) (hc : c ≤ 1000000) (hn : t = o + 1) : bgn C = true ∧ Sf (bgC C) g (o + 1) b f (c + 1) ∧ (bgC C).bs = C.bs := by
  have h1 : bgn C = true := by
    rw [h.bgn_eq ho, hn]; simp
  have h2 : bgC C = { C with ops := ((o + 1 : Nat) : Int), turn := 0, off := true, cuts := ((c + 1 : Nat) : Int) } := by
    unfold bgC; rw [if_pos h1, h.ops, inc1 ho, h.cuts, inc1 hc]
  rw [h2]
  exact ⟨h1, ⟨h.g, h.fs, rfl, rfl, h.by', h.cf, rfl⟩, rfl⟩

theorem Sx.askd (h : Sx C g o t b f c) {i : Int} {k : Int} : Go.Proofs.Ytjffimbigamadaa.askd C i k = if isG g i k = true then 0 else 2 := by
  unfold Go.Proofs.Ytjffimbigamadaa.askd
  rw [h.off, h.g]; rfl
theorem Sf.askd (h : Sf C g o b f c) {i : Int} {k : Int} : Go.Proofs.Ytjffimbigamadaa.askd C i k = 9 := by
  unfold Go.Proofs.Ytjffimbigamadaa.askd
  rw [h.off]; rfl

theorem blk_up {C : Chip} {i : Nat} (hi : i < C.bs.length) (B : Blk) : BlkIs (C.upB i B) i B.by' B.next B.wear := ⟨B, by
  show (C.bs.set i B)[i]? = _
  rw [List.getElem?_set_self hi], rfl, rfl, rfl⟩
theorem blk_other {C : Chip} {i k : Nat} (hk : k ≠ i) (B : Blk) {l : List (BitVec 8)} {nx wr : Int} (h : BlkIs C k l nx wr) : BlkIs (C.upB i B) k l nx wr := by
  obtain ⟨B', h1, h2⟩ := h
  refine ⟨B', ?_, h2⟩
  show (C.bs.set i B)[k]? = _
  rw [List.getElem?_set_ne (fun e => hk e.symm)]; exact h1
theorem blk_bs {C C' : Chip} (e : C'.bs = C.bs) {k : Nat} {l : List (BitVec 8)} {nx wr : Int} (h : BlkIs C k l nx wr) : BlkIs C' k l nx wr := by
  unfold BlkIs at *; rw [e]; exact h

/-- A program that goes well. -/
theorem Sx.prog (h : Sx C g o t b f c) (ho : o ≤ 1000000) (hn : t = 0 ∨ o + 1 ≠ t) {i j : Nat} {l : List (BitVec 8)} {wr : Int} (hb : BlkIs C i l j wr) (hp : isG g i j = true) {d : List (BitVec 8)} (hd : d.length = rawN g) :
    (pgR C i j d).2 = 0 ∧ Sx (pgR C i j d).1 g (o + 1) t b f c ∧ BlkIs (pgR C i j d).1 i (over l (j * rawN g) d) (iAdd .i64 (j : Int) 1) wr ∧ ∀ k l' nx wr', k ≠ i → BlkIs C k l' nx wr' → BlkIs (pgR C i j d).1 k l' nx wr' := by
  obtain ⟨h1, h2, h3⟩ := h.go ho hn
  obtain ⟨B, hB, hl, hnx, hwr⟩ := blk_bs h3 hb
  have hlt : i < (bgC C).bs.length := (List.getElem?_eq_some_iff.1 hB).1
  have e : pgR C i j d = ((bgC C).upB i { B with by' := over B.by' (j * rawN g) d, next := iAdd .i64 B.next 1, done := iAdd .i64 B.done 1 }, 0) := by
    unfold pgR
    rw [h.askd, if_pos hp, if_pos rfl, h.g, if_pos hd, h1]
    unfold pgS
    rw [Int.toNat_natCast, Int.toNat_natCast, hB]
    simp only [h2.fs, failsF_nil, hnx, h2.g]
    simp
  rw [e]
  refine ⟨rfl, ⟨h2.g, h2.fs, h2.off, h2.turn, h2.ops, h2.by', h2.cf, h2.cuts⟩, ?_, fun k l' nx wr' hk hb' => blk_other hk _ (blk_bs h3 hb')⟩
  subst hl hwr
  rw [← hnx]
  exact blk_up hlt { B with by' := over B.by' (j * rawN g) d, next := iAdd .i64 B.next 1, done := iAdd .i64 B.done 1 }

/-- A page is read. -/
theorem Sx.rd (h : Sx C g o t b f c) (ho : o ≤ 1000000) (hn : t = 0 ∨ o + 1 ≠ t) {i j : Nat} {l : List (BitVec 8)} {nx wr : Int} (hb : BlkIs C i l nx wr) (hp : isG g i j = true) :
    rdE C i j = 0 ∧ rdB C i j = (l.drop (j * rawN g)).take (rawN g) ∧ Sx (rdC C i j) g (o + 1) t b f c ∧ (rdC C i j).bs = C.bs := by
  obtain ⟨h1, h2, h3⟩ := h.go ho hn
  obtain ⟨B, hB, hl, hnx, hwr⟩ := hb
  have e : rdE C i j = 0 := by
    unfold rdE
    rw [h.askd, if_pos hp, if_pos rfl, h1]; rfl
  have e2 : rdC C i j = bgC C := by
    unfold rdC
    rw [h.askd, if_pos hp, if_pos rfl]
  refine ⟨e, ?_, by rw [e2]; exact h2, by rw [e2]; exact h3⟩
  unfold rdB pageB
  rw [if_pos e, Int.toNat_natCast, Int.toNat_natCast, hB]
  simp only [hl, h.g]

theorem Sf.rd (h : Sf C g o b f c) (i k : Int) : rdE C i k = 9 ∧ rdB C i k = [] ∧ rdC C i k = C := by
  have e : rdE C i k = 9 := by unfold rdE; rw [h.askd, if_neg (by decide)]
  refine ⟨e, ?_, ?_⟩
  · unfold rdB; rw [e, if_neg (by decide)]
  · unfold rdC; rw [h.askd, if_neg (by decide)]
end
theorem Here.keepS {M N : Mem} {p F G : Nat} {C : Chip} {S : List Nat} (h : Here M p F G C) (k : Keep M N S) (hs : ∀ b ∈ S, (b < F ∨ G ≤ b) ∧ ¬ inBlk C.fsA b) : Here N p F G C :=
  ⟨h.at'.keepS h.wf k fun b hb => ⟨h.notin (hs b hb).1, (hs b hb).2⟩, k.wf, h.rng, Nat.le_trans h.nxt k.nxt⟩

end Go.Proofs.Ytjffimbigamadaa
