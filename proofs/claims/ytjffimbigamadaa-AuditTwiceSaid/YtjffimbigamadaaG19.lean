import Derived.Test.YtjffimbigamadaaG18
set_option linter.unusedSimpArgs false
set_option linter.unusedVariables false
set_option linter.unusedSectionVars false
/- A chip with one fault that comes later: blocks that it has not, and the one that it has. -/
namespace Go.Proofs.Ytjffimbigamadaa
open Go.AM

/-- Powered, no cut waits, one fault on block i. -/
structure Fx (C : Chip) (g : Geo) (i a : Nat) : Prop where
  g : C.g = g
  fs : C.fs = [⟨(i : Int), false, (a : Int)⟩]
  off : C.off = false
  turn : C.turn = 0
/-- What is known of a block: what it did, too. -/
def BlkD (C : Chip) (i : Nat) (l : List (BitVec 8)) (nx wr : Int) (dn : Nat) : Prop := ∃ B, C.bs[i]? = some B ∧ B.by' = l ∧ B.next = nx ∧ B.wear = wr ∧ B.done = (dn : Int)

section
variable {C : Chip} {g : Geo} {i a : Nat} {l : List (BitVec 8)} {nx wr : Int} {dn : Nat}

theorem Fx.bg (h : Fx C g i a) : bgn C = false ∧ Fx (bgC C) g i a ∧ (bgC C).bs = C.bs := by
  have h1 : bgn C = false := by unfold bgn; rw [h.turn]; rfl
  have h2 : bgC C = { C with ops := iAdd .i64 C.ops 1 } := by unfold bgC; rw [h1]; rfl
  rw [h2]
  exact ⟨h1, ⟨h.g, h.fs, h.off, h.turn⟩, rfl⟩

theorem Fx.askd (h : Fx C g i a) {b k : Int} : Go.Proofs.Ytjffimbigamadaa.askd C b k = if isG g b k = true then 0 else 2 := by
  unfold Go.Proofs.Ytjffimbigamadaa.askd
  rw [h.off, h.g]; rfl

theorem Fx.fails (h : Fx C g i a) (dn : Nat) : failsF C.fs (i : Int) dn = decide (a ≤ dn) := by
  rw [h.fs]
  unfold failsF findF
  simp only [List.find?, beq_self_eq_true]
  rw [decide_eq_decide]; omega
theorem Fx.bad (h : Fx C g i a) (b : Int) : badF C.fs b = false := by
  rw [h.fs]
  unfold badF findF
  simp only [List.find?]
  cases hb : (((i : Nat) : Int) == b) <;> simp

theorem Fx.failed (h : Fx C g i a) (hb : BlkD C i l nx wr dn) : Go.Proofs.Ytjffimbigamadaa.failed C (i : Int) = decide (a ≤ dn) := by
  obtain ⟨B, hB, _, _, _, hd⟩ := hb
  unfold Go.Proofs.Ytjffimbigamadaa.failed
  rw [Int.toNat_natCast, hB, decide_eq_true (by omega), Bool.true_and]
  simp only [hd, h.fails]

theorem blkD_bs {C C' : Chip} (e : C'.bs = C.bs) {k : Nat} {l : List (BitVec 8)} {nx wr : Int} {dn : Nat} (h : BlkD C k l nx wr dn) : BlkD C' k l nx wr dn := by
  unfold BlkD at *; rw [e]; exact h
theorem blkD_up {C : Chip} {i : Nat} (hi : i < C.bs.length) (B : Blk) {dn : Nat} (hd : B.done = (dn : Int)) : BlkD (C.upB i B) i B.by' B.next B.wear dn := ⟨B, by
  show (C.bs.set i B)[i]? = _
  rw [List.getElem?_set_self hi], rfl, rfl, rfl, hd⟩

/-- A program that goes well. -/
theorem Fx.prog (h : Fx C g i a) {j : Nat} (hb : BlkD C i l j wr dn) (hd1 : dn < a) (hd2 : dn ≤ 1000000) (hp : isG g i j = true) {d : List (BitVec 8)} (hd : d.length = rawN g) :
    (pgR C i j d).2 = 0 ∧ Fx (pgR C i j d).1 g i a ∧ BlkD (pgR C i j d).1 i (over l (j * rawN g) d) (iAdd .i64 (j : Int) 1) wr (dn + 1) := by
  obtain ⟨h1, h2, h3⟩ := h.bg
  obtain ⟨B, hB, hl, hnx, hwr, hdn⟩ := blkD_bs h3 hb
  have hlt : i < (bgC C).bs.length := (List.getElem?_eq_some_iff.1 hB).1
  have e : pgR C i j d = ((bgC C).upB i { B with by' := over B.by' (j * rawN g) d, next := iAdd .i64 B.next 1, done := iAdd .i64 B.done 1 }, 0) := by
    unfold pgR
    rw [h.askd, if_pos hp, if_pos rfl, h.g, if_pos hd, h1]
    unfold pgS
    rw [Int.toNat_natCast, Int.toNat_natCast, hB]
    simp only [hdn, h2.fails, hnx, h2.g]
    rw [if_neg (by simp; omega)]
    simp
  rw [e]
  refine ⟨rfl, ⟨h2.g, h2.fs, h2.off, h2.turn⟩, ?_⟩
  subst hl hwr
  rw [← hnx]
  exact blkD_up hlt { B with by' := over B.by' (j * rawN g) d, next := iAdd .i64 B.next 1, done := iAdd .i64 B.done 1 } (by show iAdd .i64 B.done 1 = _; rw [hdn]; exact inc1 hd2)

/-- A page is read. -/
theorem Fx.rd (h : Fx C g i a) (hb : BlkD C i l nx wr dn) {j : Nat} (hp : isG g i j = true) :
    rdE C i j = 0 ∧ rdB C i j = (l.drop (j * rawN g)).take (rawN g) ∧ Fx (rdC C i j) g i a ∧ BlkD (rdC C i j) i l nx wr dn := by
  obtain ⟨h1, h2, h3⟩ := h.bg
  have e : rdE C i j = 0 := by
    unfold rdE
    rw [h.askd, if_pos hp, if_pos rfl, h1]; rfl
  have e2 : rdC C i j = bgC C := by
    unfold rdC
    rw [h.askd, if_pos hp, if_pos rfl]
  refine ⟨e, ?_, by rw [e2]; exact h2, by rw [e2]; exact blkD_bs h3 hb⟩
  obtain ⟨B, hB, hl, _⟩ := hb
  unfold rdB pageB
  rw [if_pos e, Int.toNat_natCast, Int.toNat_natCast, hB]
  simp only [hl, h.g]

theorem Fx.used (h : Fx C g i a) (hb : BlkD C i l nx wr dn) : usedOf C i = nx ∧ wearOf C i = wr := by
  obtain ⟨B, hB, hl, hn, hwr, _⟩ := hb
  unfold usedOf wearOf
  rw [if_pos (by omega), if_pos (by omega), Int.toNat_natCast, hB]
  exact ⟨hn, hwr⟩

end
end Go.Proofs.Ytjffimbigamadaa
