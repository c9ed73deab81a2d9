import Derived.Test.YtjffimbigamadaaB3
import Derived.Test.YtjffimbigamadaaG20
set_option linter.unusedSimpArgs false
set_option linter.unusedVariables false
set_option linter.unusedSectionVars false
/- Acts; what acts on other blocks leave. -/
namespace Go.Proofs.Ytjffimbigamadaa
open Go.AM
open Go.ChangeShapes Go.WideShapes Go.RowKit

structure Act where
  do' : Int
  b : Int
  k : Int
  n : BitVec 8
  len : Int
  op : Int
  by' : Int
  f : BitVec 8
def actC (a : Act) : List AV := [i64 a.do', i64 a.b, i64 a.k, bv8 a.n, i64 a.len, i64 a.op, i64 a.by', bv8 a.f]
theorem actC_len (a : Act) : (actC a).length = 8 := rfl
def ActsAt (M : Mem) (x : AV) (xs : List Act) : Prop := SlAt 8 M x xs.length (xs.flatMap actC)
theorem ty47 : tb.ty.get 47 = some ⟨.sli 49, 1, 24, [.slice none 0 0], none⟩ := by kernel_rfl
theorem ty49k : (tb.ty.get 49).map (fun t => (t.size, t.isAgg)) = some (8, true) := by kernel_rfl

/-- A block that others leave alone. -/
structure Wx (C : Chip) (g : Geo) (i : Nat) (l : List (BitVec 8)) (nx wr : Int) (o : Nat) : Prop where
  g : C.g = g
  fs : C.fs = []
  blk : BlkIs C i l nx wr
  o0 : 0 ≤ C.ops
  o1 : C.ops ≤ (o : Int)

section
variable {C : Chip} {g : Geo} {i : Nat} {l : List (BitVec 8)} {nx wr : Int} {o : Nat}

theorem Wx.mono {o' : Nat} (h : Wx C g i l nx wr o) (ho : o ≤ o') : Wx C g i l nx wr o' := ⟨h.g, h.fs, h.blk, h.o0, by have := h.o1; omega⟩
theorem Wx.bg (h : Wx C g i l nx wr o) (ho : o ≤ 1000000) : Wx (bgC C) g i l nx wr (o + 1) ∧ (bgC C).bs = C.bs := by
  have h0 := h.o0
  have h1 := h.o1
  have e : iAdd .i64 C.ops 1 = C.ops + 1 := by rw [iAdd, wrap_i64' (by omega) (by omega)]
  unfold bgC
  split
  · exact ⟨⟨h.g, h.fs, h.blk, by show 0 ≤ iAdd .i64 C.ops 1; rw [e]; omega, by show iAdd .i64 C.ops 1 ≤ _; rw [e]; omega⟩, rfl⟩
  · exact ⟨⟨h.g, h.fs, h.blk, by show 0 ≤ iAdd .i64 C.ops 1; rw [e]; omega, by show iAdd .i64 C.ops 1 ≤ _; rw [e]; omega⟩, rfl⟩
theorem Wx.up (h : Wx C g i l nx wr o) {k : Nat} (hk : i ≠ k) (B : Blk) : Wx (C.upB k B) g i l nx wr o := ⟨h.g, h.fs, blk_other hk B h.blk, h.o0, h.o1⟩

theorem askd_nn {C : Chip} {b k : Int} (h : askd C b k = 0) : 0 ≤ b := (isG_iff.1 (askd_zero h).2).1.1

theorem Wx.pg (h : Wx C g i l nx wr o) (ho : o ≤ 1000000) {b : Int} (hb : b ≠ (i : Int)) (k : Int) (d : List (BitVec 8)) : Wx (pgR C b k d).1 g i l nx wr (o + 1) := by
  obtain ⟨h1, _⟩ := h.bg ho
  unfold pgR
  split
  · rename_i ha
    have hn := askd_nn ha
    have hbi : i ≠ b.toNat := by omega
    split
    · unfold pgS
      split
      · exact h1
      · split
        · exact h1
        · split
          · exact h1
          · split
            · exact h1.up hbi _
            · exact h1.up hbi _
    · exact h.mono (by omega)
  · exact h.mono (by omega)

end

/-- Powered; a cut that waits far off. -/
structure Rx (C : Chip) (g : Geo) (i : Nat) (l : List (BitVec 8)) (nx wr : Int) (o t : Nat) : Prop where
  g : C.g = g
  fs : C.fs = []
  off : C.off = false
  blk : BlkIs C i l nx wr
  ops : C.ops = (o : Int)
  turn : C.turn = (t : Int)

theorem Rx.rd {C : Chip} {g : Geo} {i : Nat} {l : List (BitVec 8)} {nx wr : Int} {o t : Nat} (h : Rx C g i l nx wr o t) (ho : o ≤ 1000000) (hn : o + 1 ≠ t) {j : Nat} (hp : isG g i j = true) :
    rdE C i j = 0 ∧ rdB C i j = (l.drop (j * rawN g)).take (rawN g) ∧ Rx (rdC C i j) g i l nx wr (o + 1) t := by
  have h1 : bgn C = false := by
    unfold bgn
    rw [h.turn, h.ops, inc1 ho]
    have h2 : (((o + 1 : Nat) : Int) != (t : Int)) = true := by rw [bne_iff_ne]; omega
    rw [h2]; simp
  have h2 : bgC C = { C with ops := ((o + 1 : Nat) : Int) } := by unfold bgC; rw [h1, h.ops, inc1 ho]; rfl
  have hask : askd C i j = 0 := by
    unfold askd
    rw [h.off, h.g, hp]; rfl
  have e : rdE C i j = 0 := by
    unfold rdE
    rw [hask, if_pos rfl, h1]; rfl
  refine ⟨e, ?_, ?_⟩
  · obtain ⟨B, hB, hl, _⟩ := h.blk
    unfold rdB pageB
    rw [if_pos e, Int.toNat_natCast, Int.toNat_natCast, hB]
    simp only [hl, h.g]
  · unfold rdC
    rw [hask, if_pos rfl, h2]
    exact ⟨h.g, h.fs, h.off, h.blk, rfl, h.turn⟩

theorem ActsAt.len {M M' : Mem} {x : AV} {xs : List Act} (h : ActsAt M x xs) : evLenCap tb false 47 x M' = some xs.length := SlAt.len h ty47 rfl

theorem ty49 : ∃ ti, tb.ty.get 49 = some ti ∧ ti.size = 8 ∧ ti.isAgg = true := by
  have := ty49k
  cases h : tb.ty.get 49 with
  | none => rw [h] at this; cases this
  | some ti =>
    rw [h] at this
    simp only [Option.map_some, Option.some.injEq, Prod.mk.injEq] at this
    exact ⟨ti, rfl, this.1, this.2⟩

theorem ActsAt.at {M : Mem} {x : AV} {xs : List Act} (h : ActsAt M x xs) {i : Nat} (hi : i < xs.length) :
    ∃ b o, evIndexAddr tb 47 x (.val (.int .i64 (i : Int))) = some (.ptr b o) ∧ evLoad tb 49 (.ptr b o) M = some (.agg (actC xs[i])) := by
  obtain ⟨ti, h1, h2, h3⟩ := ty49
  obtain ⟨b, o, g1, g2⟩ := SlAt.ldAgg h ty47 rfl h1 h2 h3 hi (k' := .i64)
  rw [flat_at actC_len hi] at g2
  exact ⟨b, o, g1, g2⟩

end Go.Proofs.Ytjffimbigamadaa
