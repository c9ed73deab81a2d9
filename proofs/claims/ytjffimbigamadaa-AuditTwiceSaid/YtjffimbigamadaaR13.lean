import Derived.Test.YtjffimbigamadaaG12
import Derived.Test.YtjffimbigamadaaG17
import Derived.Test.YtjffimbigamadaaR9
set_option linter.unusedSimpArgs false
set_option linter.unusedVariables false
set_option linter.unusedSectionVars false
/- The document's chip: New. -/
namespace Go.Proofs.Ytjffimbigamadaa
open Go.AM
def pgsA (R : Nat) (bl : List Nat) : List AV := bl.map fun b => .sl b 0 R R none
/-- A document's chip on the way: so many pages. -/
structure BldD (M1 M : Mem) (p : Nat) (D : AV → Doc) (R : Nat) (bl : List Nat) (x : AV) : Prop where
  wf : M.WF
  nxt : M1.next ≤ M.next
  old : ∀ c, c < M1.next → c ≠ p → M.get c = M1.get c
  main : M.get p = some (.cells (docC (D x)) true)
  sl : (x = .val (.slice none 0 0) ∧ bl = []) ∨ ∃ bb, Grown 1 M x bl.length (pgsA R bl) bb ∧ M1.next ≤ bb ∧ ∀ b ∈ bl, b ≠ bb
  dat : ∀ b ∈ bl, M.get b = some (.cells (bvs (List.replicate R 255#8)) true) ∧ M1.next ≤ b

theorem BldD.keep {M1 M N : Mem} {p : Nat} {D : AV → Doc} {R : Nat} {x : AV} {bl : List Nat} (h : BldD M1 M p D R bl x) (hk : Keep M N []) : BldD M1 N p D R bl x :=
  ⟨hk.wf, Nat.le_trans h.nxt hk.nxt, fun c hc hp => by rw [hk.old c (Nat.lt_of_lt_of_le hc h.nxt) (by simp)]; exact h.old c hc hp, hk.get h.wf h.main (by simp),
    h.sl.imp id fun ⟨bb, ⟨g1, g2, g3, g4⟩, h2⟩ => ⟨bb, ⟨g1, g2, g3, hk.get h.wf g4 (by simp)⟩, h2⟩, fun B hB => ⟨hk.get h.wf (h.dat B hB).1 (by simp), (h.dat B hB).2⟩⟩

/-- What New makes. -/
structure NewDoc (g : Geo) (fs : List Flt) (S : DocS) : Prop where
  geo : S.d.g = g
  fs : S.fs = fs
  ops : S.d.ops = 0
  cuts : S.d.cuts = 0
  off : S.d.off = false
  wait : S.d.wait = 0
  nx : S.nx = List.replicate g.bl.toNat 0
  wr : S.wr = List.replicate g.bl.toNat 0
  dn : S.dn = List.replicate g.bl.toNat 0
  pg : ∀ q ∈ S.pg, q.2 = List.replicate (rawN g) 255#8

end Go.Proofs.Ytjffimbigamadaa

/- The document's chip: Program. -/
namespace Go.Proofs.Ytjffimbigamadaa
open Go.AM
end Go.Proofs.Ytjffimbigamadaa

/- The document's chip, without addresses; Erase. -/
namespace Go.Proofs.Ytjffimbigamadaa
open Go.AM

/-- The document's chip, without addresses. -/
structure Vw where
  g : Geo
  fs : List Flt
  pg : List (List (BitVec 8))
  nx : List Int
  wr : List Int
  dn : List Int
  ops : Int
  cuts : Int
  off : Bool
  wait : Int
  cby : Int
  cf : BitVec 8
/-- What an operation of the document's chip leaves. -/
structure DStep (M N : Mem) (p : Nat) (S S' : DocS) : Prop where
  at' : DocAt N p S'
  keep : Keep M N (own p S)
  own : own p S' = own p S
  fsA : S'.d.fsA = S.d.fsA
  pgs : ∀ q ∈ S'.pg, q ∈ S.pg ∨ ∀ c, inBlk q.1 c → M.next ≤ c

end Go.Proofs.Ytjffimbigamadaa

/- The chip and the document's: alike. -/
namespace Go.Proofs.Ytjffimbigamadaa
open Go.AM

/-- Both stand the same; at most so many operations. -/
structure Alike (n : Nat) (C : Chip) (V : Vw) : Prop where
  g : V.g = C.g
  fs : V.fs = C.fs
  ap : Apart C.fs
  off : V.off = C.off
  ops : V.ops = C.ops
  cuts : V.cuts = C.cuts
  o0 : 0 ≤ C.ops
  o1 : C.ops ≤ (n : Int)
  nx : V.nx = C.bs.map (·.next)
  wr : V.wr = C.bs.map (·.wear)
  dn : V.dn = C.bs.map (·.done)
  len : C.bs.length = C.g.bl.toNat
  pgl : V.pg.length = C.g.bl.toNat * C.g.pg.toNat
  ful : ∀ B ∈ C.bs, B.by'.length = C.g.pg.toNat * rawN C.g
  pg : ∀ (i j : Nat) (h : i < C.bs.length), j < C.g.pg.toNat → V.pg[i * C.g.pg.toNat + j]? = some (pageB C.bs[i] (rawN C.g) j)
  cut : (C.turn = 0 ∧ V.wait = 0) ∨ (1 ≤ V.wait ∧ V.wait ≤ 1073741824 ∧ C.turn = C.ops + V.wait ∧ V.cby = C.cby ∧ V.cf = C.cf)
  may : mayG C.g = true
  cby0 : 0 ≤ C.cby

theorem Alike.mono {n m : Nat} {C : Chip} {V : Vw} (h : Alike n C V) (hm : n ≤ m) : Alike m C V :=
  ⟨h.g, h.fs, h.ap, h.off, h.ops, h.cuts, h.o0, by have := h.o1; omega, h.nx, h.wr, h.dn, h.len, h.pgl, h.ful, h.pg, h.cut, h.may, h.cby0⟩

/-! ## Operations -/

theorem Alike.place {n : Nat} {C : Chip} {V : Vw} (h : Alike n C V) {b k : Int} (hp : isG C.g b k = true) : ∃ (i j : Nat), b = (i : Int) ∧ k = (j : Int) ∧ i < C.bs.length ∧ j < C.g.pg.toNat := by
  obtain ⟨⟨h1, h2⟩, h3, h4⟩ := isG_iff.1 hp
  have hm := mayG_iff.1 h.may
  have := h.len
  exact ⟨b.toNat, k.toNat, by omega, by omega, by omega, by omega⟩

end Go.Proofs.Ytjffimbigamadaa
