import Derived.Test.YtjffimbigamadaaG11
import Derived.Test.YtjffimbigamadaaG7
import Derived.Test.YtjffimbigamadaaP3
set_option linter.unusedSimpArgs false
set_option linter.unusedVariables false
set_option linter.unusedSectionVars false
/- The document's geometry and faults (chapters 5, 6). -/
namespace Go.Proofs.Ytjffimbigamadaa
open Go.AM
/-- The fields of an element of a slice of faults. -/
theorem FltsAt.fields {M : Mem} {x : AV} {fs : List Flt} (h : FltsAt M x fs) {i : Nat} (hi : i < fs.length) :
    ∃ b o, evIndexAddr tb 54 x (.val (.int .i64 (i : Int))) = some (.ptr b o) ∧ evLoad tb 3 (.ptr b o) M = some (i64 fs[i].blk) ∧ evLoad tb 4 (.ptr b (o + 1)) M = some (.val (.bool fs[i].fac)) ∧ evLoad tb 3 (.ptr b (o + 2)) M = some (i64 fs[i].aft) := by
  obtain ⟨b, o, h1, _, h2, _⟩ := SlAt.at h ty54 rfl ty53 rfl hi (k' := .i64)
  have hl : ∀ j, j < 3 → (fs.flatMap fltC)[i * 3 + j]? = (fltC fs[i])[j]? := fun j hj => flat_get fltC_len hi hj
  refine ⟨b, o, h1, ?_, ?_, ?_⟩
  · unfold evLoad
    rw [ty3]
    simp only [TI.isAgg, cond_false]
    have := h2 0 (by omega)
    rw [hl 0 (by omega)] at this
    exact this
  · unfold evLoad
    rw [ty4]
    simp only [TI.isAgg, cond_false]
    have := h2 1 (by omega)
    rw [hl 1 (by omega)] at this
    exact this
  · unfold evLoad
    rw [ty3]
    simp only [TI.isAgg, cond_false]
    have := h2 2 (by omega)
    rw [hl 2 (by omega)] at this
    exact this

end Go.Proofs.Ytjffimbigamadaa

/- The document's faults and the program's: alike. -/
namespace Go.Proofs.Ytjffimbigamadaa
open Go.AM
/-- No two faults of one block. -/
def Apart (fs : List Flt) : Prop := ∀ f ∈ fs, ∀ h ∈ fs, f.blk = h.blk → f = h

end Go.Proofs.Ytjffimbigamadaa

/- Which faults may be: the document's answer is the program's. -/
namespace Go.Proofs.Ytjffimbigamadaa
open Go.AM
end Go.Proofs.Ytjffimbigamadaa

/- The document's chip: fill, turn, Arm, Boot. -/
namespace Go.Proofs.Ytjffimbigamadaa
open Go.AM
theorem ty60 : tb.ty.get 60 = some ⟨.sli 3, 1, 24, [.slice none 0 0], none⟩ := by kernel_rfl

/-- The document's chip: its own cells. -/
structure Doc where
  g : Geo
  fsA : AV
  pgA : AV
  nxA : AV
  wrA : AV
  dnA : AV
  ops : Int
  cuts : Int
  off : Bool
  wait : Int
  cop : Int
  cby : Int
  cf : BitVec 8
def docC (D : Doc) : List AV := [i64 D.g.bl, i64 D.g.pg, i64 D.g.by', i64 D.g.sp, i64 D.g.tr, D.fsA, D.pgA, D.nxA, D.wrA, D.dnA, i64 D.ops, i64 D.cuts, .val (.bool D.off), i64 D.wait, i64 D.cop, i64 D.cby, bv8 D.cf]

section
variable {p : Nat} {M : Mem}
theorem ra (k o : Nat) (h : evFieldAddr tb 62 (.ptr p 0) k = some (.ptr p o)) : eFA tb 62 (.ptr p 0) k M = some (.ptr p o, M) := eFA_some h
variable {D : Doc} (h : M.get p = some (.cells (docC D) true))
include h
end
end Go.Proofs.Ytjffimbigamadaa

/- The document's chip: Arm, Boot. -/
namespace Go.Proofs.Ytjffimbigamadaa
open Go.AM
end Go.Proofs.Ytjffimbigamadaa

/- The document's chip in memory: pages, numbers of blocks. -/
namespace Go.Proofs.Ytjffimbigamadaa
open Go.AM

theorem ty59 : tb.ty.get 59 = some ⟨.sli 33, 1, 24, [.slice none 0 0], none⟩ := by kernel_rfl

/-- The document's chip: its own cells, its faults, its pages (each a slice, and what it reads as), its numbers; the blocks that they lie in. -/
structure DocS where
  d : Doc
  fs : List Flt
  pg : List (AV × List (BitVec 8))
  nx : List Int
  wr : List Int
  dn : List Int
  pb : Nat
  nb : Nat
  wb : Nat
  db : Nat
def intsI (l : List Int) : List AV := l.map i64
@[simp] theorem intsI_length (l : List Int) : (intsI l).length = l.length := by simp [intsI]
def own (p : Nat) (S : DocS) : List Nat := [p, S.pb, S.nb, S.wb, S.db]

structure DocAt (M : Mem) (p : Nat) (S : DocS) : Prop where
  main : M.get p = some (.cells (docC S.d) true)
  flt : FltsAt M S.d.fsA S.fs
  pgA : S.d.pgA = .sl S.pb 0 S.pg.length S.pg.length (some 1)
  nxA : S.d.nxA = .sl S.nb 0 S.nx.length S.nx.length none
  wrA : S.d.wrA = .sl S.wb 0 S.wr.length S.wr.length none
  dnA : S.d.dnA = .sl S.db 0 S.dn.length S.dn.length none
  pgs : M.get S.pb = some (.cells (S.pg.map (·.1)) true)
  nxs : M.get S.nb = some (.cells (intsI S.nx) true)
  wrs : M.get S.wb = some (.cells (intsI S.wr) true)
  dns : M.get S.db = some (.cells (intsI S.dn) true)
  byt : ∀ q ∈ S.pg, BytesAt M q.1 q.2 ∧ q.1.one = true ∧ ∀ c, inBlk q.1 c → c ∉ own p S
  nd : (own p S).Nodup
  fsx : ∀ c, inBlk S.d.fsA c → c ∉ own p S
  fsl : S.fs.length ≤ 8
  may : mayG S.d.g = true
  pgl : S.pg.length = S.d.g.bl.toNat * S.d.g.pg.toNat
  nxl : S.nx.length = S.d.g.bl.toNat
  wrl : S.wr.length = S.d.g.bl.toNat
  dnl : S.dn.length = S.d.g.bl.toNat
  raw : ∀ q ∈ S.pg, q.2.length = rawN S.d.g
  cby0 : 0 ≤ S.d.cby

theorem DocAt.keep {M N : Mem} {p : Nat} {S : DocS} (h : DocAt M p S) (hw : M.WF) (hk : Keep M N []) : DocAt N p S :=
  ⟨hk.get hw h.main (by simp), SlAt.keep0 h.flt hw hk, h.pgA, h.nxA, h.wrA, h.dnA, hk.get hw h.pgs (by simp), hk.get hw h.nxs (by simp), hk.get hw h.wrs (by simp), hk.get hw h.dns (by simp),
    fun q hq => ⟨SlAt.keep0 (h.byt q hq).1 hw hk, (h.byt q hq).2⟩, h.nd, h.fsx, h.fsl, h.may, h.pgl, h.nxl, h.wrl, h.dnl, h.raw, h.cby0⟩

section
variable {M : Mem} {p : Nat} {S : DocS} (h : DocAt M p S)
include h
/-- A page's slice. -/
theorem DocAt.page {i : Nat} (hi : i < S.pg.length) : eIA tb 59 (.sl S.pb 0 S.pg.length S.pg.length (some 1)) (.val (.int .i64 (i : Int))) M = some (.ptr S.pb i, M) ∧ eLd tb 33 (.ptr S.pb i) M = some (S.pg[i].1, M) := by
  constructor
  · refine eIA_some ?_
    unfold evIndexAddr
    rw [ty59]
    have h0 : decide (0 ≤ (i : Int)) = true := by simp
    simp only [ty33, Int.toNat_natCast, AM.blt_of hi, cond_true, h0, Nat.zero_add, Nat.mul_one]
  · exact eLd_some (ld_cell ty33 rfl h.pgs (by simp [hi]))
end
end Go.Proofs.Ytjffimbigamadaa

/- The document's chip: Read. -/
namespace Go.Proofs.Ytjffimbigamadaa
open Go.AM

theorem DocAt.setD {M : Mem} {p : Nat} {S : DocS} (h : DocAt M p S) (hw : M.WF) (D' : Doc) (h1 : D'.g = S.d.g) (h2 : D'.fsA = S.d.fsA) (h3 : D'.pgA = S.d.pgA) (h4 : D'.nxA = S.d.nxA) (h5 : D'.wrA = S.d.wrA) (h6 : D'.dnA = S.d.dnA) (h7 : 0 ≤ D'.cby) :
    DocAt (M.put p (.cells (docC D') true)) p { S with d := D' } := by
  have hn := h.nd
  simp only [own, List.nodup_cons, List.mem_cons, List.not_mem_nil, or_false, not_or] at hn
  have get : ∀ c r, c ≠ p → M.get c = some r → (M.put p (.cells (docC D') true)).get c = some r := fun c r hc hr => by rw [Mem.get_put, if_neg hc]; exact hr
  refine ⟨by rw [Mem.get_put, if_pos rfl], ?_, by simp only [h3]; exact h.pgA, by simp only [h4]; exact h.nxA, by simp only [h5]; exact h.wrA, by simp only [h6]; exact h.dnA,
    get _ _ (fun e => hn.1.1 e.symm) h.pgs, get _ _ (fun e => hn.1.2.1 e.symm) h.nxs, get _ _ (fun e => hn.1.2.2.1 e.symm) h.wrs, get _ _ (fun e => hn.1.2.2.2 e.symm) h.dns,
    fun q hq => ⟨SlAt.mono (h.byt q hq).1 fun c r hc hr => get c r (fun e => (h.byt q hq).2.2 c hc (by rw [e]; simp [own])) hr, (h.byt q hq).2⟩, h.nd, by simp only [h2]; exact h.fsx, h.fsl, by simp only [h1]; exact h.may, by simp only [h1]; exact h.pgl, by simp only [h1]; exact h.nxl, by simp only [h1]; exact h.wrl, by simp only [h1]; exact h.dnl, by simp only [h1]; exact h.raw, h7⟩
  simp only [h2]
  exact SlAt.mono h.flt fun c r hc hr => get c r (fun e => h.fsx c hc (by rw [e]; simp [own])) hr

end Go.Proofs.Ytjffimbigamadaa

/- The document's chip: There, Fails. -/
namespace Go.Proofs.Ytjffimbigamadaa
open Go.AM
end Go.Proofs.Ytjffimbigamadaa

/- The document's chip: what is written. -/
namespace Go.Proofs.Ytjffimbigamadaa
open Go.AM
end Go.Proofs.Ytjffimbigamadaa
