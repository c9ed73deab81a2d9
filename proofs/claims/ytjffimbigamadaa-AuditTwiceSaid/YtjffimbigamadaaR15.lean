import Derived.Test.YtjffimbigamadaaG21
import Derived.Test.YtjffimbigamadaaL1
import Derived.Test.YtjffimbigamadaaR13
set_option linter.unusedSimpArgs false
set_option linter.unusedVariables false
set_option linter.unusedSectionVars false
/- The chip and the document's, side by side; an act of both. -/
namespace Go.Proofs.Ytjffimbigamadaa
open Go.AM

theorem DocAt.keepS {M N : Mem} {p : Nat} {S : DocS} {T : List Nat} (h : DocAt M p S) (hw : M.WF) (hk : Keep M N T) (h1 : ∀ c ∈ own p S, c ∉ T) (h2 : ∀ c, inBlk S.d.fsA c → c ∉ T) (h3 : ∀ q ∈ S.pg, ∀ c, inBlk q.1 c → c ∉ T) : DocAt N p S :=
  ⟨hk.get hw h.main (h1 _ (by simp [own])), SlAt.keep h.flt hw hk h2, h.pgA, h.nxA, h.wrA, h.dnA, hk.get hw h.pgs (h1 _ (by simp [own])), hk.get hw h.nxs (h1 _ (by simp [own])), hk.get hw h.wrs (h1 _ (by simp [own])), hk.get hw h.dns (h1 _ (by simp [own])),
    fun q hq => ⟨SlAt.keep (h.byt q hq).1 hw hk (h3 q hq), (h.byt q hq).2⟩, h.nd, h.fsx, h.fsl, h.may, h.pgl, h.nxl, h.wrl, h.dnl, h.raw, h.cby0⟩

theorem DocAt.lt {M : Mem} {p : Nat} {S : DocS} (h : DocAt M p S) (hw : M.WF) : ∀ c ∈ own p S, c < M.next := fun c hc => by
  simp only [own, List.mem_cons, List.not_mem_nil, or_false] at hc
  rcases hc with rfl | rfl | rfl | rfl | rfl
  · exact hw _ _ h.main
  · exact hw _ _ h.pgs
  · exact hw _ _ h.nxs
  · exact hw _ _ h.wrs
  · exact hw _ _ h.dns

/-- A chip, the document's chip, and what a law keeps beside them: 'F' where the chip begins, 'B' where the document's does, 'X' the law's own blocks behind that. -/
structure Both (M : Mem) (p : Nat) (C : Chip) (r : Nat) (S : DocS) (F B : Nat) (X : List Nat) : Prop where
  c : ChipAt M p C
  d : DocAt M r S
  wf : M.WF
  fb : F ≤ B
  nxt : B ≤ M.next
  cr : ∀ c ∈ foot p C, F ≤ c ∧ c < B
  cs : ∀ c, inBlk C.fsA c → F ≤ c ∧ c < B
  dr : ∀ c ∈ own r S, B ≤ c ∧ c ∉ X
  ds : ∀ c, inBlk S.d.fsA c → B ≤ c ∧ c ∉ X
  dp : ∀ q ∈ S.pg, ∀ c, inBlk q.1 c → B ≤ c ∧ c ∉ X
  xr : ∀ x ∈ X, B ≤ x ∧ x < M.next

/-- What a law keeps stays. -/
def Fr (M N : Mem) (F : Nat) (X : List Nat) : Prop := ∀ c row, (c < F ∨ c ∈ X) → M.get c = some row → N.get c = some row
theorem Fr.refl {M : Mem} {F : Nat} {X : List Nat} : Fr M M F X := fun _ _ _ h => h
theorem Fr.trans {M N P : Mem} {F : Nat} {X : List Nat} (h : Fr M N F X) (k : Fr N P F X) : Fr M P F X := fun c r hc hg => k c r hc (h c r hc hg)
theorem Fr.mono {M N : Mem} {F : Nat} {X Y : List Nat} (h : Fr M N F X) (hy : ∀ c ∈ Y, c ∈ X) : Fr M N F Y := fun c r hc hg => h c r (hc.imp id (hy c)) hg
theorem Fr.keep {M N : Mem} {F : Nat} {X : List Nat} (hw : M.WF) (k : Keep M N []) : Fr M N F X := fun c r _ hg => k.get hw hg (by simp)

section
variable {M N : Mem} {p : Nat} {C C' : Chip} {r : Nat} {S S' : DocS} {F B : Nat} {X : List Nat}
theorem Both.keep (h : Both M p C r S F B X) (k : Keep M N []) : Both N p C r S F B X :=
  ⟨h.c.keep h.wf k, h.d.keep h.wf k, k.wf, h.fb, Nat.le_trans h.nxt k.nxt, h.cr, h.cs, h.dr, h.ds, h.dp, fun x hx => ⟨(h.xr x hx).1, Nat.lt_of_lt_of_le (h.xr x hx).2 k.nxt⟩⟩

theorem Both.drop {Y : List Nat} (h : Both M p C r S F B X) (hy : ∀ c ∈ Y, c ∈ X) : Both M p C r S F B Y :=
  ⟨h.c, h.d, h.wf, h.fb, h.nxt, h.cr, h.cs, fun c hc => ⟨(h.dr c hc).1, fun hm => (h.dr c hc).2 (hy c hm)⟩, fun c hc => ⟨(h.ds c hc).1, fun hm => (h.ds c hc).2 (hy c hm)⟩, fun q hq c hc => ⟨(h.dp q hq c hc).1, fun hm => (h.dp q hq c hc).2 (hy c hm)⟩, fun x hx => h.xr x (hy x hx)⟩

/-- Where the document's chip lies. -/
theorem Both.dlt (h : Both M p C r S F B X) : (∀ c ∈ own r S, c < M.next) ∧ (∀ c, inBlk S.d.fsA c → c < M.next) ∧ ∀ q ∈ S.pg, ∀ c, inBlk q.1 c → c < M.next :=
  ⟨h.d.lt h.wf, fun c hc => SlAt.blk_lt h.d.flt h.wf hc, fun q hq c hc => SlAt.blk_lt (h.d.byt q hq).1 h.wf hc⟩

/-- A new block of the law's own. -/
theorem Both.add (h : Both M p C r S F B X) (k : Keep M N []) {b : Nat} (h1 : M.next ≤ b) (h2 : b < N.next) : Both N p C r S F B (b :: X) := by
  obtain ⟨d1, d2, d3⟩ := h.dlt
  have hN := h.keep k
  have n1 : ∀ c, c < M.next → c ∉ X → c ∉ b :: X := fun c hc hx hm => by
    rcases List.mem_cons.1 hm with e | hm
    · omega
    · exact hx hm
  refine ⟨hN.c, hN.d, hN.wf, hN.fb, hN.nxt, hN.cr, hN.cs, fun c hc => ⟨(h.dr c hc).1, n1 c (d1 c hc) (h.dr c hc).2⟩, fun c hc => ⟨(h.ds c hc).1, n1 c (d2 c hc) (h.ds c hc).2⟩, fun q hq c hc => ⟨(h.dp q hq c hc).1, n1 c (d3 q hq c hc) (h.dp q hq c hc).2⟩, fun x hx => ?_⟩
  rcases List.mem_cons.1 hx with e | hx
  · subst e; exact ⟨Nat.le_trans h.nxt h1, h2⟩
  · exact hN.xr x hx

end
end Go.Proofs.Ytjffimbigamadaa

/- What is told of both. -/
namespace Go.Proofs.Ytjffimbigamadaa
open Go.AM
theorem eqA_int (n : Nat) (a b : Int) : eqA tb (n + 1) 3 (i64 a) (i64 b) = some (a == b) := by
  unfold eqA
  rw [ty3]
  rfl
theorem geo_st {M : Mem} {b : Nat} {cs : List AV} (g : Geo) (hg : M.get b = some (.cells cs true)) (hl : cs.length = 5) : eSt tb 23 (.ptr b 0) (geoA g) M = some (undefA, M.put b (.cells (geoC g) true)) :=
  eSt_some (st_all ty23 rfl hg hl (by intro v hv; simp only [geoC, List.mem_cons, List.not_mem_nil, or_false] at hv; rcases hv with rfl | rfl | rfl | rfl | rfl <;> rfl))
theorem geo_res {M : Mem} {b : Nat} {g : Geo} (hg : M.get b = some (.cells (geoC g) true)) : eRes tb [.c 23 (.ptr b 0)] M = some (geoA g) := by
  have l := (geo_ld hg).2.2.2.2.2
  unfold eRes resC resC
  simp only [l, Option.map_some]

theorem c_geo (M : Mem) (hw : M.WF) (p : Nat) (C : Chip) (h : ChipAt M p C) : CallA tb.P 36 [.ptr p 0] M fun y N => y = geoA C.g ∧ Keep M N [] := by
  refine F36_ok ?_
  unfold F36
  refine letP_i fun M1 hM1 => ?_
  subst hM1
  have hK := Keep.new hw (.cells [i64 0, i64 0, i64 0, i64 0, i64 0] true)
  have hg := get_new M (.cells [i64 0, i64 0, i64 0, i64 0, i64 0] true)
  have h1 := h.keep hw hK
  have lg := ld_g h1
  simp only [i64] at lg h1 hg hK
  simp only [nil_eq, bindO_some, zB_bool, condB_false, eNil_ptr, fa0, zP_ptr, lg]
  refine ⟨_, _, _, _, _, rfl, ?_⟩
  refine bindO_i (geo_st C.g hg rfl) ?_
  refine bindO_i (geo_res (g := C.g) (by rw [Mem.get_put, if_pos rfl])) ?_
  refine ⟨by trivial, ?_⟩
  rw [Mem.new_put]
  exact Keep.new hw _

end Go.Proofs.Ytjffimbigamadaa
