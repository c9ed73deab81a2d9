import Derived.Test.YtjffimbigamadaaG12
import Derived.Test.YtjffimbigamadaaP3
set_option linter.unusedSimpArgs false
set_option linter.unusedVariables false
set_option linter.unusedSectionVars false
/- What is lent, what is kept, what is written over. -/
namespace Go.Proofs.Ytjffimbigamadaa
open Go.AM

def lent (l : List (BitVec 8)) : List AV := bvs l ++ List.replicate 3 (.val (.int .u8 119))

theorem lent_length (l : List (BitVec 8)) : (lent l).length = l.length + 3 := by simp [lent]

/-- What is lent reads as these bytes. -/
theorem lent_at {M : Mem} {b : Nat} {l : List (BitVec 8)} {rw' : Bool} (h : M.get b = some (.cells (lent l) rw')) : BytesAt M (.sl b 0 l.length (l.length + 3) none) l :=
  ⟨by simp, .inr ⟨b, 0, _, _, rfl, ⟨by omega, .inl rfl⟩, .inr ⟨_, _, h, by rw [lent_length]; omega, by
    rw [List.drop_zero, Nat.mul_one]
    unfold lent
    rw [List.take_left' (by simp)]⟩⟩⟩

theorem kept (M : Mem) (b : Nat) (y : AV) (l m : List (BitVec 8)) {rw' : Bool} (hg : M.get b = some (.cells (lent l) rw')) (hy : BytesAt M y m) (hl : l.length ≤ 1000000) :
    CallA tb.P 83 [.sl b 0 l.length (l.length + 3) none, y] M fun v N => v = .val (.bool (decide (l = m))) ∧ N = M := by
  have hx := lent_at hg
  refine F83_ok ?_
  unfold F83
  have e3 : iAdd .i64 (l.length : Int) 3 = ((l.length + 3 : Nat) : Int) := by rw [iAdd, wrap_i64' (by omega) (by omega)]; rfl
  refine bindO_i (eLen_some hx.len) ?_
  simp only [zI_int]
  refine bindO_i (eLen_some hx.len) ?_
  simp only [zI_int, e3]
  have hsl := slice_both (T := tb) ty33 ty5 (b := b) (o := 0) (n := l.length) (c := l.length + 3) (l := l.length) (h := l.length + 3) (by omega) (by omega) (k1 := .i64) (k2 := .i64)
  rw [AM.beq_false (show l.length + 3 ≠ l.length by omega), cond_false, show l.length + 3 - l.length = 3 by omega, Nat.zero_add] at hsl
  refine bindO_i (eSl_some hsl) ?_
  refine ⟨fun z n N => ∃ i : Nat, z = i ∧ i ≤ 3 ∧ n = 3 - i ∧ N = M, ⟨3, 0, rfl, by omega, rfl, rfl⟩, ?_⟩
  rintro _ z n N ⟨i, rfl, hi, rfl, rfl⟩
  refine condB_i (fun hlt => ?_) (fun hge => ?_)
  · have hlt : i < 3 := by have : (i : Int) < 3 := by simpa using hlt
                           omega
    have hia : evIndexAddr tb 33 (.sl b l.length 3 3 none) (.val (.int .i64 (i : Int))) = some (.ptr b (l.length + i)) := by
      unfold evIndexAddr
      rw [ty33]
      simp only [ty5, Int.toNat_natCast, blt_of hlt, cond_true, Nat.mul_one]
      have h0 : decide (0 ≤ (i : Int)) = true := by simp
      rw [h0, cond_true]
    refine bindO_i (eIA_some hia) ?_
    have hld : evLoad tb 5 (.ptr b (l.length + i)) N = some (.val (.int .u8 119)) := by
      unfold evLoad
      rw [ty5]
      simp only [TI.isAgg, cond_false]
      unfold Mem.cellAt
      rw [hg]
      simp only [lent]
      rw [List.getElem?_append_right (by simp), bvs_length, Nat.add_sub_cancel_left, List.getElem?_replicate, if_pos hlt]
    refine bindO_i (eLd_some hld) ?_
    simp only [zI_int]
    refine condB_i (fun h => by simp at h) (fun _ => ?_)
    exact ⟨3 - (i + 1), by omega, i + 1, iInc (by omega), hlt, rfl, by trivial⟩
  · refine (same_bytes N _ y l m hx hy (by omega)).mono ?_
    rintro v N' ⟨rfl, rfl⟩
    simp only [zB_bool, and_self]

/-- The block that a slice lies in. -/
def onBlk (x : AV) (b : Nat) : Prop := match x with
  | .sl c _ _ _ _ => c = b
  | _ => False

/-- But for a slice's block all that was there stays. -/
structure Over (M N : Mem) (x : AV) : Prop where
  wf : N.WF
  nxt : M.next ≤ N.next
  old : ∀ c, c < M.next → ¬ onBlk x c → N.get c = M.get c

theorem Over.keep {M N : Mem} {x y : AV} {l : List (BitVec 8)} (h : Over M N x) (hw : M.WF) (hy : BytesAt M y l) (hd : ∀ c, inBlk y c → ¬ onBlk x c) : BytesAt N y l :=
  SlAt.mono hy fun c r hin hc => by rw [h.old c (hw c r hc) (hd c hin)]; exact hc

end Go.Proofs.Ytjffimbigamadaa
