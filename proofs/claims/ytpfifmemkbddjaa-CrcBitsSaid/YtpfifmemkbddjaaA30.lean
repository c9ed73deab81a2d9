/- The abstract machine, part 30: tries and memories, where two changes meet; the rule of the frame. -/
import Derived.Test.YtpfifmemkbddjaaA29
set_option linter.unusedVariables false
namespace Go.AM
set_option linter.unusedSimpArgs false

namespace Tr
variable {α : Type}

theorem left_n (l r : Tr α) (x : Option α) : (Tr.n l x r).left = l := rfl
theorem right_n (l r : Tr α) (x : Option α) : (Tr.n l x r).right = r := rfl
theorem here_n (l r : Tr α) (x : Option α) : (Tr.n l x r).here = x := rfl

theorem setF_fuel : ∀ (f g : Nat) (t : Tr α) (i : Nat) (y : Option α), i < f → i < g → setF f t i y = setF g t i y
  | 0, _, _, _, _, h, _ => absurd h (by omega)
  | _ + 1, 0, _, _, _, _, h => absurd h (by omega)
  | f + 1, g + 1, t, i, y, h, h' => by
    simp only [setF, cond_eq_ite, Nat.beq_eq]
    have e2 : ∀ k, Nat.mod k 2 = k % 2 := fun _ => rfl
    have e3 : ∀ k, Nat.div k 2 = k / 2 := fun _ => rfl
    rw [e2, e3]
    by_cases h0 : i = 0
    · simp only [h0, if_true]
    · simp only [h0, if_false]
      rw [setF_fuel f g t.left (i / 2) y (by omega) (by omega), setF_fuel f g t.right (i / 2 - 1) y (by omega) (by omega)]

theorem setF_comm : ∀ (f : Nat) (t : Tr α) (i j : Nat) (x y : Option α), i < f → j < f → i ≠ j → setF f (setF f t i x) j y = setF f (setF f t j y) i x
  | 0, _, _, _, _, _, h, _, _ => absurd h (by omega)
  | f + 1, t, i, j, x, y, hi, hj, hne => by
    have e2 : ∀ k, Nat.mod k 2 = k % 2 := fun _ => rfl
    have e3 : ∀ k, Nat.div k 2 = k / 2 := fun _ => rfl
    simp only [setF, cond_eq_ite, Nat.beq_eq, e2, e3]
    by_cases h0 : i = 0
    · have hj0 : ¬ j = 0 := fun h => hne (by omega)
      simp only [h0, if_true, hj0, if_false, left_n, right_n, here_n]
      split <;> rfl
    · by_cases hj0 : j = 0
      · simp only [h0, if_false, hj0, if_true, left_n, right_n, here_n]
        split <;> rfl
      · simp only [h0, hj0, if_false]
        by_cases h1 : i % 2 = 1 <;> by_cases h2 : j % 2 = 1
        · simp only [h1, h2, if_true, left_n, right_n, here_n]
          rw [setF_comm f t.left (i / 2) (j / 2) x y (by omega) (by omega) (by omega)]
        · simp only [h1, h2, if_true, if_false, left_n, right_n, here_n]
        · simp only [h1, h2, if_true, if_false, left_n, right_n, here_n]
        · simp only [h1, h2, if_false, left_n, right_n, here_n]
          rw [setF_comm f t.right (i / 2 - 1) (j / 2 - 1) x y (by omega) (by omega) (by omega)]

theorem setF_same : ∀ (f : Nat) (t : Tr α) (i : Nat) (x y : Option α), i < f → setF f (setF f t i x) i y = setF f t i y
  | 0, _, _, _, _, h => absurd h (by omega)
  | f + 1, t, i, x, y, hi => by
    have e2 : ∀ k, Nat.mod k 2 = k % 2 := fun _ => rfl
    have e3 : ∀ k, Nat.div k 2 = k / 2 := fun _ => rfl
    simp only [setF, cond_eq_ite, Nat.beq_eq, e2, e3]
    by_cases h0 : i = 0
    · simp only [h0, if_true, left_n, right_n]
    · simp only [h0, if_false]
      by_cases h1 : i % 2 = 1
      · simp only [h1, if_true, left_n, right_n, here_n]
        rw [setF_same f t.left (i / 2) x y (by omega)]
      · simp only [h1, if_false, left_n, right_n, here_n]
        rw [setF_same f t.right (i / 2 - 1) x y (by omega)]

theorem set_comm (t : Tr α) {i j : Nat} (x y : Option α) (h : i ≠ j) : (t.set i x).set j y = (t.set j y).set i x := by
  unfold set
  rw [setF_fuel (i + 1) (i + j + 1) t i x (by omega) (by omega), setF_fuel (j + 1) (i + j + 1) _ j y (by omega) (by omega), setF_comm _ t i j x y (by omega) (by omega) h,
    setF_fuel (j + 1) (i + j + 1) t j y (by omega) (by omega), setF_fuel (i + 1) (i + j + 1) _ i x (by omega) (by omega)]
theorem set_set (t : Tr α) (i : Nat) (x y : Option α) : (t.set i x).set i y = t.set i y := setF_same (i + 1) t i x y (by omega)

end Tr

theorem Mem.put_put (M : Mem) (b : Nat) (r r' : Row) : (M.put b r).put b r' = M.put b r' := by
  unfold Mem.put; simp only [Tr.set_set]
theorem Mem.put_comm (M : Mem) {b c : Nat} (r s : Row) (h : b ≠ c) : (M.put b r).put c s = (M.put c s).put b r := by
  unfold Mem.put; simp only [Tr.set_comm _ _ _ h]
theorem Mem.new_put (M : Mem) (r r' : Row) : (M.new r).put M.next r' = M.new r' := by
  unfold Mem.put Mem.new; simp only [Tr.set_set]

theorem setd_comm (t : Tr AV) {d e : Option Tmp} (x y : AV) (h : ∀ a, d = some a → e ≠ some a) : setd (setd t d x) e y = setd (setd t e y) d x := by
  cases d with
  | none => rfl
  | some a =>
    cases e with
    | none => rfl
    | some b => exact Tr.set_comm t _ _ (fun he => h a rfl (by rw [he]))

theorem setd_get (t : Tr AV) {d : Option Tmp} (x : AV) {i : Nat} (h : d ≠ some i) : (setd t d x).get i = t.get i := by
  cases d with
  | none => rfl
  | some a => exact Tr.get_set_ne t a _ i (fun he => h (by rw [he]))

/-! ## The frame -/

/-- More memory than was looked at: what is over stays. -/
theorem Stp.over {ι ι' : Inj} {M M1 N N1 : Mem} {w w' : World} (R : Rel ι M1 w) (hM : ∀ b r, M.get b = some r → M1.get b = some r) (hn : M.next = M1.next) (S : Stp ι M w ι' N w')
    (hN : ∀ b r, N1.get b = some r → N.get b = some r ∨ (M.get b = none ∧ M1.get b = some r)) (hnn : N.next ≤ N1.next) : Stp ι M1 w ι' N1 w' := by
  have hblk : ∀ b r l, M.get b = none → M1.get b = some r → ι b = some l → l.blk < w.heap.size ∧ ¬ LvAt ι M l.blk := fun b r l h0 h1 hl => by
    obtain ⟨l', h2, h3⟩ := R.live b r h1
    rw [hl] at h2; injection h2 with h2; subst h2
    refine ⟨row_lt h3, fun ⟨c, s, l2, g1, g2, g3⟩ => ?_⟩
    have := R.inj b c r s l l2 h1 (hM c s g1) hl g2 g3.symm
    subst this
    rw [h0] at g1; cases g1
  have hrw : ∀ k, RwAt ι M k → RwAt ι M1 k := fun k ⟨b, r, l, h1, h2⟩ => ⟨b, r, l, hM b r h1, h2⟩
  have hlv : ∀ k, LvAt ι M k → LvAt ι M1 k := fun k ⟨b, r, l, h1, h2⟩ => ⟨b, r, l, hM b r h1, h2⟩
  have hold : ∀ b r, M.get b = none → M1.get b = some r → ∃ l, ι b = some l ∧ ι' b = some l ∧ RowR ι' l r w'.heap[l.blk]? ∧ l.blk < w.heap.size := fun b r h0 h1 => by
    obtain ⟨l, h2, h3⟩ := R.live b r h1
    obtain ⟨h4, h5⟩ := hblk b r l h0 h1 h2
    refine ⟨l, h2, S.ext _ _ h2, ?_, h4⟩
    rw [S.frame l.blk h4 (fun ⟨c, s, l2, g1, _, g3, g4⟩ => h5 ⟨c, s, l2, g1, g3, g4⟩)]
    exact h3.mono S.ext
  refine ⟨⟨fun b l h => Nat.lt_of_lt_of_le (S.rel.dom b l h) hnn, fun b r h => ?_, fun b b' r r' l l' h h' hl hl' he => ?_⟩, S.ext, by have := S.nxt; omega, fun b l h => by rw [← hn]; exact S.new b l h, S.size,
    fun k hk hnr => S.frame k hk fun h => hnr (hrw k h), fun k hk => ?_, fun k hk => ?_, S.os, S.tape, S.output⟩
  · rcases hN b r h with h1 | ⟨h0, h1⟩
    · exact S.rel.live b r h1
    · obtain ⟨l, _, h2, h3, _⟩ := hold b r h0 h1
      exact ⟨l, h2, h3⟩
  · have cross : ∀ (b b' : Nat) (r r' : Row) (l l' : Loc), N.get b = some r → ι' b = some l → M.get b' = none → M1.get b' = some r' → ι' b' = some l' → l.blk = l'.blk → False := fun b b' r r' l l' g1 g2 g3 g4 g5 g6 => by
      obtain ⟨l2, h2, h3, _, h5⟩ := hold b' r' g3 g4
      rw [g5] at h3; injection h3 with h3; subst h3
      rcases S.evl l'.blk ⟨b, r, l, g1, g2, g6⟩ with h6 | h6
      · omega
      · exact (hblk b' r' l' g3 g4 h2).2 h6
    rcases hN b r h with h1 | ⟨h0, h1⟩ <;> rcases hN b' r' h' with h2 | ⟨h0', h2⟩
    · exact S.rel.inj b b' r r' l l' h1 h2 hl hl' he
    · exact (cross b b' r r' l l' h1 hl h0' h2 hl' he).elim
    · exact (cross b' b r' r l' l h2 hl' h0 h1 hl he.symm).elim
    · obtain ⟨l1, g1, g2, _⟩ := hold b r h0 h1
      obtain ⟨l2, g3, g4, _⟩ := hold b' r' h0' h2
      rw [hl] at g2; injection g2 with g2; subst g2
      rw [hl'] at g4; injection g4 with g4; subst g4
      exact R.inj b b' r r' l l' h1 h2 g1 g3 he
  · obtain ⟨b, r, l, h1, h2, h3, h4⟩ := hk
    rcases hN b r h1 with h5 | ⟨h0, h5⟩
    · rcases S.evo k ⟨b, r, l, h5, h2, h3, h4⟩ with h6 | h6
      · exact .inl h6
      · exact .inr (hrw k h6)
    · obtain ⟨l1, g1, g2, _⟩ := hold b r h0 h5
      rw [h3] at g2; injection g2 with g2; subst g2
      exact .inr ⟨b, r, l, h5, h2, g1, h4⟩
  · obtain ⟨b, r, l, h1, h3, h4⟩ := hk
    rcases hN b r h1 with h5 | ⟨h0, h5⟩
    · rcases S.evl k ⟨b, r, l, h5, h3, h4⟩ with h6 | h6
      · exact .inl h6
      · exact .inr (hlv k h6)
    · obtain ⟨l1, g1, g2, _⟩ := hold b r h0 h5
      rw [h3] at g2; injection g2 with g2; subst g2
      exact .inr ⟨b, r, l, h5, g1, h4⟩

/-- A row that was there, and was not looked at, is not there anew. -/
theorem Stp.apart {ι ι' : Inj} {M M1 N : Mem} {w w' : World} (R : Rel ι M1 w) (hM : ∀ b r, M.get b = some r → M1.get b = some r) (S : Stp ι M w ι' N w') {b : Nat} {r : Row} (h0 : M.get b = none) (h1 : M1.get b = some r) :
    N.get b = none := by
  cases hN : N.get b with
  | none => rfl
  | some s =>
    exfalso
    obtain ⟨l, h2, h3⟩ := R.live b r h1
    have h4 := S.ext _ _ h2
    rcases S.evl l.blk ⟨b, s, l, hN, h4, rfl⟩ with h5 | ⟨c, s', l', g1, g2, g3⟩
    · have := row_lt h3; omega
    · have := R.inj b c r s' l l' h1 (hM c s' g1) h2 g2 g3.symm
      subst this
      rw [h0] at g1; cases g1

/-- The rule of the frame, for one row. -/
theorem CallA.frame1 {P : Program} {f : FuncId} {args : List AV} {M : Mem} {Q : AV → Mem → Prop} (h : CallA P f args M Q) {b : Nat} {r : Row} (h0 : M.get b = none) :
    CallA P f args (M.put b r) fun x N => ∃ N0, Q x N0 ∧ N0.get b = none ∧ M.next ≤ N0.next ∧ N = N0.put b r := by
  intro ι w vs hv R
  have hM : ∀ c s, M.get c = some s → (M.put b r).get c = some s := fun c s hc => by
    rw [Mem.get_put, if_neg (fun he => by subst he; rw [h0] at hc; cases hc)]
    exact hc
  have R0 : Rel ι M w := R.forget (Nat.le_refl _) hM
  have h1 : (M.put b r).get b = some r := by rw [Mem.get_put, if_pos rfl]
  refine (h ι w vs hv R0).mono ?_
  rintro e w' ⟨ι', v, x, N0, rfl, h2, h3, h4⟩
  refine ⟨ι', v, x, N0.put b r, rfl, h2, Stp.over R hM rfl h3 (fun c s hc => ?_) (Nat.le_refl _), N0, h4, Stp.apart R hM h3 h0 h1, h3.nxt, rfl⟩
  rw [Mem.get_put] at hc
  split at hc
  · rename_i he
    subst he
    injection hc with hc; subst hc
    exact .inr ⟨h0, h1⟩
  · exact .inl hc

end Go.AM
