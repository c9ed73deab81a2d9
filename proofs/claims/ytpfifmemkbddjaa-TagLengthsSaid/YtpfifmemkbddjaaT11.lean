import Derived.Test.YtpfifmemkbddjaaT10
set_option linter.unusedSimpArgs false
set_option linter.unusedVariables false
/- TagBack: what one bit turned makes of a page. -/
namespace Go.Proofs.Ytpfifmemkbddjaa
open Go.AM

/-- The sum's four bytes. -/
def sumB (l : List (BitVec 8)) : List (BitVec 8) := ((l.drop (l.length - 16)).take 15).drop 11

theorem valid_parts {l : List (BitVec 8)} (h : valid l = true) : l.getD (l.length - 16 + 0) 0#8 = 74#8 ∧ l.getD (l.length - 16 + 15) 0#8 = 0#8 ∧ val (sumB l) = (more 0#32 (l.take (l.length - 16 + 11))).toNat ∧
    mayT (fK (l.drop (l.length - 16))) (fP (l.drop (l.length - 16))) (fS (l.drop (l.length - 16))) (fE (l.drop (l.length - 16))) = true := by
  unfold valid at h
  simp only [Bool.and_eq_true, decide_eq_true_eq, getD_drop] at h
  exact ⟨h.1.1, h.1.2.1, h.1.2.2, h.2⟩

theorem state_ne {l : List (BitVec 8)} (h : valid l = false) : state l ≠ 1 := by
  unfold state
  rw [h]
  split
  · split <;> simp
  · simp

theorem state_two {l : List (BitVec 8)} (h : valid l = false) (hf : allFF l = false) : state l = 2 := by
  unfold state
  rw [h, hf]
  split <;> rfl

theorem flip_get? (l : List (BitVec 8)) (i j : Nat) : (flip l i)[j]? = if j = i / 8 then (l[j]?).map (· ^^^ (1#8 <<< (i % 8))) else l[j]? := by
  unfold flip
  rw [List.getElem?_set]
  by_cases h : j = i / 8
  · subst h
    rw [if_pos rfl, if_pos rfl]
    by_cases hl : i / 8 < l.length
    · rw [if_pos hl, List.getElem?_eq_getElem hl, getD_get hl]; rfl
    · rw [if_neg hl, List.getElem?_eq_none (by omega)]; rfl
  · rw [if_neg (fun e => h e.symm), if_neg h]

theorem flip_getD (l : List (BitVec 8)) (i j : Nat) (hj : j < l.length) : (flip l i).getD j 0#8 = if j = i / 8 then l.getD j 0#8 ^^^ (1#8 <<< (i % 8)) else l.getD j 0#8 := by
  rw [List.getD_eq_getElem?_getD, flip_get?, List.getD_eq_getElem?_getD, List.getElem?_eq_getElem hj]
  split <;> rfl

theorem one_ne : ∀ k : Fin 8, (1#8 <<< k.val) ≠ 0#8 ∧ 74#8 ^^^ (1#8 <<< k.val) ≠ 255#8 := by decide
theorem xor8_ne {a b : BitVec 8} (h : b ≠ 0#8) : a ^^^ b ≠ a := fun he => h (by
  have := congrArg (a ^^^ ·) he
  simp only [← BitVec.xor_assoc, BitVec.xor_self, BitVec.zero_xor] at this
  exact this)

theorem sumB_get? (l : List (BitVec 8)) (hl : 16 ≤ l.length) (j : Nat) : (sumB l)[j]? = if j < 4 then l[l.length - 5 + j]? else none := by
  unfold sumB
  rw [List.getElem?_drop, List.getElem?_take]
  by_cases h : j < 4
  · rw [if_pos (by omega), if_pos h, List.getElem?_drop]
    congr 1; omega
  · rw [if_neg (by omega), if_neg h]

theorem sumB_length (l : List (BitVec 8)) (hl : 16 ≤ l.length) : (sumB l).length = 4 := by
  unfold sumB; simp; omega

/-- One bit turned: no page. -/
theorem flip_not {l : List (BitVec 8)} (hl : 16 ≤ l.length) (hv : valid l = true) {i : Nat} (hi : i < 8 * l.length) : valid (flip l i) = false := by
  refine Bool.eq_false_iff.2 fun hf => ?_
  obtain ⟨_, a2, a3, _⟩ := valid_parts hv
  obtain ⟨_, b2, b3, _⟩ := valid_parts hf
  rw [flip_length] at b2 b3
  have h1 := (one_ne ⟨i % 8, by omega⟩).1
  simp only at h1
  by_cases c1 : i / 8 = l.length - 16 + 15
  · rw [flip_getD l i _ (by omega), if_pos c1.symm, a2] at b2
    exact xor8_ne h1 b2
  by_cases c2 : i / 8 < l.length - 16 + 11
  · -- the sum's bytes are the same
    have hs : sumB (flip l i) = sumB l := by
      apply List.ext_getElem?
      intro j
      rw [sumB_get? _ (by rw [flip_length]; exact hl), sumB_get? _ hl, flip_length]
      by_cases hj : j < 4
      · rw [if_pos hj, if_pos hj, flip_get?, if_neg (by omega)]
      · rw [if_neg hj, if_neg hj]
    have ht : (flip l i).take (l.length - 16 + 11) = flip (l.take (l.length - 16 + 11)) i := by
      apply List.ext_getElem?
      intro j
      rw [List.getElem?_take, flip_get?, flip_get?, List.getElem?_take]
      by_cases hj : j < l.length - 16 + 11
      · rw [if_pos hj, if_pos hj]
      · rw [if_neg hj, if_neg hj, if_neg (by omega)]
    rw [hs, a3, ht] at b3
    have := flip_more (l := l.take (l.length - 16 + 11)) (i := i) (by rw [List.length_take]; omega)
    exact this (BitVec.eq_of_toNat_eq b3.symm)
  · have ht : (flip l i).take (l.length - 16 + 11) = l.take (l.length - 16 + 11) := by
      apply List.ext_getElem?
      intro j
      rw [List.getElem?_take, List.getElem?_take, flip_get?]
      by_cases hj : j < l.length - 16 + 11
      · rw [if_pos hj, if_pos hj, if_neg (by omega)]
      · rw [if_neg hj, if_neg hj]
    rw [ht, ← a3] at b3
    have he := val_inj (by rw [sumB_length _ hl, sumB_length _ (by rw [flip_length]; exact hl)]) b3
    have hg := congrArg (fun m => m[i / 8 - (l.length - 5)]?) he
    rw [sumB_get? _ (by rw [flip_length]; exact hl), sumB_get? _ hl, flip_length, if_pos (by omega), if_pos (by omega), show l.length - 5 + (i / 8 - (l.length - 5)) = i / 8 by omega, flip_get?, if_pos rfl, List.getElem?_eq_getElem (by omega)] at hg
    simp only [Option.map_some, Option.some.injEq] at hg
    exact xor8_ne h1 hg

theorem flip_state {l : List (BitVec 8)} (hl : 16 ≤ l.length) (hv : valid l = true) {i : Nat} (hi : i < 8 * l.length) : state (flip l i) = 2 := by
  refine state_two (flip_not hl hv hi) ?_
  obtain ⟨a1, _⟩ := valid_parts hv
  refine allFF_false (i := l.length - 16 + 0) (by rw [flip_length]; omega) ?_
  rw [flip_getD l i _ (by omega), a1]
  split
  · exact (one_ne ⟨i % 8, by omega⟩).2
  · decide

/-! ## What the laws make of a page that was laid -/

/-- What Read answers, as its parts. -/
theorem read_parts {M N : Mem} {l : List (BitVec 8)} {y : AV} (h : ReadPost M l y N) : ∃ (u : AV) (m : List (BitVec 8)) (k p s e : Int), y = .tup [u, tagA k p s e, i64 (state l)] ∧ Gr N u m ∧ (∀ c, inBlk u c → M.next ≤ c) ∧
    ((state l = 1 ∧ m = l.take (l.length - 16) ∧ k = fK (l.drop (l.length - 16)) ∧ p = fP (l.drop (l.length - 16)) ∧ s = fS (l.drop (l.length - 16)) ∧ e = fE (l.drop (l.length - 16))) ∨ (state l ≠ 1 ∧ u = .val (.slice none 0 0) ∧ m = [] ∧ k = 0 ∧ p = 0 ∧ s = 0 ∧ e = 0)) := by
  rcases h.2 with ⟨h1, u, h2, h3, h4⟩ | ⟨h1, h2⟩
  · exact ⟨u, _, _, _, _, _, by rw [h2, h1]; rfl, h3, h4, .inl ⟨h1, rfl, rfl, rfl, rfl, rfl⟩⟩
  · exact ⟨_, [], 0, 0, 0, 0, h2, .inl ⟨rfl, rfl⟩, fun c h => h.elim, .inr ⟨h1, rfl, rfl, rfl, rfl, rfl, rfl⟩⟩

/-- A page that was laid, read: its data and tag. -/
theorem read_laid {M N : Mem} {d : List (BitVec 8)} {k p s e : Int} {y : AV} (hok : okL d k p s e = true) (h : ReadPost M (laid d k p s e) y N) :
    ∃ u, y = .tup [u, tagA k p s e, i64 1] ∧ Gr N u d ∧ ∀ c, inBlk u c → M.next ≤ c := by
  have hs := laid_state hok
  rcases h.2 with ⟨h1, u, h2, h3, h4⟩ | ⟨h1, h2⟩
  · rw [laid_drop] at h2
    unfold okL at hok
    rw [Bool.and_eq_true] at hok
    obtain ⟨f1, f2, f3, f4⟩ := tail16_fields (c := more 0#32 (body d k p s e)) hok.2
    rw [f1, f2, f3, f4] at h2
    rw [laid_take] at h3
    exact ⟨u, h2, h3, h4⟩
  · exact absurd hs h1

end Go.Proofs.Ytpfifmemkbddjaa
