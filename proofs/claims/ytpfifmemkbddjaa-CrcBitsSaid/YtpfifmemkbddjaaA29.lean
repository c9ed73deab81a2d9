/- The abstract machine, part 29: make, append, slice expressions over slices of integers. -/
import Derived.Test.YtpfifmemkbddjaaA28
set_option linter.unusedVariables false
set_option linter.unusedSimpArgs false
namespace Go.AM

theorem repA_one {α : Type} (z : α) : ∀ n, repA n [z] = List.replicate n z
  | 0 => rfl
  | n + 1 => by rw [repA_succ, repA_one z n, List.replicate_succ]; rfl

section
variable {T : Tab} {M : Mem} {k ki : IntKind} {x : AV} {zs : List Int} {t e : TypeId} {z : List Value} {bts eb : Nat} {q q' : Option (List Nat)}

theorem make_ints {c : Nat} (ht : T.ty.get t = some ⟨.sli e, 1, bts, z, q⟩) (he : T.ty.get e = some ⟨.int ki, 1, eb, [.int ki 0], q'⟩) {l : Nat} (hlc : l ≤ c) (hb : eb * c ≤ 281474976710656) (hc : c < 4611686018427387904)
    {k1 k2 : IntKind} : evMakeSlice T t (.val (.int k1 (l : Int))) (.val (.int k2 (c : Int))) M = some (.sl M.next 0 l c none, M.new (.cells (List.replicate c (.val (.int ki 0))) true)) := by
  unfold evMakeSlice
  rw [ht]
  simp only
  rw [he]
  have h1 : decide (0 ≤ (l : Int)) = true := by simp
  have h2 : decide ((l : Int) ≤ (c : Int)) = true := by simpa using hlc
  have h3 : decide ((eb : Int) * (c : Int) ≤ 281474976710656) = true := by
    rw [decide_eq_true_eq]
    have : ((eb * c : Nat) : Int) ≤ 281474976710656 := by omega
    simpa using this
  have h4 : decide ((c : Int) < 4611686018427387904) = true := by
    rw [decide_eq_true_eq]; omega
  simp only [h1, h2, h3, h4, cond_true, Int.toNat_natCast, ofVs, ofV, repA_one]

theorem IntsAt.evLen (h : IntsAt M k x zs) : evLen x = some zs.length := by
  rcases h with ⟨rfl, rfl⟩ | ⟨b, o, c, cs, rw, rfl, _⟩
  · rfl
  · rfl

theorem IntsAt.evFirst (h : IntsAt M k x zs) : evFirst 1 zs.length x M = some (intsA k zs) := by
  rcases h with ⟨rfl, rfl⟩ | ⟨b, o, c, cs, rw', rfl, h2, h3, h4, h5, h6⟩
  · rfl
  · unfold AM.evFirst
    have e1 : Nat.ble zs.length zs.length = true := by simp
    simp only [e1, cond_true, Nat.mul_one]
    by_cases h0 : zs.length = 0
    · have e2 : Nat.beq zs.length 0 = true := by simpa using h0
      rw [e2, cond_true]
      have : zs = [] := List.eq_nil_of_length_eq_zero h0
      subst this; rfl
    · have e2 : Nat.beq zs.length 0 = false := by
        cases hb : Nat.beq zs.length 0 with
        | true => exact absurd (Nat.eq_of_beq_eq_true hb) h0
        | false => rfl
      rw [e2, cond_false]
      unfold Mem.cellsAt
      rw [h4]
      have e3 : Nat.ble (o + zs.length) cs.length = true := by
        rw [Nat.ble_eq]
        rcases h5 with h | h
        · exact absurd h h0
        · exact h
      simp only [e3, cond_true, h6]

theorem beq_false {a b : Nat} (h : a ≠ b) : Nat.beq a b = false := by
  cases hb : Nat.beq a b with
  | true => exact absurd (Nat.eq_of_beq_eq_true hb) h
  | false => rfl

theorem ones_ints (k : IntKind) : ∀ zs : List Int, ones (intsA k zs) = true
  | [] => rfl
  | z :: zs => by
    show ones (AV.val (.int k z) :: intsA k zs) = true
    unfold ones
    simp only [AV.one, cond_true, ones_ints k zs]

/-- An append for which there is room. -/
theorem append_room (ht : T.ty.get t = some ⟨.sli e, 1, bts, z, q⟩) (he : T.ty.get e = some ⟨.int ki, 1, eb, [.int ki 0], q'⟩) (h : IntsAt M k x zs) (hne : zs ≠ []) {b o len cap : Nat} {ex : Option Nat} {cs : List AV}
    (hfit : len + zs.length ≤ cap) (hg : M.get b = some (.cells cs true)) (hcs : o + len + zs.length ≤ cs.length) :
    evAppend T t t (.sl b o len cap ex) x M = some (.sl b o (len + zs.length) cap ex, M.put b (.cells (setAt cs (o + len) (intsA k zs)) true)) := by
  have hn : zs.length ≠ 0 := fun h0 => hne (List.eq_nil_of_length_eq_zero h0)
  unfold evAppend isInt
  rw [ht]
  simp only
  rw [he]
  simp only [h.evLen, h.evFirst, intsA_length, Nat.mul_one]
  have e1 : Nat.beq zs.length zs.length = true := by simp
  have e2 : Nat.ble (len + zs.length) cap = true := by simpa using hfit
  simp only [e1, e2, cond_true, beq_false hn, cond_false]
  unfold Mem.storeAt
  rw [hg]
  have e3 : Nat.ble (o + len + (intsA k zs).length) cs.length = true := by rw [intsA_length]; simpa using hcs
  simp only [e3, cond_true, ones_ints, Option.map_some]

/-- Nothing is appended where there is room. -/
theorem append_none (ht : T.ty.get t = some ⟨.sli e, 1, bts, z, q⟩) (he : T.ty.get e = some ⟨.int ki, 1, eb, [.int ki 0], q'⟩) (h : IntsAt M k x []) {b o len cap : Nat} {ex : Option Nat} (hfit : len ≤ cap) :
    evAppend T t t (.sl b o len cap ex) x M = some (.sl b o len cap ex, M) := by
  have h1 := h.evLen
  have h2 := h.evFirst
  simp only [List.length_nil] at h1 h2
  unfold evAppend isInt
  rw [ht]
  simp only
  rw [he]
  simp only [h1, h2, intsA, List.map_nil, List.length_nil, Nat.zero_mul, Nat.add_zero]
  have e2 : Nat.ble len cap = true := by simpa using hfit
  have e1 : Nat.beq 0 0 = true := rfl
  simp only [e1, e2, cond_true]

theorem bndV_nat {k : IntKind} {l hi : Nat} (h : l ≤ hi) : bndV (.val (.int k (l : Int))) hi = some l := by
  unfold bndV
  have h1 : decide (0 ≤ (l : Int)) = true := by simp
  have h2 : Nat.ble l hi = true := by simpa using h
  simp only [h1, cond_true, Int.toNat_natCast, h2]

/-- x[l:h], the capacity known. -/
theorem slice_both (ht : T.ty.get t = some ⟨.sli e, 1, bts, z, q⟩) (he : T.ty.get e = some ⟨.int ki, 1, eb, [.int ki 0], q'⟩) {b o n c l h : Nat} (h1 : l ≤ h) (h2 : h ≤ c) {k1 k2 : IntKind} :
    evSliceAt T t (.sl b o n c none) (some (.val (.int k1 (l : Int)))) (some (.val (.int k2 (h : Int)))) none = some (.sl b (cond (Nat.beq c l) o (o + l)) (h - l) (c - l) none) := by
  unfold evSliceAt evSlice
  rw [ht]
  simp only
  rw [he]
  simp only [sliceB, bndV_nat h1, bndV_nat h2, Nat.mul_one]

end

end Go.AM
