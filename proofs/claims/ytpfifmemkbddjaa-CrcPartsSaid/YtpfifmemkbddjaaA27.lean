/- The abstract machine, part 27: arguments that are slices of integers; integers as bit vectors. -/
import Derived.Test.YtpfifmemkbddjaaA26
set_option linter.unusedVariables false
set_option linter.unusedSimpArgs false
namespace Go.AM
open Go.ChangeShapes Go.WideShapes Go.RowKit

def intsA (k : IntKind) (zs : List Int) : List AV := zs.map fun z => .val (.int k z)

@[simp] theorem intsA_length (k : IntKind) (zs : List Int) : (intsA k zs).length = zs.length := by simp [intsA]

/-- A slice that reads as these integers. -/
def IntsAt (M : Mem) (k : IntKind) (x : AV) (zs : List Int) : Prop :=
  (x = .val (.slice none 0 0) ∧ zs = []) ∨
  ∃ b o c cs rw, x = .sl b o zs.length c none ∧ zs.length ≤ c ∧ c ≤ 9223372036854775807 ∧ M.get b = some (.cells cs rw) ∧ (zs.length = 0 ∨ o + zs.length ≤ cs.length) ∧ (cs.drop o).take zs.length = intsA k zs

theorem IntsAt.cell {M : Mem} {k : IntKind} {b o n c : Nat} {ex : Option Nat} {zs : List Int} (h : IntsAt M k (.sl b o n c ex) zs) {i : Nat} (hi : i < zs.length) : M.cellAt b (o + i) = some (.val (.int k zs[i])) := by
  rcases h with ⟨h, _⟩ | ⟨b', o', c', cs, rw, h1, h2, h3, h4, h5, h6⟩
  · cases h
  · injection h1 with h1 h7 h8 h9 h10
    subst h1 h7
    unfold Mem.cellAt
    rw [h4]
    simp only
    have : (intsA k zs)[i]? = some (.val (.int k zs[i])) := by simp [intsA, hi]
    rw [← h6, List.getElem?_take, if_pos hi, List.getElem?_drop] at this
    exact this

theorem ofVs_get (l : List Value) (i : Nat) : (ofVs l)[i]? = (l[i]?).map ofV := by
  induction l generalizing i with
  | nil => simp [ofVs]
  | cons v l ih =>
    cases i with
    | zero => simp [ofVs]
    | succ i => simp [ofVs, ih]

section
variable {H : Type} {enc : TypeId × Value → H} {P : Program} {W : World}

theorem ints_arg {t e : TypeId} {k : IntKind} (ht : P.underlying t = some (.slice e)) (he : P.underlying e = some (.int k)) (hc : P.cellsOf e = 1) {base : Nat} {v : Value} {d : DataW H} {ps : List MemPlace}
    (hval : Value.okWide P W .any base t v) (hd : DataW.Trod enc P W 0 (fun _ => true) true t v d ps) :
    ∃ (x : AV) (zs : List Int), VR (injOf W) x v ∧ IntsAt (memOf W) k x zs ∧ zs.length ≤ 9223372036854775807 ∧ ∀ z ∈ zs, k.min ≤ z ∧ z ≤ k.max := by
  obtain ⟨fuel, hf⟩ := hd
  have hv1 : v.cells.toList = [v] := by
    unfold Value.okWide at hval
    rw [ht] at hval
    simp only at hval
    unfold Cell.okWide at hval
    rw [ht] at hval
    cases v <;> simp only [Cell.ok, ht] at hval <;> first | rfl | exact hval.elim
  rw [hv1] at hf
  rcases open_ints ht he hc hf with ⟨h1, _⟩ | ⟨a, len, cap, zs, h1, h2, h3, h4, h5, h6, h7, h8⟩
  · injection h1 with h1 _
    subst h1
    exact ⟨.val (.slice none 0 0), [], .val _ rfl, .inl ⟨rfl, rfl⟩, by simp, by simp⟩
  · injection h1 with h1 _
    subst h1
    have hhas : a.spot = none ∧ ∃ row cells, W.shape? a.block = some (row, cells) := by
      unfold Value.okWide at hval
      rw [ht] at hval
      simp only at hval
      unfold Cell.okWide at hval
      rw [ht] at hval
      simp only [Cell.ok, ht] at hval
      obtain ⟨_, _, _, hs, row, cells, hsh, _⟩ := hval
      exact ⟨hs, row, cells, hsh⟩
    obtain ⟨hs, row, cells, hsh⟩ := hhas
    obtain ⟨blk, off, spot⟩ := a
    simp only at hs
    subst hs
    simp only at h5 h7 hsh
    have hzl : zs.length = cap := by simpa using h5
    cases hob : W.heap[blk]? with
    | none => unfold World.shape? at hsh; rw [hob] at hsh; cases hsh
    | some ob =>
      cases ob with
      | cells c el fr =>
        have hcell : ∀ i, i < zs.length → c[off + i]? = some (.int k (zs.getD i 0)) := fun i hi => by
          have h := h7 i hi
          have : (Addr.add ⟨blk, off, none⟩ i) = ⟨blk, off + i, none⟩ := by
            unfold Addr.add
            split
            · rename_i h0; subst h0; rfl
            · rfl
          rw [this] at h
          unfold World.cell? at h
          simp only [hob, Option.isSome_none, Bool.false_eq_true, if_false] at h
          exact h
        have hsz : off + zs.length ≤ c.size ∨ zs.length = 0 := by
          rcases Nat.eq_zero_or_pos zs.length with h0 | h0
          · exact .inr h0
          · left
            have := hcell (zs.length - 1) (by omega)
            have := (Array.getElem?_eq_some_iff.1 this).1
            omega
        have hm : (memOf W).get blk = some (.cells (ofVs c.toList) false) := by rw [memOf_get, hob]; rfl
        have hsize : sizeOfObj (.cells c el fr) = c.size := rfl
        have hsz' : len = 0 ∨ off + zs.length ≤ c.size := by rcases hsz with h | h <;> omega
        have hta : (zs.take len).length = len := by simp; omega
        refine ⟨.sl blk off len cap none, zs.take len, ?_, .inr ⟨blk, off, cap, ofVs c.toList, false, ?_, ?_, h4, hm, ?_, ?_⟩, ?_, ?_⟩
        · have hl : injOf W blk = some ⟨blk, 0, c.size⟩ := by unfold injOf; rw [hob]; rfl
          have := VR.slE (ι := injOf W) blk off len cap _ hl
          simpa using this
        · rw [hta]
        · omega
        · rw [hta, ofVs_length, Array.length_toList]; omega
        · rw [hta]
          apply List.ext_getElem?
          intro i
          rw [List.getElem?_take]
          by_cases hi : i < len
          · rw [if_pos hi, List.getElem?_drop, ofVs_get, Array.getElem?_toList, hcell i (by omega)]
            simp only [intsA, List.getElem?_map, List.getElem?_take, if_pos hi, Option.map_some]
            rw [List.getD_eq_getElem?_getD, List.getElem?_eq_getElem (by omega)]
            rfl
          · rw [if_neg hi]
            symm
            exact List.getElem?_eq_none (by simp; omega)
        · rw [hta]
          have : maxLen = 9223372036854775807 := rfl
          omega
        · intro z hz
          have := h8 z (List.mem_of_mem_take hz)
          simpa [Lit.wf] using this
      | _ => unfold World.shape? at hsh; rw [hob] at hsh; cases hsh
end

end Go.AM
