import Derived.Test.YtjffimbigamadaaH11
import Derived.Test.YtjffimbigamadaaL2
set_option linter.unusedSimpArgs false
set_option linter.unusedVariables false
set_option linter.unusedSectionVars false
/- Arguments that are pages to be programmed. -/
namespace Go.Proofs.Ytjffimbigamadaa
open Go.AM
open Go.ChangeShapes Go.WideShapes Go.RowKit
theorem put_of {r : List Value} (h : Fits [.i64, .i64, .u8, .i64, .i64, .i64, .i64, .i64] r) : ∃ x : Put, ofVs r = putC x := by
  match r, Fits.length h with
  | [v1, v2, v3, v4, v5, v6, v7, v8], _ =>
    obtain ⟨h1, h2, h3, h4, h5, h6, h7, h8, _⟩ := h
    obtain ⟨z1, rfl, _⟩ := h1
    obtain ⟨z2, rfl, _⟩ := h2
    obtain ⟨b3, rfl⟩ := h3
    obtain ⟨z4, rfl, _⟩ := h4
    obtain ⟨z5, rfl, _⟩ := h5
    obtain ⟨z6, rfl, _⟩ := h6
    obtain ⟨z7, rfl, _⟩ := h7
    obtain ⟨z8, rfl, _⟩ := h8
    exact ⟨⟨z1, z2, b3, ⟨z4, z5, z6, z7⟩, z8⟩, rfl⟩

def putK : List FK := [.i64, .i64, .u8, .i64, .i64, .i64, .i64, .i64]
theorem rows_puts : ∀ rows : List (List Value), (∀ r ∈ rows, Fits putK r) → ∃ xs : List Put, xs.length = rows.length ∧ (rows.flatMap fun r => ofVs r) = xs.flatMap putC
  | [], _ => ⟨[], rfl, rfl⟩
  | r :: rows, h => by
    obtain ⟨xs, g1, g2⟩ := rows_puts rows fun r' hr => h r' (List.mem_cons_of_mem _ hr)
    obtain ⟨a, g4⟩ := put_of (h r List.mem_cons_self)
    exact ⟨a :: xs, by rw [List.length_cons, List.length_cons, g1], by rw [List.flatMap_cons, List.flatMap_cons, g2, g4]⟩

/-- An argument that is pages to be programmed. -/
theorem puts_arg {H : Type} {enc : TypeId × Value → H} {P : Program} {W : World} {t e : TypeId} (ht : P.underlying t = some (.slice e)) (hl : leafsB P 20 e = some putK) (hc : P.cellsOf e = putK.length) {base : Nat} {v : Value} {d : DataW H} {ps : List MemPlace}
    (hval : Value.okWide P W .any base t v) (hd : DataW.Trod enc P W 0 (fun _ => true) true t v d ps) :
    ∃ (x : AV) (xs : List Put), VR (injOf W) x v ∧ PutsAt (memOf W) x xs := by
  obtain ⟨x, rows, h1, h2, h3, h4⟩ := structs_arg ht hl hc (Nat.zero_lt_succ _) hval hd
  obtain ⟨xs, g1, g2⟩ := rows_puts rows h4
  refine ⟨x, xs, h1, ?_⟩
  unfold PutsAt
  rw [g1, ← g2]
  exact h2

end Go.Proofs.Ytjffimbigamadaa
