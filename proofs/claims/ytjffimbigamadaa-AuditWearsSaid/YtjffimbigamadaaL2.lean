import Derived.Test.YtjffimbigamadaaG21
set_option linter.unusedSimpArgs false
set_option linter.unusedVariables false
set_option linter.unusedSectionVars false
/- Arguments that are faults. -/
namespace Go.Proofs.Ytjffimbigamadaa
open Go.AM
open Go.ChangeShapes Go.WideShapes Go.RowKit

theorem flt_of {r : List Value} (h : Fits [.i64, .bool, .i64] r) : ∃ f : Flt, ofVs r = fltC f := by
  match r, Fits.length h with
  | [v1, v2, v3], _ =>
    obtain ⟨h1, h2, h3, _⟩ := h
    obtain ⟨z1, rfl, _⟩ := h1
    obtain ⟨b2, rfl⟩ := h2
    obtain ⟨z3, rfl, _⟩ := h3
    exact ⟨⟨z1, b2, z3⟩, rfl⟩

def fltK : List FK := [.i64, .bool, .i64]
theorem rows_flts : ∀ rows : List (List Value), (∀ r ∈ rows, Fits fltK r) → ∃ xs : List Flt, xs.length = rows.length ∧ (rows.flatMap fun r => ofVs r) = xs.flatMap fltC
  | [], _ => ⟨[], rfl, rfl⟩
  | r :: rows, h => by
    obtain ⟨xs, g1, g2⟩ := rows_flts rows fun r' hr => h r' (List.mem_cons_of_mem _ hr)
    obtain ⟨a, g4⟩ := flt_of (h r List.mem_cons_self)
    exact ⟨a :: xs, by rw [List.length_cons, List.length_cons, g1], by rw [List.flatMap_cons, List.flatMap_cons, g2, g4]⟩

/-- An argument that is faults. -/
theorem flts_arg {H : Type} {enc : TypeId × Value → H} {P : Program} {W : World} {t e : TypeId} (ht : P.underlying t = some (.slice e)) (hl : leafsB P 20 e = some fltK) (hc : P.cellsOf e = fltK.length) {base : Nat} {v : Value} {d : DataW H} {ps : List MemPlace}
    (hval : Value.okWide P W .any base t v) (hd : DataW.Trod enc P W 0 (fun _ => true) true t v d ps) :
    ∃ (x : AV) (xs : List Flt), VR (injOf W) x v ∧ FltsAt (memOf W) x xs ∧ xs.length ≤ 9223372036854775807 := by
  obtain ⟨x, rows, h1, h2, h3, h4⟩ := structs_arg ht hl hc (Nat.zero_lt_succ _) hval hd
  obtain ⟨xs, g1, g2⟩ := rows_flts rows h4
  refine ⟨x, xs, h1, ?_, by rw [g1]; exact h3⟩
  unfold FltsAt
  rw [g1, ← g2]
  exact h2

end Go.Proofs.Ytjffimbigamadaa
