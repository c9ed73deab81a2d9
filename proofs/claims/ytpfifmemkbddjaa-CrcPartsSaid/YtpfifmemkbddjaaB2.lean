/- The laws' arguments: numbers, truth values, structs of numbers. -/
import Derived.Test.YtpfifmemkbddjaaB1
set_option linter.unusedVariables false
namespace Go.AM
open Go.ChangeShapes Go.WideShapes Go.RowKit
set_option linter.unusedSimpArgs false

theorem memOf_wf (W : World) : (memOf W).WF := fun b r h => by
  rw [memOf_get] at h
  obtain ⟨o, h1, _⟩ := Option.bind_eq_some_iff.1 h
  exact (Array.getElem?_eq_some_iff.1 h1).1

theorem bv_of {n : Nat} {z : Int} (h0 : 0 ≤ z) (h : z < 2 ^ n) : ∃ b : BitVec n, z = (b.toNat : Int) := by
  refine ⟨BitVec.ofNat n z.toNat, ?_⟩
  rw [BitVec.toNat_ofNat, Nat.mod_eq_of_lt]
  · omega
  · have : (z.toNat : Int) < ((2 ^ n : Nat) : Int) := by rw [Int.toNat_of_nonneg h0]; simpa using h
    exact Int.ofNat_lt.1 this

section
variable {H : Type} {enc : TypeId × Value → H} {P : Program} {W : World} {base : Nat} {t : TypeId} {v : Value} {d : DataW H} {ps : List MemPlace}

theorem cell_int {u : TypeId} {k : IntKind} (ht : P.underlying u = some (.int k)) (h : Cell.okWide P W .any base u v) : ∃ z, v = .int k z ∧ k.min ≤ z ∧ z ≤ k.max := by
  unfold Cell.okWide at h
  rw [ht] at h
  cases v <;> simp only [Cell.ok, ht] at h <;> try exact h.elim
  obtain ⟨rfl, h⟩ := h
  exact ⟨_, rfl, h.1, h.2⟩

theorem int_arg {k : IntKind} (ht : P.underlying t = some (.int k)) (hval : Value.okWide P W .any base t v) : ∃ z, v = .int k z ∧ k.min ≤ z ∧ z ≤ k.max := by
  unfold Value.okWide at hval
  rw [ht] at hval
  exact cell_int ht hval

theorem bv_arg {k : IntKind} {n : Nat} (hk : k.min = 0) (hk2 : k.max < 2 ^ n) (ht : P.underlying t = some (.int k)) (hval : Value.okWide P W .any base t v) : ∃ b : BitVec n, v = .int k (b.toNat : Int) := by
  obtain ⟨z, rfl, h1, h2⟩ := int_arg ht hval
  obtain ⟨b, hb⟩ := bv_of (n := n) (z := z) (by omega) (by omega)
  exact ⟨b, by rw [hb]⟩

theorem bool_arg (ht : P.underlying t = some .bool) (hval : Value.okWide P W .any base t v) : ∃ b, v = .bool b := by
  unfold Value.okWide at hval
  rw [ht] at hval
  unfold Cell.okWide at hval
  rw [ht] at hval
  cases v <;> simp only [Cell.ok, ht] at hval <;> first | exact ⟨_, rfl⟩ | exact hval.elim

def isSt : Option TypeDesc → Bool
  | some (.struct _) => true
  | _ => false

/-- A struct's cells. -/
theorem agg_arg {ts : List TypeId} (hs : isSt (P.underlying t) = true) (hts : P.cellTypes P.depth t = some ts) (hc : P.cellsOf t = ts.length) (hval : Value.okWide P W .any base t v) :
    ∃ cs : List Value, v = .agg ⟨cs⟩ ∧ cs.length = ts.length ∧ ∀ (i : Nat) (u : TypeId) (x : Value), ts[i]? = some u → cs[i]? = some x → Cell.okWide P W .any base u x := by
  obtain ⟨fs, hs⟩ : ∃ fs, P.underlying t = some (.struct fs) := by
    unfold isSt at hs
    split at hs
    · rename_i fs hu; exact ⟨fs, hu⟩
    · cases hs
  unfold Value.okWide at hval
  rw [hs] at hval
  obtain ⟨⟨cs⟩, rfl, h1, ts', h2, _, h3⟩ := hval
  rw [hts] at h2
  injection h2 with h2
  subst h2
  have hl : cs.length = ts.length := by rw [← hc, ← h1]; rfl
  refine ⟨cs, rfl, hl, fun i u x hu hx => ?_⟩
  obtain ⟨u', g1, g2⟩ := h3 i x (by simpa using hx)
  have hi : i < ts.length := by
    rcases Nat.lt_or_ge i ts.length with h | h
    · exact h
    · rw [List.getElem?_eq_none h] at hu; cases hu
  rw [Nat.mod_eq_of_lt hi, hu] at g1
  injection g1 with g1
  subst g1
  exact g2

def isI64 : Option TypeDesc → Bool
  | some (.int .i64) => true
  | _ => false
theorem isI64_ok : ∀ {d : Option TypeDesc}, isI64 d = true → d = some (.int .i64)
  | some (.int .i64), _ => rfl

/-- A struct of numbers. -/
theorem ints_agg {ts : List TypeId} (hs : isSt (P.underlying t) = true) (hts : P.cellTypes P.depth t = some ts) (hc : P.cellsOf t = ts.length) (hi : ts.all (fun u => isI64 (P.underlying u)) = true)
    (hval : Value.okWide P W .any base t v) : ∃ zs : List Int, v = .agg ⟨zs.map fun z => .int .i64 z⟩ ∧ zs.length = ts.length ∧ ∀ z ∈ zs, -9223372036854775808 ≤ z ∧ z ≤ 9223372036854775807 := by
  obtain ⟨cs, rfl, h1, h2⟩ := agg_arg hs hts hc hval
  have key : ∀ (cs : List Value) (ts : List TypeId), cs.length = ts.length → ts.all (fun u => isI64 (P.underlying u)) = true → (∀ (i : Nat) (u : TypeId) (x : Value), ts[i]? = some u → cs[i]? = some x → Cell.okWide P W .any base u x) →
      ∃ zs : List Int, cs = (zs.map fun z => .int .i64 z) ∧ zs.length = ts.length ∧ ∀ z ∈ zs, -9223372036854775808 ≤ z ∧ z ≤ 9223372036854775807 := by
    intro cs
    induction cs with
    | nil => intro ts h _ _; cases ts with
      | nil => exact ⟨[], rfl, rfl, by simp⟩
      | cons _ _ => simp at h
    | cons c cs ih =>
      intro ts h hi h2
      cases ts with
      | nil => simp at h
      | cons u ts =>
        rw [List.all_cons, Bool.and_eq_true] at hi
        obtain ⟨z, rfl, g1, g2⟩ := cell_int (isI64_ok hi.1) (h2 0 u c rfl rfl)
        obtain ⟨zs, rfl, g3, g4⟩ := ih ts (by simpa using h) hi.2 (fun i u x hu hx => h2 (i + 1) u x (by simpa using hu) (by simpa using hx))
        have e1 : IntKind.i64.min = -9223372036854775808 := rfl
        have e2 : IntKind.i64.max = 9223372036854775807 := rfl
        refine ⟨z :: zs, rfl, by simp [g3], fun y hy => ?_⟩
        simp only [List.mem_cons] at hy
        rcases hy with rfl | hy
        · omega
        · exact g4 y hy
  obtain ⟨zs, rfl, g1, g2⟩ := key cs ts h1 hi h2
  exact ⟨zs, rfl, g1, g2⟩
end

theorem vr_ints {ι : Inj} {k : IntKind} (zs : List Int) : VRs ι (intsA k zs) (zs.map fun z => Value.int k z) := by
  induction zs with
  | nil => exact .nil
  | cons z zs ih => exact .cons _ _ _ _ (.val _ rfl) ih
theorem vr_agg {ι : Inj} {k : IntKind} (zs : List Int) : VR ι (.agg (intsA k zs)) (.agg ⟨zs.map fun z => Value.int k z⟩) := .agg _ _ (vr_ints zs)

end Go.AM
