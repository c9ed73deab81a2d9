/- The abstract machine, part 23: calls reckoned out. -/
import Derived.Test.YtpfifmemkbddjaaA22
set_option linter.unusedVariables false
set_option linter.unusedSimpArgs false
namespace Go.AM

abbrev Orc := FuncId → Option (List AV → Mem → Option (AV × Mem))

def evalF (T : Tab) (orc : Orc) (L : Nat) : Nat → CallF
  | 0, _, _, _ => none
  | n + 1, g, args, M => match orc g with
    | some f => f args M
    | none => match T.fn.get g with
      | none => none
      | some F => match F.body with
        | none => none
        | some c => match evalC T (evalF T orc L n) L c (enterA F args M) with
          | some (.normal, st) => match resultA T F st with
            | some x => some (x, st.m)
            | none => none
          | some (.ret, st) => match resultA T F st with
            | some x => some (x, st.m)
            | none => none
          | _ => none

def FnsOk (T : Tab) : Prop := ∀ (f : FuncId) (F : Func), T.fn.get f = some F → ∀ c, F.body = some c → CodeOk T F.ntmps c

def OrcOk (T : Tab) (orc : Orc) : Prop := ∀ (g : FuncId) (f : List AV → Mem → Option (AV × Mem)), orc g = some f → ∀ (args : List AV) (M : Mem) (x : AV) (M' : Mem), f args M = some (x, M') →
  CallA T.P g args M (fun y N => y = x ∧ N = M')

def noOrc : Orc := fun _ => none
theorem noOrc_ok (T : Tab) : OrcOk T noOrc := fun _ _ h => by cases h

theorem evalF_ok {T : Tab} (ok : T.Ok) (hmix : T.P.follows .mixedOrders = true) (fns : FnsOk T) {orc : Orc} (ho : OrcOk T orc) {L : Nat} : ∀ (n : Nat) (g : FuncId) (args : List AV) (M : Mem) (x : AV) (M' : Mem),
    evalF T orc L n g args M = some (x, M') → CallA T.P g args M (fun y N => y = x ∧ N = M')
  | 0, g, args, M, x, M', h => by simp [evalF] at h
  | n + 1, g, args, M, x, M', h => by
    unfold evalF at h
    split at h
    · rename_i f hf
      exact ho g f hf args M x M' h
    · split at h
      · cases h
      · rename_i F hF
        split at h
        · cases h
        · rename_i c hc
          have hn : F.ntmps ≤ (enterA F args M).n := by simp only [enterA]; omega
          have hcall : CallsOk T (evalF T orc L n) := fun g F args M x M' _ h => evalF_ok ok hmix fns ho n g args M x M' h
          split at h
          · rename_i st hst
            split at h
            · rename_i y hy
              injection h with h; injection h with h1 h2; subst h1 h2
              refine calla_body ok hF hc ((evalC_ok ok hmix hcall L (fns g F hF c hc) hn hst).1 _ ⟨.inl rfl, y, hy, rfl, rfl⟩)
            · cases h
          · rename_i st hst
            split at h
            · rename_i y hy
              injection h with h; injection h with h1 h2; subst h1 h2
              refine calla_body ok hF hc ((evalC_ok ok hmix hcall L (fns g F hF c hc) hn hst).1 _ ⟨.inr rfl, y, hy, rfl, rfl⟩)
            · cases h
          · cases h

end Go.AM
