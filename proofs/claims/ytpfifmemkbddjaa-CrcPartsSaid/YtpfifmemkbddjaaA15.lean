/- The abstract machine, part 15: a region whose order is open. -/
import Derived.Test.YtpfifmemkbddjaaA14
set_option linter.unusedVariables false
set_option linter.unusedSimpArgs false
namespace Go.AM

/-! ## Which operation comes ahead of which -/

def bindsB (e : Edge) : Bool := Region.binds .any e

def mk1 (acc : List Nat) (es : List Edge) : Nat := es.foldl (fun s e => cond (bindsB e) (s ||| (2 ^ e.on ||| acc.getD e.on 0)) s) 0

def masks : List Oper → List Nat → List Nat
  | [], acc => acc
  | o :: r, acc => masks r (acc ++ [mk1 acc o.after.toList])

def bf (ms : List Nat) (j i : Nat) : Bool := (ms.getD i 0).testBit j

theorem masks_pre : ∀ (ops : List Oper) (acc : List Nat) (j : Nat), j < acc.length → (masks ops acc).getD j 0 = acc.getD j 0
  | [], _, _, _ => rfl
  | o :: r, acc, j, h => by
    rw [masks, masks_pre r _ j (by simp; omega)]
    simp [List.getD, List.getElem?_append_left h]

theorem masks_get : ∀ (ops : List Oper) (acc : List Nat) (i : Nat) (o : Oper), ops[i]? = some o →
    ∃ acc', acc'.length = acc.length + i ∧ (∀ j, j < acc.length + i → acc'.getD j 0 = (masks ops acc).getD j 0) ∧ (masks ops acc).getD (acc.length + i) 0 = mk1 acc' o.after.toList
  | [], acc, i, o, h => by simp at h
  | p :: r, acc, 0, o, h => by
    simp only [List.getElem?_cons_zero, Option.some.injEq] at h
    subst h
    refine ⟨acc, rfl, fun j hj => ?_, ?_⟩
    · rw [masks_pre _ _ j (by omega)]
    · rw [masks, masks_pre r _ _ (by simp)]
      simp [List.getD]
  | p :: r, acc, i + 1, o, h => by
    simp only [List.getElem?_cons_succ] at h
    obtain ⟨acc', h1, h2, h3⟩ := masks_get r (acc ++ [mk1 acc p.after.toList]) i o h
    simp only [List.length_append, List.length_cons, List.length_nil] at h1 h2 h3
    refine ⟨acc', by omega, fun j hj => ?_, ?_⟩
    · rw [masks]; exact h2 j (by omega)
    · rw [masks, show acc.length + (i + 1) = acc.length + (0 + 1) + i by omega]; exact h3

theorem mk1_bit (acc : List Nat) (j : Nat) : ∀ (es : List Edge) (s : Nat), (es.foldl (fun s e => cond (bindsB e) (s ||| (2 ^ e.on ||| acc.getD e.on 0)) s) s).testBit j = true →
    s.testBit j = true ∨ ∃ e ∈ es, bindsB e = true ∧ (e.on = j ∨ (acc.getD e.on 0).testBit j = true)
  | [], s, h => .inl h
  | e :: es, s, h => by
    simp only [List.foldl_cons] at h
    rcases mk1_bit acc j es _ h with h1 | ⟨e', h1, h2⟩
    · cases hb : bindsB e with
      | false => rw [hb] at h1; exact .inl h1
      | true =>
        rw [hb] at h1
        simp only [cond_true, Nat.testBit_or, Nat.testBit_two_pow, Bool.or_eq_true, decide_eq_true_eq] at h1
        rcases h1 with h1 | h1 | h1
        · exact .inl h1
        · exact .inr ⟨e, by simp, hb, .inl h1⟩
        · exact .inr ⟨e, by simp, hb, .inr h1⟩
    · exact .inr ⟨e', by simp [h1], h2⟩

/-- Edges lead back. -/
def Back (ops : List Oper) : Prop := ∀ i o, ops[i]? = some o → ∀ e ∈ o.after.toList, bindsB e = true → e.on < i

theorem bf_spec {ops : List Oper} (hb : Back ops) {i j : Nat} {o : Oper} (ho : ops[i]? = some o) (h : bf (masks ops []) j i = true) :
    ∃ e ∈ o.after.toList, bindsB e = true ∧ (e.on = j ∨ bf (masks ops []) j e.on = true) := by
  obtain ⟨acc', h1, h2, h3⟩ := masks_get ops [] i o ho
  simp only [List.length_nil, Nat.zero_add] at h1 h2 h3
  unfold bf at h
  rw [h3] at h
  rcases mk1_bit acc' j _ 0 h with h4 | ⟨e, h4, h5, h6⟩
  · simp at h4
  · refine ⟨e, h4, h5, h6.imp id fun h7 => ?_⟩
    unfold bf
    rw [← h2 e.on (hb i o ho e h4 h5)]
    exact h7

def Closed (ops : List Oper) (L : Nat → Bool) : Prop := ∀ i o, ops[i]? = some o → L i = true → ∀ e ∈ o.after.toList, bindsB e = true → L e.on = true

theorem closed_bf {ops : List Oper} (hb : Back ops) {L : Nat → Bool} (hc : Closed ops L) {j : Nat} : ∀ (i : Nat) (o : Oper), ops[i]? = some o → (∀ e ∈ o.after.toList, bindsB e = true → L e.on = true) →
    bf (masks ops []) j i = true → L j = true := by
  intro i
  induction i using Nat.strongRecOn with
  | _ i ih =>
    intro o ho hr h
    obtain ⟨e, h1, h2, h3⟩ := bf_spec hb ho h
    have hL := hr e h1 h2
    rcases h3 with rfl | h3
    · exact hL
    · have hlt := hb i o ho e h1 h2
      have hi : i < ops.length := by
        rcases Nat.lt_or_ge i ops.length with h' | h'
        · exact h'
        · rw [List.getElem?_eq_none h'] at ho; simp at ho
      obtain ⟨o', ho'⟩ : ∃ o', ops[e.on]? = some o' := ⟨ops[e.on]'(by omega), List.getElem?_eq_getElem (by omega)⟩
      exact ih e.on hlt o' ho' (hc e.on o' ho' hL) h3

theorem bf_lt {ops : List Oper} (hb : Back ops) {i j : Nat} {o : Oper} (ho : ops[i]? = some o) (h : bf (masks ops []) j i = true) : j < i := by
  have hi : i < ops.length := by
    rcases Nat.lt_or_ge i ops.length with h' | h'
    · exact h'
    · rw [List.getElem?_eq_none h'] at ho; simp at ho
  have := closed_bf hb (L := fun k => decide (k < i)) (j := j) (fun k o' ho' hk e he hbe => by
    have := hb k o' ho' e he hbe
    simp only [decide_eq_true_eq] at hk ⊢
    omega) i o ho (fun e he hbe => by simpa using hb i o ho e he hbe) h
  simpa using this

/-! ## What an operation looks at -/

def tmpsOf (o : Oper) : List Tmp := o.op.operands.toList.filterMap fun | .tmp t => some t | _ => none

def looks (ops : Array Oper) (o : Oper) : List Tmp :=
  tmpsOf o ++ (match o.guard with | some (g, _) => ((ops[g]?).bind (·.dst)).toList | none => [])

theorem opnd_congr {fr fr' : Tr AV} {o : Oper} (h : ∀ t ∈ tmpsOf o, fr.get t = fr'.get t) : ∀ x ∈ o.op.operands.toList, opnd fr x = opnd fr' x := by
  intro x hx
  cases x <;> try rfl
  rename_i t
  simp only [opnd]
  rw [h t (List.mem_filterMap.2 ⟨.tmp t, hx, rfl⟩)]

theorem wanted_congr {ops : Array Oper} {fr fr' : Tr AV} {o : Oper} (h : ∀ t ∈ looks ops o, fr.get t = fr'.get t) : wantedA ops fr o = wantedA ops fr' o := by
  unfold wantedA
  unfold looks at h
  split
  · rfl
  · rename_i j want hg
    rw [hg] at h
    simp only at h
    split
    · rfl
    · rename_i d hd
      rw [h d (by rw [hd]; simp)]

theorem map_congr' {α : Type} {f g : Operand → α} {l : List Operand} (h : ∀ x ∈ l, f x = g x) : l.map f = l.map g := List.map_congr_left h

theorem evalOp_congr (T : Tab) {fr fr' : Tr AV} {o : Oper} (h : ∀ x ∈ o.op.operands.toList, opnd fr x = opnd fr' x) (M : Mem) : evalOp T fr o M = evalOp T fr' o M := by
  obtain ⟨dst, op, type, pos, after, guard⟩ := o
  simp only at h
  unfold evalOp
  simp only
  have pairs : ∀ ps : Array (Nat × Operand), (∀ x ∈ ps.toList.map (·.2), opnd fr x = opnd fr' x) → (ps.toList.map fun p => (p.1, opnd fr p.2)) = (ps.toList.map fun p => (p.1, opnd fr' p.2)) := fun ps hp =>
    List.map_congr_left fun p hm => by rw [hp p.2 (List.mem_map.2 ⟨p, hm, rfl⟩)]
  cases op <;> simp only [Op.operands] at h <;> (try simp only) <;> try rfl
  case build t ps => rw [pairs ps (by simpa using h)]
  case buildSlice t n ps => rw [pairs ps (by simpa using h)]
  case makeFunc fn b c =>
    simp only [Array.toList_append, List.mem_append] at h
    cases fn <;> simp only
    rw [map_congr' (l := b.toList) fun x hx => h x (.inl hx), map_congr' (l := c.toList) fun x hx => h x (.inr hx)]
  case slice t x lo hi mx =>
    rw [h x (by simp)]
    have e1 : lo.map (opnd fr) = lo.map (opnd fr') := by cases lo with | none => rfl | some y => simp only [Option.map_some]; rw [h y (by simp)]
    have e2 : hi.map (opnd fr) = hi.map (opnd fr') := by cases hi with | none => rfl | some y => simp only [Option.map_some]; rw [h y (by simp)]
    have e3 : mx.map (opnd fr) = mx.map (opnd fr') := by cases mx with | none => rfl | some y => simp only [Option.map_some]; rw [h y (by simp)]
    rw [e1, e2, e3]
  case call c =>
    cases hc : c.callee with
    | value f => rfl
    | invoke r m => rfl
    | builtin b =>
      simp only [Call.operands, hc, Array.toList_append, List.mem_append] at h
      rw [map_congr' (l := c.args.toList) fun x hx => h x (.inr hx)]
  case makeMap t r => cases r <;> rfl
  all_goals
    simp only [List.mem_cons, List.not_mem_nil, or_false, forall_eq_or_imp, forall_eq] at h
    try simp only [h]
  case next x b => cases b <;> simp only [h]

theorem callee_congr {fr fr' : Tr AV} {o : Oper} (h : ∀ x ∈ o.op.operands.toList, opnd fr x = opnd fr' x) : calleeA fr o = calleeA fr' o := by
  unfold calleeA
  cases hop : o.op <;> simp only
  rename_i c
  rw [hop] at h
  cases hc : c.callee with
  | value f =>
    simp only [Op.operands, Call.operands, hc, Array.toList_append, List.mem_append] at h
    simp only
    rw [h f (.inl (by simp)), map_congr' (l := c.args.toList) fun x hx => h x (.inr hx)]
  | invoke r m => rfl
  | builtin b => rfl

end Go.AM
