/- The abstract machine, part 25: reasoning with values that are not known: what has to be shown of a piece of code, as a proposition. -/
import Derived.Test.YtpfifmemkbddjaaA24
set_option linter.unusedVariables false
set_option linter.unusedSimpArgs false
namespace Go.AM

/-- What one operation that is wanted has to come to. -/
def wO (T : Tab) (o : Oper) (st : St) (K : AV → Mem → Prop) : Prop :=
  caseO (calleeA st.t o) (fun c => bindO (T.fn.get c.1) fun _ => CallA T.P c.1 c.2 st.m K) (bindO (evalOp T st.t o st.m) fun r => K r.1 r.2)

def wL (T : Tab) (ops : Array Oper) : List Oper → St → (St → Prop) → Prop
  | [], st, K => K st
  | o :: rest, st, K => bindO (wantedA ops st.t o) fun b =>
      condB b (wO T o st fun x M' => bindO (putA { st with m := M' } o.dst x) fun st1 => wL T ops rest st1 K)
        (bindO (putA st o.dst undefA) fun st1 => wL T ops rest st1 K)

@[congr] theorem wL_congr {T : Tab} {ops : Array Oper} {l : List Oper} {st st' : St} {K : St → Prop} (h : ∀ _ : Unit, st = st') : wL T ops l st K = wL T ops l st' K := by rw [h ()]
@[congr] theorem wO_congr {T : Tab} {o : Oper} {st st' : St} {K : AV → Mem → Prop} (h : ∀ _ : Unit, st = st') : wO T o st K = wO T o st' K := by rw [h ()]
@[congr] theorem callA_congr {P : Program} {g : FuncId} {args args' : List AV} {M M' : Mem} {K : AV → Mem → Prop} (h : ∀ _ : Unit, args = args') (h' : ∀ _ : Unit, M = M') : CallA P g args M K = CallA P g args' M' K := by rw [h (), h' ()]
@[congr] theorem wpA_congr {P : Program} {c : Code} {st st' : St} {K : Ex → St → Prop} (h : ∀ _ : Unit, st = st') : WpA P c st K = WpA P c st' K := by rw [h ()]

theorem wL_ok {T : Tab} (ok : T.Ok) {ops : Array Oper} {Q : Ex → St → Prop} : ∀ {todo : List Oper} {st : St} {K : St → Prop}, (∀ s, K s → Q .normal s) → wL T ops todo st K → WpO T.P ops todo st Q
  | [], st, K, hk, h => wpo_nil (hk _ h)
  | o :: rest, st, K, hk, h => by
    unfold wL at h
    obtain ⟨b, hw, h⟩ := bindO_elim h
    cases b with
    | true =>
      rw [condB_true] at h
      unfold wO at h
      cases hcal : calleeA st.t o with
      | some c =>
        obtain ⟨g, args⟩ := c
        rw [hcal, caseO_some] at h
        obtain ⟨F, hF, h⟩ := bindO_elim h
        refine wpo_call ok hw hcal hF (h.mono fun x M' hx => ?_)
        obtain ⟨st1, hp, hx⟩ := bindO_elim hx
        exact ⟨st1, hp, wL_ok ok hk hx⟩
      | none =>
        rw [hcal, caseO_none] at h
        obtain ⟨⟨x, M'⟩, hx, h⟩ := bindO_elim h
        obtain ⟨st1, hp, h⟩ := bindO_elim h
        exact wpo_op ok hw hx hp (wL_ok ok hk h)
    | false =>
      rw [condB_false] at h
      obtain ⟨st1, hp, h⟩ := bindO_elim h
      exact wpo_skip hw hp (wL_ok ok hk h)

def wC (T : Tab) : Code → St → (Ex → St → Prop) → Prop
  | .skip, st, Q => Q .normal st
  | .label _, st, Q => Q .normal st
  | .region id ops d, st, Q => match d with
    | false => wL T ops ops.toList st (Q .normal)
    | true => WpA T.P (.region id ops true) st Q
  | .seq a b, st, Q => wC T a st (andThen (fun s => wC T b s Q) Q)
  | .cond x a b, st, Q => bindO (asB (opnd st.t x)) fun v => (v = true → wC T a st Q) ∧ (v = false → wC T b st Q)
  | .block id b, st, Q => wC T b st (onExit id Q)
  | .exit i, st, Q => Q (.exit i) st
  | .goto l, st, Q => Q (.goto l) st
  | .ret, st, Q => Q .ret st
  | c, st, Q => WpA T.P c st Q

@[congr] theorem wC_congr {T : Tab} {c : Code} {st st' : St} {K : Ex → St → Prop} (h : ∀ _ : Unit, st = st') : wC T c st K = wC T c st' K := by rw [h ()]

theorem asB_bool {x : AV} {v : Bool} (h : asB x = some v) : x = .val (.bool v) := by
  unfold asB at h
  split at h
  · injection h with h; rw [h]
  · cases h

theorem wC_ok {T : Tab} (ok : T.Ok) : ∀ {c : Code} {st : St} {Q : Ex → St → Prop}, wC T c st Q → WpA T.P c st Q := by
  intro c
  induction c <;> intro st Q h
  case skip => exact wpa_skip h
  case label => exact wpa_label h
  case exit => exact wpa_exit h
  case goto => exact wpa_goto h
  case ret => exact wpa_ret h
  case region id ops d =>
    cases d with
    | false => exact wpa_region (wL_ok ok (fun _ h => h) h)
    | true => exact h
  case seq a b iha ihb =>
    refine wpa_seq (wpa_mono (iha h) ?_)
    intro ex st' hq
    cases ex with
    | normal => exact ihb hq
    | _ => exact hq
  case cond x a b iha ihb =>
    unfold wC at h
    obtain ⟨v, hv, h⟩ := bindO_elim h
    refine wpa_cond (asB_bool hv) ?_
    cases v with
    | true => exact iha (h.1 rfl)
    | false => exact ihb (h.2 rfl)
  case block id b ih => exact wpa_block (ih h)
  case loop => exact h
  case scope => exact h
  case rangeFunc => exact h
  case refuse => exact h

def retQ (T : Tab) (F : Func) (Q : AV → Mem → Prop) : Ex → St → Prop
  | .normal, st => bindO (resultA T F st) fun x => Q x st.m
  | .ret, st => bindO (resultA T F st) fun x => Q x st.m
  | _, _ => False

/-- A function's body. -/
theorem calla_wC {T : Tab} (ok : T.Ok) {f : FuncId} {F : Func} {c : Code} (hf : T.fn.get f = some F) (hb : F.body = some c) {args : List AV} {M : Mem} {Q : AV → Mem → Prop}
    (h : wC T c (enterA F args M) (retQ T F Q)) : CallA T.P f args M Q := by
  refine calla_body ok hf hb (wpa_mono (wC_ok ok h) ?_)
  intro ex st hq
  cases ex with
  | normal =>
    obtain ⟨x, hx, hq⟩ := bindO_elim hq
    exact ⟨.inl rfl, x, hx, hq⟩
  | ret =>
    obtain ⟨x, hx, hq⟩ := bindO_elim hq
    exact ⟨.inr rfl, x, hx, hq⟩
  | exit i => exact hq.elim
  | goto i => exact hq.elim

/-- A loop, by what holds at each round's start and a number that falls. -/
theorem wC_loop {T : Tab} (ok : T.Ok) {b : Code} {st : St} {Q : Ex → St → Prop} (I : St → Prop) (μ : St → Nat) (h0 : I st) (hr : ∀ st, I st → wC T b st (andThen (fun st' => I st' ∧ μ st' < μ st) Q)) :
    WpA T.P (.loop b) st Q := wpa_loop I μ h0 fun st h => wC_ok ok (hr st h)

/-- What is called leaves memory as it is, but for what is new and is forgotten. -/
theorem calla_forget {P : Program} {f : FuncId} {args : List AV} {M : Mem} {x : Value} (hx : x.uno = true) (hargs : ∀ ι vs, VRs ι args vs → VRs (fun _ => none) args vs)
    (h : CallA P f args ⟨0, .e⟩ fun y _ => y = .val x) : CallA P f args M fun y N => y = .val x ∧ N = M := by
  intro ι w vs hv R
  have R0 : Rel (fun _ => none) ⟨0, .e⟩ w := ⟨fun b l h => by (cases h), fun b r h => by (simp [Mem.get, Tr.get] at h), fun b b' r r' l l' h => by (simp [Mem.get, Tr.get] at h)⟩
  refine (h (fun _ => none) w vs (hargs ι _ hv) R0).mono ?_
  rintro e w' ⟨ι', v, y, M', rfl, h2, h3, rfl⟩
  refine ⟨ι, v, .val x, M, rfl, ?_, ?_, rfl, rfl⟩
  · cases h2; exact .val _ hx
  · have hfr : ∀ k, k < w.heap.size → w'.heap[k]? = w.heap[k]? := fun k hk => h3.frame k hk (fun ⟨b, r, l, h1, _⟩ => by (simp [Mem.get, Tr.get] at h1))
    have hlive : ∀ b r, M.get b = some r → ∃ l, ι b = some l ∧ RowR ι l r w'.heap[l.blk]? ∧ l.blk < w.heap.size := fun b r hb => by
      obtain ⟨l, h4, h5⟩ := R.live b r hb
      have := row_lt h5
      exact ⟨l, h4, by rw [hfr _ this]; exact h5, this⟩
    refine ⟨⟨R.dom, fun b r hb => ?_, R.inj⟩, Ext.refl ι, Nat.le_refl _, fun _ _ h => .inl h, h3.size, fun k hk _ => hfr k hk, fun k h => .inr h, fun k h => .inr h, h3.os, h3.tape, h3.output⟩
    obtain ⟨l, h4, h5, _⟩ := hlive b r hb
    exact ⟨l, h4, h5⟩

/-! ## The whole heap as a memory -/

def rowOf : Obj → Option Row
  | .cells c _ _ => some (.cells (ofVs c.toList) false)
  | _ => none

def ofOpts {α : Type} (k : Nat) : List (Option α) → Tr α
  | [] => .e
  | x :: xs => (ofOpts (k + 1) xs).set k x

theorem ofOpts_get {α : Type} : ∀ (l : List (Option α)) (k i : Nat), (ofOpts k l).get i = if i < k then none else (l[i - k]?).join
  | [], k, i => by simp [ofOpts, Tr.get]
  | x :: l, k, i => by
    simp only [ofOpts]
    rw [Tr.get_set, ofOpts_get l (k + 1) i]
    by_cases h1 : i = k
    · subst h1; simp
    · rw [if_neg h1]
      by_cases h2 : i < k
      · rw [if_pos (by omega), if_pos h2]
      · rw [if_neg (by omega), if_neg h2, show i - k = (i - (k + 1)) + 1 by omega]
        simp

def memOf (w : World) : Mem := { next := w.heap.size, rows := ofOpts 0 (w.heap.toList.map rowOf) }

theorem memOf_get (w : World) (b : Nat) : (memOf w).get b = (w.heap[b]?).bind rowOf := by
  unfold memOf Mem.get
  simp only
  rw [ofOpts_get, if_neg (by omega), Nat.sub_zero, List.getElem?_map, Array.getElem?_toList]
  cases w.heap[b]? <;> rfl

def sizeOfObj : Obj → Nat
  | .cells c _ _ => c.size
  | _ => 0

def injOf (w : World) : Inj := fun b => (w.heap[b]?).map fun o => ⟨b, 0, sizeOfObj o⟩

theorem memOf_rel (w : World) : Rel (injOf w) (memOf w) w := by
  refine ⟨fun b l h => ?_, fun b r h => ?_, fun b b' r r' l l' _ _ h1 h2 he => ?_⟩
  · unfold injOf at h
    obtain ⟨o, h1, rfl⟩ := Option.map_eq_some_iff.1 h
    exact (Array.getElem?_eq_some_iff.1 h1).1
  · rw [memOf_get] at h
    obtain ⟨o, h1, h2⟩ := Option.bind_eq_some_iff.1 h
    refine ⟨⟨b, 0, sizeOfObj o⟩, by unfold injOf; rw [h1]; rfl, ?_⟩
    simp only
    rw [h1]
    cases o with
    | cells c e fr =>
      simp only [rowOf, Option.some.injEq] at h2
      subst h2
      refine ⟨rfl, by simp [ofVs_length], ?_, fun h => by cases h⟩
      simp only [List.drop_zero, ofVs_length, Array.length_toList]
      rw [List.take_of_length_le (by simp)]
      exact VRs.ofVs _ _
    | _ => simp [rowOf] at h2
  · unfold injOf at h1 h2
    obtain ⟨o, _, rfl⟩ := Option.map_eq_some_iff.1 h1
    obtain ⟨o', _, rfl⟩ := Option.map_eq_some_iff.1 h2
    exact he

theorem memOf_next (w : World) : (memOf w).next = w.heap.size := rfl

theorem memOf_rw (w : World) (k : Nat) : ¬ RwAt (injOf w) (memOf w) k := by
  rintro ⟨b, r, l, h1, h2, h3, h4⟩
  rw [memOf_get] at h1
  obtain ⟨o, h5, h6⟩ := Option.bind_eq_some_iff.1 h1
  cases o <;> simp [rowOf] at h6 <;> subst h6 <;> simp [Row.rw] at h2

/-! ## One step at a time (to be used ahead: '↓') -/

section
variable {T : Tab} {ops : Array Oper} {st : St} {Q : Ex → St → Prop}
theorem wL_nil {K : St → Prop} : wL T ops [] st K = K st := rfl
theorem wL_cons {o : Oper} {rest : List Oper} {K : St → Prop} : wL T ops (o :: rest) st K = bindO (wantedA ops st.t o) fun b =>
      condB b (wO T o st fun x M' => bindO (putA { st with m := M' } o.dst x) fun st1 => wL T ops rest st1 K)
        (bindO (putA st o.dst undefA) fun st1 => wL T ops rest st1 K) := rfl
theorem wO_eq {o : Oper} {K : AV → Mem → Prop} : wO T o st K = caseO (calleeA st.t o) (fun c => bindO (T.fn.get c.1) fun _ => CallA T.P c.1 c.2 st.m K) (bindO (evalOp T st.t o st.m) fun r => K r.1 r.2) := rfl
theorem wC_skip : wC T .skip st Q = Q .normal st := rfl
theorem wC_label {l : Nat} : wC T (.label l) st Q = Q .normal st := rfl
theorem wC_region {id : Nat} : wC T (.region id ops false) st Q = wL T ops ops.toList st (Q .normal) := rfl
theorem wC_open {id : Nat} : wC T (.region id ops true) st Q = WpA T.P (.region id ops true) st Q := rfl
theorem wC_seq {a b : Code} : wC T (.seq a b) st Q = wC T a st (andThen (fun s => wC T b s Q) Q) := rfl
theorem wC_cond {x : Operand} {a b : Code} : wC T (.cond x a b) st Q = bindO (asB (opnd st.t x)) fun v => (v = true → wC T a st Q) ∧ (v = false → wC T b st Q) := rfl
theorem wC_block {id : Nat} {b : Code} : wC T (.block id b) st Q = wC T b st (onExit id Q) := rfl
theorem wC_exit {i : Nat} : wC T (.exit i) st Q = Q (.exit i) st := rfl
theorem wC_ret : wC T .ret st Q = Q .ret st := rfl
theorem wC_loopE {b : Code} : wC T (.loop b) st Q = WpA T.P (.loop b) st Q := rfl
theorem andThen_n {K : St → Prop} : andThen K Q .normal st = K st := rfl
theorem andThen_e {K : St → Prop} {i : Nat} : andThen K Q (.exit i) st = Q (.exit i) st := rfl
theorem andThen_r {K : St → Prop} : andThen K Q .ret st = Q .ret st := rfl
theorem onExit_n {id : Nat} : onExit id Q .normal st = Q .normal st := rfl
theorem onExit_r {id : Nat} : onExit id Q .ret st = Q .ret st := rfl
theorem onExit_e {id i : Nat} : onExit id Q (.exit i) st = if i = id then Q .normal st else Q (.exit i) st := rfl
theorem retQ_n {F : Func} {q : AV → Mem → Prop} : retQ T F q .normal st = bindO (resultA T F st) fun x => q x st.m := rfl
theorem retQ_r {F : Func} {q : AV → Mem → Prop} : retQ T F q .ret st = bindO (resultA T F st) fun x => q x st.m := rfl
end

end Go.AM
