/- The abstract machine, part 22: whole functions reckoned out. -/
import Derived.Test.YtpfifmemkbddjaaA21
set_option linter.unusedSectionVars false
set_option linter.unusedVariables false
set_option linter.unusedSimpArgs false
namespace Go.AM

/-! ## What is looked at once for each function -/

def allI (p : Nat → Oper → Bool) : List Oper → Nat → Bool
  | [], _ => true
  | o :: r, i => p i o && allI p r (i + 1)

theorem allI_ok {p : Nat → Oper → Bool} : ∀ {l : List Oper} {i : Nat}, allI p l i = true → ∀ (j : Nat) (o : Oper), l[j]? = some o → p (i + j) o = true
  | [], _, _, j, o, h => by simp at h
  | x :: l, i, h, j, o, hj => by
    unfold allI at h
    rw [Bool.and_eq_true] at h
    cases j with
    | zero => simp at hj; subst hj; exact h.1
    | succ j =>
      simp only [List.getElem?_cons_succ] at hj
      have := allI_ok h.2 j o hj
      rw [show i + (j + 1) = i + 1 + j by omega]
      exact this

def dstIs (o : Oper) (t : Tmp) : Bool := match o.dst with | some d => Nat.beq d t | none => false

theorem dstIs_ok {o : Oper} {t : Tmp} (h : o.dst = some t) : dstIs o t = true := by unfold dstIs; rw [h]; simp

def isEff (T : Tab) (o : Oper) : Bool := match cls T o with | .eff => true | _ => false
theorem isEff_ok {T : Tab} {o : Oper} (h : cls T o = .eff) : isEff T o = true := by unfold isEff; rw [h]

def staticB1 (T : Tab) (nt : Nat) (ops : Array Oper) (ms : List Nat) (i : Nat) (o : Oper) : Bool :=
  (o.after.toList.all fun e => !bindsB e || Nat.blt e.on i) &&
  ((match o.dst with | none => true | some t => Nat.blt t nt && allI (fun j oj => Nat.beq j i || !dstIs oj t) ops.toList 0) &&
  (((looks ops o).all fun t => allI (fun j oj => !dstIs oj t || (Nat.beq j i || (bf ms j i || bf ms i j))) ops.toList 0) &&
  (!isEff T o || allI (fun j oj => !isEff T oj || (!Nat.blt i j || bf ms i j)) ops.toList 0)))

def staticB (T : Tab) (nt : Nat) (ops : Array Oper) : Bool := allI (staticB1 T nt ops (masks ops.toList [])) ops.toList 0

theorem staticB_ok {T : Tab} {nt : Nat} {ops : Array Oper} (h : staticB T nt ops = true) : Static T nt ops := by
  have hh : ∀ (i : Nat) (o : Oper), ops[i]? = some o → staticB1 T nt ops (masks ops.toList []) i o = true := fun i o ho => by
    have := allI_ok h i o (by simpa using ho)
    rwa [Nat.zero_add] at this
  have d2 : ∀ (i : Nat) (o : Oper) (t : Tmp), ops[i]? = some o → o.dst = some t → t < nt ∧ ∀ (j : Nat) (oj : Oper), ops[j]? = some oj → oj.dst = some t → j = i := fun i o t ho ht => by
    have := hh i o ho
    unfold staticB1 at this
    rw [Bool.and_eq_true, Bool.and_eq_true] at this
    have := this.2.1
    rw [ht] at this
    simp only [Bool.and_eq_true, Nat.blt_eq] at this
    refine ⟨this.1, fun j oj hj hjt => ?_⟩
    have := allI_ok this.2 j oj (by simpa using hj)
    rw [dstIs_ok hjt, Nat.zero_add] at this
    simpa using this
  refine ⟨fun i o ho e he hb => ?_, fun i j oi oj t hi hj hit hjt => ?_, fun i o ho t ht j oj hj hjt => ?_, fun i o t ho ht => (d2 i o t ho ht).1, fun i j oi oj hi hj hci hcj hlt => ?_⟩
  · have := hh i o (by simpa using ho)
    unfold staticB1 at this
    rw [Bool.and_eq_true, List.all_eq_true] at this
    have := this.1 e he
    rw [hb] at this
    simpa using this
  · exact (d2 j oj t hj hjt).2 i oi hi hit
  · have := hh i o ho
    unfold staticB1 at this
    rw [Bool.and_eq_true, Bool.and_eq_true, Bool.and_eq_true] at this
    have := allI_ok (List.all_eq_true.1 this.2.2.1 t ht) j oj (by simpa using hj)
    rw [dstIs_ok hjt, Nat.zero_add] at this
    simpa using this
  · have := hh i oi hi
    unfold staticB1 at this
    rw [Bool.and_eq_true, Bool.and_eq_true, Bool.and_eq_true] at this
    have := this.2.2.2
    rw [isEff_ok hci] at this
    simp only [Bool.not_true, Bool.false_or] at this
    have := allI_ok this j oj (by simpa using hj)
    rw [isEff_ok hcj, Nat.zero_add] at this
    simp only [Bool.not_true, Bool.false_or, Bool.or_eq_true, Bool.not_eq_true'] at this
    rcases this with h1 | h1
    · have : Nat.blt i j = true := by simpa using hlt
      rw [this] at h1; cases h1
    · exact h1

def CodeOk (T : Tab) (nt : Nat) : Code → Prop
  | .region _ ops true => Static T nt ops
  | .seq a b => CodeOk T nt a ∧ CodeOk T nt b
  | .cond _ a b => CodeOk T nt a ∧ CodeOk T nt b
  | .block _ b => CodeOk T nt b
  | .loop b => CodeOk T nt b
  | .scope b => CodeOk T nt b
  | _ => True

def codeB (T : Tab) (nt : Nat) : Code → Bool
  | .region _ ops d => !d || staticB T nt ops
  | .seq a b => codeB T nt a && codeB T nt b
  | .cond _ a b => codeB T nt a && codeB T nt b
  | .block _ b => codeB T nt b
  | .loop b => codeB T nt b
  | .scope b => codeB T nt b
  | _ => true

theorem codeB_ok {T : Tab} {nt : Nat} : ∀ {c : Code}, codeB T nt c = true → CodeOk T nt c := by
  intro c
  induction c <;> intro h <;> (try exact trivial) <;> simp only [codeB, Bool.and_eq_true] at h
  case region id ops d =>
    cases d
    · exact trivial
    · exact staticB_ok (by simpa using h)
  case seq a b iha ihb => exact ⟨iha h.1, ihb h.2⟩
  case cond a b iha ihb => exact ⟨iha h.1, ihb h.2⟩
  case block ih => exact ih h
  case loop ih => exact ih h
  case scope ih => exact ih h

theorem codeOk_label {T : Tab} {nt l : Nat} : ∀ {c rest : Code}, CodeOk T nt c → findLabel c l = some rest → CodeOk T nt rest := by
  intro c
  induction c <;> intro rest hc h <;> try (simp [findLabel] at h; done)
  case seq a b iha ihb =>
    simp only [findLabel] at h
    split at h
    · rename_i r hr
      injection h with h; subst h
      exact ⟨iha hc.1 hr, hc.2⟩
    · exact ihb hc.2 h
  case label l' =>
    simp only [findLabel] at h
    split at h
    · injection h with h; subst h; exact trivial
    · cases h

/-! ## Reckoning -/

def evalL (T : Tab) (call : CallF) (ops : Array Oper) : List Oper → St → Option St
  | [], st => some st
  | o :: rest, st =>
    match wantedA ops st.t o with
    | some false => match putA st o.dst undefA with
      | some st1 => evalL T call ops rest st1
      | none => none
    | some true => match evEff T call st.t o st.m with
      | some (x, M') => match putA { st with m := M' } o.dst x with
        | some st1 => evalL T call ops rest st1
        | none => none
      | none => none
    | none => none

mutual
def evalC (T : Tab) (call : CallF) : Nat → Code → St → Option (Ex × St)
  | 0, _, _ => none
  | n + 1, c, st => match c with
    | .skip => some (.normal, st)
    | .label _ => some (.normal, st)
    | .region _ ops d => match cond d (evalDraw T call ops st) (evalL T call ops ops.toList st) with
      | some st' => some (.normal, st')
      | none => none
    | .seq a b => match evalC T call n a st with
      | some (.normal, st') => evalC T call n b st'
      | r => r
    | .cond x a b => match opnd st.t x with
      | .val (.bool v) => evalC T call n (cond v a b) st
      | _ => none
    | .block id b => match evalC T call n b st with
      | some (.exit i, st') => some (cond (Nat.beq i id) .normal (.exit i), st')
      | r => r
    | .loop b => match evalC T call n b st with
      | some (.normal, st') => evalC T call n (.loop b) st'
      | r => r
    | .scope b => evalS T call n b b st
    | .exit i => some (.exit i, st)
    | .goto l => some (.goto l, st)
    | .ret => some (.ret, st)
    | .rangeFunc .. => none
    | .refuse _ => none
def evalS (T : Tab) (call : CallF) : Nat → Code → Code → St → Option (Ex × St)
  | 0, _, _, _ => none
  | n + 1, whole, cur, st => match evalC T call n cur st with
    | some (.goto l, st') => match findLabel whole l with
      | some rest => evalS T call n whole rest st'
      | none => some (.goto l, st')
    | r => r
end

theorem putA_n {st st1 : St} {dst : Option Tmp} {x : AV} (hp : putA st dst x = some st1) : st1.n = st.n := by
  unfold putA at hp
  split at hp
  · injection hp with hp; rw [← hp]
  · rw [cond_eq_ite] at hp
    split at hp
    · injection hp with hp; rw [← hp]
    · simp at hp

theorem evalDraw_n {T : Tab} {call : CallF} {ops : Array Oper} {st st' : St} (h : evalDraw T call ops st = some st') : st'.n = st.n := by
  unfold evalDraw at h
  split at h
  · cases h
  · rw [cond_eq_ite] at h
    split at h
    · split at h
      · injection h with h; subst h; rfl
      · cases h
    · cases h

theorem evalL_ok {T : Tab} (ok : T.Ok) {call : CallF} (hcall : CallsOk T call) {ops : Array Oper} : ∀ {todo : List Oper} {st st' : St}, evalL T call ops todo st = some st' →
    (∀ Q : Ex → St → Prop, Q .normal st' → WpO T.P ops todo st Q) ∧ st'.n = st.n
  | [], st, st', h => by
    simp only [evalL, Option.some.injEq] at h
    subst h
    exact ⟨fun Q hQ => wpo_nil hQ, rfl⟩
  | o :: rest, st, st', h => by
    unfold evalL at h
    split at h
    · rename_i hw
      split at h
      · rename_i st1 hp
        have ih := evalL_ok ok hcall h
        exact ⟨fun Q hQ => wpo_skip hw hp (ih.1 Q hQ), by rw [ih.2, putA_n hp]⟩
      · cases h
    · rename_i hw
      split at h
      · rename_i x M' hx
        split at h
        · rename_i st1 hp
          have ih := evalL_ok ok hcall h
          refine ⟨fun Q hQ => ?_, by rw [ih.2, putA_n hp]⟩
          unfold evEff at hx
          split at hx
          · rename_i g args hcal
            split at hx
            · rename_i F hF
              refine wpo_call ok hw hcal hF ((hcall g F args _ x M' hF hx).mono ?_)
              rintro y N ⟨rfl, rfl⟩
              exact ⟨st1, hp, ih.1 Q hQ⟩
            · cases hx
          · exact wpo_op ok hw hx hp (ih.1 Q hQ)
        · cases h
      · cases h
    · cases h

section
variable {T : Tab} (ok : T.Ok) (hmix : T.P.follows .mixedOrders = true) {call : CallF} (hcall : CallsOk T call) {nt : Nat}
include ok hmix hcall

mutual
theorem evalC_ok : ∀ (n : Nat) {c : Code} {st st' : St} {ex : Ex}, CodeOk T nt c → nt ≤ st.n → evalC T call n c st = some (ex, st') → (∀ Q : Ex → St → Prop, Q ex st' → WpA T.P c st Q) ∧ st'.n = st.n
  | 0, c, st, st', ex, _, _, h => by simp [evalC] at h
  | n + 1, c, st, st', ex, hc, hn, h => by
    unfold evalC at h
    split at h
    · injection h with h; injection h with h1 h2; subst h1 h2
      exact ⟨fun Q hQ => wpa_skip hQ, rfl⟩
    · injection h with h; injection h with h1 h2; subst h1 h2
      exact ⟨fun Q hQ => wpa_label hQ, rfl⟩
    · rename_i id ops d
      split at h
      · rename_i st1 hst
        injection h with h; injection h with h1 h2; subst h1 h2
        cases d with
        | true =>
          rw [cond_true] at hst
          exact ⟨fun Q hQ => wpa_evalDraw ok hmix hcall hc hn hst hQ, evalDraw_n hst⟩
        | false =>
          rw [cond_false] at hst
          have := evalL_ok ok hcall hst
          exact ⟨fun Q hQ => wpa_region (this.1 Q hQ), this.2⟩
      · cases h
    · rename_i a b
      split at h
      · rename_i st1 h1
        have i1 := evalC_ok n hc.1 hn h1
        have i2 := evalC_ok n hc.2 (by rw [i1.2]; exact hn) h
        exact ⟨fun Q hQ => wpa_seq (i1.1 _ (i2.1 Q hQ)), by rw [i2.2, i1.2]⟩
      · rename_i hno
        have i1 := evalC_ok n hc.1 hn h
        refine ⟨fun Q hQ => wpa_seq (i1.1 _ ?_), i1.2⟩
        cases ex with
        | normal => exact (hno _ h).elim
        | _ => exact hQ
    · rename_i x a b
      split at h
      · rename_i v hv
        have i1 := evalC_ok n (c := cond v a b) (by cases v; exact hc.2; exact hc.1) hn h
        exact ⟨fun Q hQ => wpa_cond hv (i1.1 Q hQ), i1.2⟩
      · cases h
    · rename_i id b
      split at h
      · rename_i i st1 h1
        injection h with h; injection h with h2 h3; subst h2 h3
        have i1 := evalC_ok n (c := b) hc hn h1
        refine ⟨fun Q hQ => wpa_block (i1.1 _ ?_), i1.2⟩
        simp only [onExit]
        rw [cond_eq_ite] at hQ
        split
        · rename_i he; rw [if_pos (by simpa using he)] at hQ; exact hQ
        · rename_i he; rw [if_neg (by simpa using he)] at hQ; exact hQ
      · rename_i hno
        have i1 := evalC_ok n (c := b) hc hn h
        refine ⟨fun Q hQ => wpa_block (i1.1 _ ?_), i1.2⟩
        cases ex with
        | exit i => exact (hno _ _ h).elim
        | _ => exact hQ
    · rename_i b
      have i1 := evalR_ok (n + 1) (b := b) hc hn (by unfold evalC; exact h)
      exact ⟨fun Q hQ => (i1.1 Q hQ).elim fun k hk => wpa_rounds k hk, i1.2⟩
    · rename_i b
      have i1 := evalS_ok n (whole := b) (cur := b) hc hc hn h
      exact ⟨fun Q hQ => wpa_scope (i1.1 Q hQ), i1.2⟩
    · injection h with h; injection h with h1 h2; subst h1 h2
      exact ⟨fun Q hQ => wpa_exit hQ, rfl⟩
    · injection h with h; injection h with h1 h2; subst h1 h2
      exact ⟨fun Q hQ => wpa_goto hQ, rfl⟩
    · injection h with h; injection h with h1 h2; subst h1 h2
      exact ⟨fun Q hQ => wpa_ret hQ, rfl⟩
    · cases h
    · cases h
theorem evalR_ok : ∀ (n : Nat) {b : Code} {st st' : St} {ex : Ex}, CodeOk T nt b → nt ≤ st.n → evalC T call n (.loop b) st = some (ex, st') → (∀ Q : Ex → St → Prop, Q ex st' → ∃ k, RdA T.P b Q k st) ∧ st'.n = st.n
  | 0, b, st, st', ex, _, _, h => by simp [evalC] at h
  | n + 1, b, st, st', ex, hc, hn, h => by
    unfold evalC at h
    simp only at h
    split at h
    · rename_i st1 h1
      have i1 := evalC_ok n (c := b) hc hn h1
      have i2 := evalR_ok n (b := b) hc (by rw [i1.2]; exact hn) h
      refine ⟨fun Q hQ => ?_, by rw [i2.2, i1.2]⟩
      obtain ⟨k, hk⟩ := i2.1 Q hQ
      exact ⟨k + 1, i1.1 _ hk⟩
    · rename_i hno
      have i1 := evalC_ok n (c := b) hc hn h
      refine ⟨fun Q hQ => ⟨1, i1.1 _ ?_⟩, i1.2⟩
      cases ex with
      | normal => exact (hno _ h).elim
      | _ => exact hQ
theorem evalS_ok : ∀ (n : Nat) {whole cur : Code} {st st' : St} {ex : Ex}, CodeOk T nt whole → CodeOk T nt cur → nt ≤ st.n → evalS T call n whole cur st = some (ex, st') →
    (∀ Q : Ex → St → Prop, Q ex st' → WpS T.P whole cur st Q) ∧ st'.n = st.n
  | 0, _, _, _, _, _, _, _, _, h => by simp [evalS] at h
  | n + 1, whole, cur, st, st', ex, hw, hc, hn, h => by
    unfold evalS at h
    split at h
    · rename_i l st1 h1
      have i1 := evalC_ok n hc hn h1
      split at h
      · rename_i rest hr
        have i2 := evalS_ok n hw (codeOk_label hw hr) (by rw [i1.2]; exact hn) h
        refine ⟨fun Q hQ => wps_intro (i1.1 _ ?_), by rw [i2.2, i1.2]⟩
        simp only [onGoto]
        rw [hr]
        exact i2.1 Q hQ
      · rename_i hr
        injection h with h; injection h with h2 h3; subst h2 h3
        refine ⟨fun Q hQ => wps_intro (i1.1 _ ?_), i1.2⟩
        simp only [onGoto]
        rw [hr]
        exact hQ
    · rename_i hno
      have i1 := evalC_ok n hc hn h
      refine ⟨fun Q hQ => wps_intro (i1.1 _ ?_), i1.2⟩
      cases ex with
      | goto l => exact (hno _ _ h).elim
      | _ => exact hQ
end
end

end Go.AM
