/- The abstract machine, part 24: a program's tables. -/
import Derived.Test.YtpfifmemkbddjaaA23
set_option linter.unusedVariables false
set_option linter.unusedSimpArgs false
namespace Go.AM

def descAgg : TypeDesc → Bool
  | .struct _ | .array _ _ => true
  | _ => false

def fieldsOf (P : Program) : List Field → Option (List (Nat × Nat × Bool))
  | [] => some []
  | f :: fs => match infoOf P f.type, P.underlying f.type, fieldsOf P fs with
    | some (s, _), some d, some r => some ((f.offset, s, descAgg d) :: r)
    | _, _, _ => none

theorem fieldsOf_ok {P : Program} : ∀ {fs : List Field} {l : List (Nat × Nat × Bool)}, fieldsOf P fs = some l → FieldsOk P fs l
  | [], l, h => by simp [fieldsOf] at h; subst h; trivial
  | f :: fs, l, h => by
    simp only [fieldsOf] at h
    split at h
    · rename_i s b d r h1 h2 h3
      injection h with h; subst h
      refine ⟨rfl, ⟨b, h1⟩, ⟨d, h2, ?_⟩, fieldsOf_ok h3⟩
      cases d <;> rfl
    · cases h

def kindOf (P : Program) : TypeDesc → Option TK
  | .int k => some (.int k)
  | .bool => some .bool
  | .string => some .str
  | .struct fs => (fieldsOf P fs.toList).map .st
  | .array n e => some (.ar n e)
  | .slice e => some (.sli e)
  | .map k v => some (.mp k v)
  | .pointer e => some (.pt e)
  | _ => some .sc

theorem kindOf_ok {P : Program} {d : TypeDesc} {k : TK} (h : kindOf P d = some k) : KindOk P d k := by
  unfold kindOf at h
  split at h <;> (try (simp only [Option.some.injEq] at h; subst h)) <;> try exact rfl
  · trivial
  · trivial
  · obtain ⟨l, h1, rfl⟩ := Option.map_eq_some_iff.1 h
    exact fieldsOf_ok h1
  · exact ⟨rfl, rfl⟩
  · exact ⟨rfl, rfl⟩
  · rename_i h1 h2 h3 h4 h5 h6 h7 h8
    cases d <;> first | trivial | (simp at *; done)

def namesB : List Field → Bool
  | [] => true
  | f :: fs => cond (f.name == "_") false (namesB fs)

theorem namesB_ok : ∀ {fs : List Field}, namesB fs = true → ∀ f ∈ fs, f.name ≠ "_"
  | [], _, f, hf => by simp at hf
  | g :: fs, h, f, hf => by
    unfold namesB at h
    rw [cond_eq_ite] at h
    split at h
    · cases h
    · rename_i hg
      simp only [List.mem_cons] at hf
      rcases hf with rfl | hf
      · simpa using hg
      · exact namesB_ok h f hf

def eqOf (P : Program) (t : TypeId) : TypeDesc → Option (List Nat)
  | .struct fs => cond (namesB fs.toList) (cond (P.stoodInHeld t) none (cond (P.eqGuardType P.depth t) none (some (fs.toList.map (·.type))))) none
  | _ => none

theorem eqOf_ok {P : Program} {t : TypeId} {d : TypeDesc} (hd : P.underlying t = some d) {tys : List Nat} (h : eqOf P t d = some tys) : EqOk P t tys := by
  unfold eqOf at h
  split at h
  · rename_i fs
    rw [cond_eq_ite, cond_eq_ite, cond_eq_ite] at h
    split at h
    · rename_i h1
      split at h
      · cases h
      · rename_i h2
        split at h
        · cases h
        · rename_i h3
          injection h with h
          exact ⟨fs, hd, h, namesB_ok h1, by simpa using h2, by simpa using h3⟩
    · cases h
  · cases h

def zcells (agg : Bool) (z : Value) : Option (List Value) :=
  match agg, z with
  | true, .agg ⟨vs⟩ => some vs
  | true, _ => none
  | false, z => cond z.uno (some [z]) none

def TK.agg : TK → Bool
  | .st _ | .ar _ _ => true
  | _ => false

def tiOf (P : Program) (t : TypeId) : Option TI :=
  match P.info? t, P.underlying t with
  | some i, some d => match kindOf P d, i.zero with
    | some k, some z => match zcells k.agg z with
      | some zs => cond (Nat.beq zs.length i.size) (some { k, size := i.size, bytes := i.bytes, zero := zs, eqf := eqOf P t d }) none
      | none => none
    | _, _ => none
  | _, _ => none

theorem tiOf_ok {P : Program} {t : TypeId} {ti : TI} (h : tiOf P t = some ti) : TyOk P t ti := by
  unfold tiOf at h
  split at h
  · rename_i i d hi hd
    split at h
    · rename_i k z hk hz
      split at h
      · rename_i zs hzs
        rw [cond_eq_ite] at h
        split at h
        · rename_i hl
          injection h with h; subst h
          have hl : zs.length = i.size := Nat.eq_of_beq_eq_true hl
          have hagg : (TI.isAgg { k, size := i.size, bytes := i.bytes, zero := zs, eqf := eqOf P t d }) = k.agg := by cases k <;> rfl
          have hzv : (TI.zv { k, size := i.size, bytes := i.bytes, zero := zs, eqf := eqOf P t d }) = z ∧ (k.agg = false → zs.length = 1 ∧ z.uno = true) := by
            unfold TI.zv
            rw [hagg]
            simp only
            unfold zcells at hzs
            cases hka : k.agg with
            | true =>
              rw [hka] at hzs
              split at hzs
              · injection hzs with hzs; subst hzs
                exact ⟨rfl, fun h => by cases h⟩
              · cases hzs
              · contradiction
            | false =>
              rw [hka] at hzs
              simp only at hzs
              rw [cond_eq_ite] at hzs
              split at hzs
              · rename_i hu
                injection hzs with hzs; subst hzs
                exact ⟨rfl, fun _ => ⟨rfl, hu⟩⟩
              · cases hzs
          refine ⟨?_, ⟨hl, fun hf => ?_⟩, ⟨d, hd, kindOf_ok hk⟩, fun tys ht => eqOf_ok hd ht⟩
          · rw [hi, hzv.1]; simp [hz]
          · rw [hagg] at hf
            rw [hzv.1]
            exact hzv.2 hf
        · cases h
      · cases h
    · cases h
  · cases h

def ofPairs {α : Type} : List (Nat × α) → Tr α
  | [] => .e
  | p :: ps => (ofPairs ps).set p.1 (some p.2)

theorem ofPairs_mem {α : Type} : ∀ {l : List (Nat × α)} {t : Nat} {x : α}, (ofPairs l).get t = some x → (t, x) ∈ l
  | [], t, x, h => by simp [ofPairs, Tr.get] at h
  | p :: ps, t, x, h => by
    rw [ofPairs, Tr.get_set] at h
    split at h
    · rename_i he
      injection h with h
      subst he h
      simp
    · exact List.mem_cons_of_mem _ (ofPairs_mem h)

def mkTab (P : Program) (tyl : List (Nat × TI)) (fnl : List (Nat × Func)) : Tab := { P, ty := ofPairs tyl, fn := ofPairs fnl }

def FnlOk (P : Program) : List (Nat × Func) → Prop
  | [] => True
  | p :: ps => P.funcs[p.1]? = some p.2 ∧ FnlOk P ps

theorem FnlOk.mem {P : Program} : ∀ {l : List (Nat × Func)}, FnlOk P l → ∀ p ∈ l, P.funcs[p.1]? = some p.2
  | [], _, p, hp => by simp at hp
  | q :: l, h, p, hp => by
    simp only [List.mem_cons] at hp
    rcases hp with rfl | hp
    · exact h.1
    · exact FnlOk.mem h.2 p hp

def fnB (F : Func) : Bool := cond (F.name == "runtime.NumGoroutine") false F.body.isSome

theorem mkTab_ok {P : Program} {tyl : List (Nat × TI)} {fnl : List (Nat × Func)} (ht : tyl.map (fun p => tiOf P p.1) = tyl.map (fun p => some p.2)) (hf : FnlOk P fnl) (hb : fnl.all (fun p => fnB p.2) = true) :
    (mkTab P tyl fnl).Ok := by
  refine ⟨fun t ti h => ?_, fun f F h => ?_⟩
  · have hm := ofPairs_mem h
    have : ∀ p ∈ tyl, tiOf P p.1 = some p.2 := List.map_inj_left.1 ht
    exact tiOf_ok (this _ hm)
  · have hm := ofPairs_mem h
    have h1 := List.all_eq_true.1 hb _ hm
    simp only [fnB, cond_eq_ite] at h1
    split at h1
    · cases h1
    · rename_i hn
      exact ⟨hf.mem _ hm, by simpa using hn, h1⟩

def fnsB (T : Tab) (fnl : List (Nat × Func)) : Bool := fnl.all fun p => match p.2.body with | some c => codeB T p.2.ntmps c | none => true

theorem fnsB_ok {P : Program} {tyl : List (Nat × TI)} {fnl : List (Nat × Func)} (h : fnsB (mkTab P tyl fnl) fnl = true) : FnsOk (mkTab P tyl fnl) := by
  intro f F hf c hc
  have hm := ofPairs_mem hf
  have := List.all_eq_true.1 h _ hm
  rw [hc] at this
  exact codeB_ok this

end Go.AM
