/- The abstract machine, part 32: the rule for open regions, with one order given. -/
import Derived.Test.YtpfifmemkbddjaaA31
set_option linter.unusedVariables false
namespace Go.AM
set_option linter.unusedSimpArgs false

section
variable {T : Tab} {ops : Array Oper} {base : Nat} {rk : List Nat} {ob : List (List Nat)} {K : St → Prop}

/-! ## Where they do not see one another -/

structure Apart (ops : Array Oper) (oj oi : Oper) : Prop where
  ij : ∀ x ∈ looks ops oi, oj.dst ≠ some x
  ji : ∀ x ∈ looks ops oj, oi.dst ≠ some x
  dd : ∀ a, oj.dst = some a → oi.dst ≠ some a

theorem apart_of {nt : Nat} (S : Static T nt ops) {i j : Nat} {oi oj : Oper} (hi : ops[i]? = some oi) (hj : ops[j]? = some oj) (hne : j ≠ i) (h1 : bf (masks ops.toList []) i j = false) (h2 : bf (masks ops.toList []) j i = false) :
    Apart ops oj oi := by
  refine ⟨fun x hx hd => ?_, fun x hx hd => ?_, fun a hd he => hne (S.dst1 j i oj oi a hj hi hd he)⟩
  · rcases S.see i oi hi x hx j oj hj hd with h | h | h
    · exact hne h
    · rw [h2] at h; cases h
    · rw [h1] at h; cases h
  · rcases S.see j oj hj x hx i oi hi hd with h | h | h
    · exact hne h.symm
    · rw [h1] at h; cases h
    · rw [h2] at h; cases h

/-! ## What comes early: a value that does not hang on memory -/

def putO (M : Mem) (id : Nat) : Option Row → Mem
  | none => M
  | some r => M.put id r

def Early (T : Tab) (ops : Array Oper) (id : Nat) (o : Oper) (t : Tr AV) (x : AV) (r : Option Row) : Prop :=
  ∀ (n : Nat) (t' : Tr AV) (M : Mem) (K : St → Prop), Ag ops o t' t → (stepX T ops id o ⟨n, t', M⟩ K ↔ K (stX ⟨n, t', M⟩ o.dst x (putO M id r)))

theorem Early.ag {id : Nat} {o : Oper} {t t2 : Tr AV} {x : AV} {r : Option Row} (h : Early T ops id o t x r) (ha : Ag ops o t2 t) : Early T ops id o t2 x r :=
  fun n t' M K h' => h n t' M K (h'.trans ha)

/-- There is such a value, where an operation of that kind came about at all. -/
theorem early_of {id : Nat} {o : Oper} {st : St} (hc : cls T o = .pure ∨ cls T o = .flt) (h : stepX T ops id o st K) :
    ∃ x r, Early T ops id o st.t x r ∧ (cls T o = .pure → r = none) ∧ (r ≠ none → cls T o = .flt ∧ wantedA ops st.t o = some true ∧ ∃ row, r = some row ∧ evFl T st.t o id = some (x, row)) ∧
      (r = none → (wantedA ops st.t o = some false ∧ x = undefA) ∨ (cls T o = .pure ∧ wantedA ops st.t o = some true ∧ ∀ M, evalOp T st.t o M = some (x, M))) := by
  unfold stepX at h
  obtain ⟨b, hw, h⟩ := bindO_elim h
  cases b with
  | false =>
    refine ⟨undefA, none, fun n t' M K ha => ?_, fun _ => rfl, fun h => absurd rfl h, fun _ => .inl ⟨hw, rfl⟩⟩
    unfold stepX
    rw [ha.wanted, hw, bindO_some, condB_false]
    rfl
  | true =>
    rw [condB_true] at h
    rcases hc with hc | hc <;> rw [hc] at h
    · rw [clsE_pure] at h
      obtain ⟨y, hy, h⟩ := bindO_elim h
      have hp := pure_ok hc hy
      refine ⟨y.1, none, fun n t' M K ha => ?_, fun _ => rfl, fun h => absurd rfl h, fun _ => .inr ⟨hc, hw, hp⟩⟩
      unfold stepX
      rw [ha.wanted, hw, bindO_some, condB_true, hc, clsE_pure, ha.eval, hp M, bindO_some]
      rfl
    · rw [clsE_flt] at h
      obtain ⟨y, hy, h⟩ := bindO_elim h
      refine ⟨y.1, some y.2, fun n t' M K ha => ?_, (fun h => by rw [hc] at h; cases h), fun _ => ⟨hc, hw, y.2, rfl, hy⟩, (fun h => by cases h)⟩
      unfold stepX
      rw [ha.wanted, hw, bindO_some, condB_true, hc, clsE_flt, ha.fl, hy, bindO_some]
      rfl

theorem stX_comm {st : St} {d e : Option Tmp} {x y : AV} {M N : Mem} (h : ∀ a, d = some a → e ≠ some a) : stX (stX st d x M) e y N = stX (stX st e y M) d x N := by
  unfold stX; simp only [setd_comm st.t x y h]

theorem putO_sub {M : Mem} {id : Nat} {r : Option Row} (h : r = none ∨ M.get id = none) : ∀ b s, M.get b = some s → (putO M id r).get b = some s := fun b s hb => by
  cases r with
  | none => exact hb
  | some r =>
    rcases h with h | h
    · cases h
    · show (M.put id r).get b = some s
      rw [Mem.get_put, if_neg (fun he => by subst he; rw [h] at hb; cases hb)]
      exact hb

/-- What was to be read again is still so, behind an early operation. -/
theorem chk_early {ok oi : Oper} {k : Nat} {s : St} {id : Nat} {x : AV} {r : Option Row} (hk : ops[k]? = some ok) (hc : cls T ok = .read) (hl : ∀ y ∈ looks ops ok, oi.dst ≠ some y) (hd : ∀ a, oi.dst = some a → ok.dst ≠ some a)
    (hm : r = none ∨ s.m.get id = none) (h : chk1 T ops s k) : chk1 T ops (stX s oi.dst x (putO s.m id r)) k := by
  intro o ho hw
  rw [hk] at ho; injection ho with ho; subst ho
  have ha : Ag ops ok (setd s.t oi.dst x) s.t := Ag.setd s.t x hl
  have hw' : wantedA ops s.t ok = some true := by rw [← ha.wanted]; exact hw
  obtain ⟨y, M', h1, h2⟩ := h ok hk hw'
  refine ⟨y, putO s.m id r, ?_, fun d hdd => ?_⟩
  · show evalOp T (setd s.t oi.dst x) ok (putO s.m id r) = _
    rw [ha.eval]
    exact read_mono hc (putO_sub hm) h1
  · show (setd s.t oi.dst x).get d = some y
    rw [setd_get _ _ (fun he => hd d he hdd)]
    exact h2 d hdd

/-- What an operation that does not see another one comes to, when that one came early. -/
theorem stepX_early {oi oj : Oper} {st : St} {idi idj : Nat} {x : AV} {r : Option Row} (A : Apart ops oj oi) (hr : r = none ∨ (st.m.get idi = none ∧ idi < st.m.next ∧ (cls T oj = .flt → idi ≠ idj) ∧ (cls T oj = .eff → (isCall oj || isApp oj) = true)))
    {G : St → Prop} (h : stepX T ops idj oj st K) (hk : ∀ s, K s → (r = none ∨ (s.m.get idi = none ∧ idi < s.m.next)) → Ag ops oi s.t st.t → G (stX s oi.dst x (putO s.m idi r))) :
    stepX T ops idj oj (stX st oi.dst x (putO st.m idi r)) G := by
  have ha : Ag ops oj (setd st.t oi.dst x) st.t := Ag.setd st.t x A.ji
  have hai : ∀ y, Ag ops oi (setd st.t oj.dst y) st.t := fun y => Ag.setd st.t y A.ij
  have hsub := putO_sub (M := st.m) (id := idi) (r := r) (hr.imp id fun h => h.1)
  have hrm : r = none ∨ (st.m.get idi = none ∧ idi < st.m.next) := hr.imp id fun h => ⟨h.1, h.2.1⟩
  unfold stepX at h ⊢
  obtain ⟨b, hw, h⟩ := bindO_elim h
  have hw' : wantedA ops (stX st oi.dst x (putO st.m idi r)).t oj = some b := by rw [← hw]; exact ha.wanted
  rw [hw', bindO_some]
  have comm : ∀ y N, stX (stX st oj.dst y N) oi.dst x (putO N idi r) = stX (stX st oi.dst x (putO st.m idi r)) oj.dst y (putO N idi r) := fun y N => by
    unfold stX; simp only [setd_comm st.t y x A.dd]
  cases b with
  | false =>
    rw [condB_false] at h ⊢
    have := hk _ h hrm (hai _)
    rw [show (stX st oj.dst undefA st.m).m = st.m from rfl, comm] at this
    exact this
  | true =>
    rw [condB_true] at h ⊢
    cases hc : cls T oj <;> rw [hc] at h <;> simp only [clsE_eff, clsE_flt, clsE_pure, clsE_read] at h ⊢
    case pure =>
      obtain ⟨y, hy, h⟩ := bindO_elim h
      have hp := pure_ok hc (show evalOp T st.t oj st.m = some (y.1, y.2) from hy)
      have e : evalOp T (stX st oi.dst x (putO st.m idi r)).t oj (stX st oi.dst x (putO st.m idi r)).m = some (y.1, putO st.m idi r) := by
        show evalOp T (setd st.t oi.dst x) oj (putO st.m idi r) = _
        rw [ha.eval]; exact hp _
      rw [e, bindO_some]
      have := hk _ h hrm (hai _)
      rw [show (stX st oj.dst y.1 st.m).m = st.m from rfl, comm] at this
      exact this
    case read =>
      obtain ⟨y, hy, h⟩ := bindO_elim h
      have hp := read_mono hc hsub (show evalOp T st.t oj st.m = some (y.1, y.2) from hy)
      have e : evalOp T (stX st oi.dst x (putO st.m idi r)).t oj (stX st oi.dst x (putO st.m idi r)).m = some (y.1, putO st.m idi r) := by
        show evalOp T (setd st.t oi.dst x) oj (putO st.m idi r) = _
        rw [ha.eval]; exact hp
      rw [e, bindO_some]
      have := hk _ h hrm (hai _)
      rw [show (stX st oj.dst y.1 st.m).m = st.m from rfl, comm] at this
      exact this
    case flt =>
      obtain ⟨y, hy, h⟩ := bindO_elim h
      have e : evFl T (stX st oi.dst x (putO st.m idi r)).t oj idj = some y := by
        rw [← hy]; exact ha.fl T idj
      rw [e, bindO_some]
      have := hk _ h (hr.imp id fun h => ⟨by
        show (st.m.put idj y.2).get idi = none
        rw [Mem.get_put, if_neg (h.2.2.1 hc)]; exact h.1, h.2.1⟩) (hai _)
      rw [show (stX st oj.dst y.1 (st.m.put idj y.2)).m = st.m.put idj y.2 from rfl, comm] at this
      have e2 : putO (st.m.put idj y.2) idi r = (putO st.m idi r).put idj y.2 := by
        cases r with
        | none => rfl
        | some row =>
          rcases hr with hr | hr
          · cases hr
          · exact Mem.put_comm _ _ _ (hr.2.2.1 hc).symm
      rw [e2] at this
      exact this
    case eff =>
      unfold wO at h ⊢
      have e : calleeA (stX st oi.dst x (putO st.m idi r)).t oj = calleeA st.t oj := ha.callee
      rw [e]
      cases hcal : calleeA st.t oj with
      | some c =>
        rw [hcal, caseO_some] at h
        rw [caseO_some]
        obtain ⟨F, hF, h⟩ := bindO_elim h
        rw [hF, bindO_some]
        cases r with
        | none =>
          refine h.mono fun y N hy => ?_
          have := hk _ hy (.inl rfl) (hai _)
          rw [show (stX st oj.dst y N).m = N from rfl, comm] at this
          exact this
        | some row =>
          rcases hr with hr | hr
          · cases hr
          · refine (h.frame1 (b := idi) (r := row) hr.1).mono ?_
            rintro y N ⟨N0, hy, h0, h1, rfl⟩
            have := hk _ hy (.inr ⟨h0, by have := hr.2.1; show idi < N0.next; omega⟩) (hai _)
            rw [show (stX st oj.dst y N0).m = N0 from rfl, comm] at this
            exact this
      | none =>
        rw [hcal, caseO_none] at h
        rw [caseO_none]
        obtain ⟨y, hy, h⟩ := bindO_elim h
        cases r with
        | none =>
          have e : evalOp T (stX st oi.dst x (putO st.m idi none)).t oj (stX st oi.dst x (putO st.m idi none)).m = some y := by
            rw [← hy]; exact ha.eval T st.m
          rw [e, bindO_some]
          have := hk _ h (.inl rfl) (hai _)
          rw [show (stX st oj.dst y.1 y.2).m = y.2 from rfl, comm] at this
          exact this
        | some row =>
          rcases hr with hr | hr
          · cases hr
          · have hca := hr.2.2.2 hc
            cases hcall : isCall oj with
            | true =>
              exfalso
              unfold isCall at hcall
              split at hcall
              · rename_i c hop
                split at hcall
                · rename_i f hcf
                  unfold evalOp at hy
                  rw [hop] at hy
                  simp only [hcf] at hy
                  cases hy
                · cases hcall
              · cases hcall
            | false =>
              rw [hcall, Bool.false_or] at hca
              obtain ⟨g1, g2, g3⟩ := app_put (r := row) hca (show evalOp T st.t oj st.m = some (y.1, y.2) from hy) hr.1 hr.2.1
              have e : evalOp T (stX st oi.dst x (putO st.m idi (some row))).t oj (stX st oi.dst x (putO st.m idi (some row))).m = some (y.1, y.2.put idi row) := by
                rw [← g1]; exact ha.eval T _
              rw [e, bindO_some]
              have := hk _ h (.inr ⟨g2, by have := hr.2.1; show idi < y.2.next; omega⟩) (hai _)
              rw [show (stX st oj.dst y.1 y.2).m = y.2 from rfl, comm] at this
              exact this

/-- An operation comes early. -/
theorem wX_early {nt c : Nat} (S : Static T nt ops) {perm : List Nat} (hp : PermOk T ops perm rk ob c) {i : Nat} {oi : Oper} (hi : ops[i]? = some oi) {x : AV} {r : Option Row} (hrf : r ≠ none → cls T oi = .flt) :
    ∀ {pre post acc : List Nat} {st : St}, (∀ j ∈ pre, Rl T ops ob j i ∧ bf (masks ops.toList []) j i = false) → (∀ k ∈ acc, k ≠ i ∧ bf (masks ops.toList []) i k = false) →
      Early T ops (base + rk.getD i 0) oi st.t x r → (r = none ∨ (st.m.get (base + rk.getD i 0) = none ∧ base + rk.getD i 0 < st.m.next)) →
      wX T ops base rk ob (pre ++ i :: post) acc st K → wX T ops base rk ob (pre ++ post) acc (stX st oi.dst x (putO st.m (base + rk.getD i 0) r)) K := by
  intro pre
  induction pre with
  | nil =>
    intro post acc st _ _ hE hr h
    simp only [List.nil_append] at h ⊢
    unfold wX at h
    rw [hi, bindO_some] at h
    exact wX_acc (fun x hx => by simp [hx]) ((hE st.n st.t st.m _ (Ag.refl _)).1 h).2
  | cons j pre ih =>
    intro post acc st hpre hacc hE hr h
    simp only [List.cons_append] at h ⊢
    unfold wX at h ⊢
    obtain ⟨oj, hj, h⟩ := bindO_elim h
    rw [hj, bindO_some]
    obtain ⟨R, hnb⟩ := hpre j (by simp)
    have A := apart_of S hi hj R.ne R.nb hnb
    have hcok := R.ok.resolve_left (by rw [hnb]; simp) oj oi hj hi
    have hr' : r = none ∨ (r ≠ none ∧ st.m.get (base + rk.getD i 0) = none ∧ base + rk.getD i 0 < st.m.next) := by
      by_cases hrn : r = none
      · exact .inl hrn
      · exact .inr ⟨hrn, (hr.resolve_left hrn)⟩
    refine stepX_early A (hr'.imp id fun hh => ⟨hh.2.1, hh.2.2, fun hcj he => ?_, fun hcj => ?_⟩) h ?_
    · exact R.ne (hp.fin i j oi oj hi hj (hrf hh.1) hcj (by omega)).symm
    · unfold cok at hcok
      rw [hcj, hrf hh.1] at hcok
      exact hcok
    · rintro s ⟨h1, h2⟩ hs hag
      refine ⟨fun k hk => ?_, ih (fun j' hj' => hpre j' (by simp [hj'])) (fun k hk => ?_) (hE.ag hag) hs h2⟩
      · have hk' := hk
        unfold obs at hk'
        rw [List.mem_filter] at hk'
        obtain ⟨ok, hok, hck, hlk⟩ := hp.obr j oj k hj hk'.1
        have hka : k ∈ acc := by simpa using hk'.2
        obtain ⟨g1, g2⟩ := hacc k hka
        refine chk_early hok hck (fun y hy hd => ?_) (fun a ha hb => g1 (S.dst1 k i ok oi a hok hi hb ha)) (hs.imp id fun h => h.1) (h1 k hk)
        rw [hlk y hy i oi hi hd] at g2; cases g2
      · simp only [List.mem_cons] at hk
        rcases hk with rfl | hk
        · exact ⟨R.ne, R.nb⟩
        · exact hacc k hk

end

end Go.AM
