import Derived.Test.YtjffimbigamadaaA31
set_option linter.unusedSimpArgs false
set_option linter.unusedVariables false
set_option linter.unusedSectionVars false
/- The abstract machine, part 32: the rule for open regions, with one order given. -/
namespace Go.AM

section
variable {T : Tab} {ops : Array Oper} {base : Nat} {rk : List Nat} {ob : List (List Nat)} {K : St → Prop}

/-! ## Where they do not see one another -/

structure Apart (ops : Array Oper) (oj oi : Oper) : Prop where
  ij : ∀ x ∈ looks ops oi, oj.dst ≠ some x
  ji : ∀ x ∈ looks ops oj, oi.dst ≠ some x
  dd : ∀ a, oj.dst = some a → oi.dst ≠ some a

theorem apart_of {nt : Nat} (S : Static T nt ops) {i j : Nat} {oi oj : Oper} (hi : ops[i]? = some oi) (hj : ops[j]? = some oj) (hne : j ≠ i) (h1 : bf (masks ops.toList []) i j = false) (h2 : bf (masks ops.toList []) j i = false) :
    Apart ops oj oi := by
  refine ⟨fun x hx hd => ?_, fun x hx hd => ?_, fun a hd he => hne (S.dst1 j i oj oi a hj hi hd he)⟩
  · rcases S.see i oi hi x hx j oj hj hd with h | h | h
    · exact hne h
    · rw [h2] at h; cases h
    · rw [h1] at h; cases h
  · rcases S.see j oj hj x hx i oi hi hd with h | h | h
    · exact hne h.symm
    · rw [h1] at h; cases h
    · rw [h2] at h; cases h

/-! ## What comes early: a value that does not hang on memory -/

def putO (M : Mem) (id : Nat) : Option Row → Mem
  | none => M
  | some r => M.put id r

def Early (T : Tab) (ops : Array Oper) (id : Nat) (o : Oper) (t : Tr AV) (x : AV) (r : Option Row) : Prop :=
  ∀ (n : Nat) (t' : Tr AV) (M : Mem) (K : St → Prop), Ag ops o t' t → (stepX T ops id o ⟨n, t', M⟩ K ↔ K (stX ⟨n, t', M⟩ o.dst x (putO M id r)))

theorem Early.ag {id : Nat} {o : Oper} {t t2 : Tr AV} {x : AV} {r : Option Row} (h : Early T ops id o t x r) (ha : Ag ops o t2 t) : Early T ops id o t2 x r :=
  fun n t' M K h' => h n t' M K (h'.trans ha)

/-- There is such a value, where an operation of that kind came about at all. -/
theorem early_of {id : Nat} {o : Oper} {st : St} (hc : cls T o = .pure ∨ cls T o = .flt) (h : stepX T ops id o st K) :
    ∃ x r, Early T ops id o st.t x r ∧ (cls T o = .pure → r = none) ∧ (r ≠ none → cls T o = .flt ∧ wantedA ops st.t o = some true ∧ ∃ row, r = some row ∧ evFl T st.t o id = some (x, row)) ∧
      (r = none → (wantedA ops st.t o = some false ∧ x = undefA) ∨ (cls T o = .pure ∧ wantedA ops st.t o = some true ∧ ∀ M, evalOp T st.t o M = some (x, M))) := by
  unfold stepX at h
  obtain ⟨b, hw, h⟩ := bindO_elim h
  cases b with
  | false =>
    refine ⟨undefA, none, fun n t' M K ha => ?_, fun _ => rfl, fun h => absurd rfl h, fun _ => .inl ⟨hw, rfl⟩⟩
    unfold stepX
    rw [ha.wanted, hw, bindO_some, condB_false]
    rfl
  | true =>
    rw [condB_true] at h
    rcases hc with hc | hc <;> rw [hc] at h
    · rw [clsE_pure] at h
      obtain ⟨y, hy, h⟩ := bindO_elim h
      have hp := pure_ok hc hy
      refine ⟨y.1, none, fun n t' M K ha => ?_, fun _ => rfl, fun h => absurd rfl h, fun _ => .inr ⟨hc, hw, hp⟩⟩
      unfold stepX
      rw [ha.wanted, hw, bindO_some, condB_true, hc, clsE_pure, ha.eval, hp M, bindO_some]
      rfl
    · rw [clsE_flt] at h
      obtain ⟨y, hy, h⟩ := bindO_elim h
      refine ⟨y.1, some y.2, fun n t' M K ha => ?_, (fun h => by rw [hc] at h; cases h), fun _ => ⟨hc, hw, y.2, rfl, hy⟩, (fun h => by cases h)⟩
      unfold stepX
      rw [ha.wanted, hw, bindO_some, condB_true, hc, clsE_flt, ha.fl, hy, bindO_some]
      rfl

theorem putO_sub {M : Mem} {id : Nat} {r : Option Row} (h : r = none ∨ M.get id = none) : ∀ b s, M.get b = some s → (putO M id r).get b = some s := fun b s hb => by
  cases r with
  | none => exact hb
  | some r =>
    rcases h with h | h
    · cases h
    · show (M.put id r).get b = some s
      rw [Mem.get_put, if_neg (fun he => by subst he; rw [h] at hb; cases hb)]
      exact hb

/-- What was to be read again is still so, behind an early operation. -/
theorem chk_early {ok oi : Oper} {k : Nat} {s : St} {id : Nat} {x : AV} {r : Option Row} (hk : ops[k]? = some ok) (hc : cls T ok = .read) (hl : ∀ y ∈ looks ops ok, oi.dst ≠ some y) (hd : ∀ a, oi.dst = some a → ok.dst ≠ some a)
    (hm : r = none ∨ s.m.get id = none) (h : chk1 T ops s k) : chk1 T ops (stX s oi.dst x (putO s.m id r)) k := by
  intro o ho hw
  rw [hk] at ho; injection ho with ho; subst ho
  have ha : Ag ops ok (setd s.t oi.dst x) s.t := Ag.setd s.t x hl
  have hw' : wantedA ops s.t ok = some true := by rw [← ha.wanted]; exact hw
  obtain ⟨y, M', h1, h2⟩ := h ok hk hw'
  refine ⟨y, putO s.m id r, ?_, fun d hdd => ?_⟩
  · show evalOp T (setd s.t oi.dst x) ok (putO s.m id r) = _
    rw [ha.eval]
    exact read_mono hc (putO_sub hm) h1
  · show (setd s.t oi.dst x).get d = some y
    rw [setd_get _ _ (fun he => hd d he hdd)]
    exact h2 d hdd

/-- What an operation that does not see another one comes to, when that one came early. -/
theorem stepX_early {oi oj : Oper} {st : St} {idi idj : Nat} {x : AV} {r : Option Row} (A : Apart ops oj oi) (hr : r = none ∨ (st.m.get idi = none ∧ idi < st.m.next ∧ (cls T oj = .flt → idi ≠ idj) ∧ (cls T oj = .eff → (isCall oj || isApp oj) = true)))
    {G : St → Prop} (h : stepX T ops idj oj st K) (hk : ∀ s, K s → (r = none ∨ (s.m.get idi = none ∧ idi < s.m.next)) → Ag ops oi s.t st.t → G (stX s oi.dst x (putO s.m idi r))) :
    stepX T ops idj oj (stX st oi.dst x (putO st.m idi r)) G := by
  have ha : Ag ops oj (setd st.t oi.dst x) st.t := Ag.setd st.t x A.ji
  have hai : ∀ y, Ag ops oi (setd st.t oj.dst y) st.t := fun y => Ag.setd st.t y A.ij
  have hsub := putO_sub (M := st.m) (id := idi) (r := r) (hr.imp id fun h => h.1)
  have hrm : r = none ∨ (st.m.get idi = none ∧ idi < st.m.next) := hr.imp id fun h => ⟨h.1, h.2.1⟩
  unfold stepX at h ⊢
  obtain ⟨b, hw, h⟩ := bindO_elim h
  have hw' : wantedA ops (stX st oi.dst x (putO st.m idi r)).t oj = some b := by rw [← hw]; exact ha.wanted
  rw [hw', bindO_some]
  have comm : ∀ y N, stX (stX st oj.dst y N) oi.dst x (putO N idi r) = stX (stX st oi.dst x (putO st.m idi r)) oj.dst y (putO N idi r) := fun y N => by
    unfold stX; simp only [setd_comm st.t y x A.dd]
  cases b with
  | false =>
    rw [condB_false] at h ⊢
    have := hk _ h hrm (hai _)
    rw [show (stX st oj.dst undefA st.m).m = st.m from rfl, comm] at this
    exact this
  | true =>
    rw [condB_true] at h ⊢
    cases hc : cls T oj <;> rw [hc] at h <;> simp only [clsE_eff, clsE_flt, clsE_pure, clsE_read] at h ⊢
    case pure =>
      obtain ⟨y, hy, h⟩ := bindO_elim h
      have hp := pure_ok hc (show evalOp T st.t oj st.m = some (y.1, y.2) from hy)
      have e : evalOp T (stX st oi.dst x (putO st.m idi r)).t oj (stX st oi.dst x (putO st.m idi r)).m = some (y.1, putO st.m idi r) := by
        show evalOp T (setd st.t oi.dst x) oj (putO st.m idi r) = _
        rw [ha.eval]; exact hp _
      rw [e, bindO_some]
      have := hk _ h hrm (hai _)
      rw [show (stX st oj.dst y.1 st.m).m = st.m from rfl, comm] at this
      exact this
    case read =>
      obtain ⟨y, hy, h⟩ := bindO_elim h
      have hp := read_mono hc hsub (show evalOp T st.t oj st.m = some (y.1, y.2) from hy)
      have e : evalOp T (stX st oi.dst x (putO st.m idi r)).t oj (stX st oi.dst x (putO st.m idi r)).m = some (y.1, putO st.m idi r) := by
        show evalOp T (setd st.t oi.dst x) oj (putO st.m idi r) = _
        rw [ha.eval]; exact hp
      rw [e, bindO_some]
      have := hk _ h hrm (hai _)
      rw [show (stX st oj.dst y.1 st.m).m = st.m from rfl, comm] at this
      exact this
    case flt =>
      obtain ⟨y, hy, h⟩ := bindO_elim h
      have e : evFl T (stX st oi.dst x (putO st.m idi r)).t oj idj = some y := by
        rw [← hy]; exact ha.fl T idj
      rw [e, bindO_some]
      have := hk _ h (hr.imp id fun h => ⟨by
        show (st.m.put idj y.2).get idi = none
        rw [Mem.get_put, if_neg (h.2.2.1 hc)]; exact h.1, h.2.1⟩) (hai _)
      rw [show (stX st oj.dst y.1 (st.m.put idj y.2)).m = st.m.put idj y.2 from rfl, comm] at this
      have e2 : putO (st.m.put idj y.2) idi r = (putO st.m idi r).put idj y.2 := by
        cases r with
        | none => rfl
        | some row =>
          rcases hr with hr | hr
          · cases hr
          · exact Mem.put_comm _ _ _ (hr.2.2.1 hc).symm
      rw [e2] at this
      exact this
    case eff =>
      unfold wO at h ⊢
      have e : calleeA (stX st oi.dst x (putO st.m idi r)).t oj = calleeA st.t oj := ha.callee
      rw [e]
      cases hcal : calleeA st.t oj with
      | some c =>
        rw [hcal, caseO_some] at h
        rw [caseO_some]
        obtain ⟨F, hF, h⟩ := bindO_elim h
        rw [hF, bindO_some]
        cases r with
        | none =>
          refine h.mono fun y N hy => ?_
          have := hk _ hy (.inl rfl) (hai _)
          rw [show (stX st oj.dst y N).m = N from rfl, comm] at this
          exact this
        | some row =>
          rcases hr with hr | hr
          · cases hr
          · refine (h.frame1 (b := idi) (r := row) hr.1).mono ?_
            rintro y N ⟨N0, hy, h0, h1, rfl⟩
            have := hk _ hy (.inr ⟨h0, by have := hr.2.1; show idi < N0.next; omega⟩) (hai _)
            rw [show (stX st oj.dst y N0).m = N0 from rfl, comm] at this
            exact this
      | none =>
        rw [hcal, caseO_none] at h
        rw [caseO_none]
        obtain ⟨y, hy, h⟩ := bindO_elim h
        cases r with
        | none =>
          have e : evalOp T (stX st oi.dst x (putO st.m idi none)).t oj (stX st oi.dst x (putO st.m idi none)).m = some y := by
            rw [← hy]; exact ha.eval T st.m
          rw [e, bindO_some]
          have := hk _ h (.inl rfl) (hai _)
          rw [show (stX st oj.dst y.1 y.2).m = y.2 from rfl, comm] at this
          exact this
        | some row =>
          rcases hr with hr | hr
          · cases hr
          · have hca := hr.2.2.2 hc
            cases hcall : isCall oj with
            | true =>
              exfalso
              unfold isCall at hcall
              split at hcall
              · rename_i c hop
                split at hcall
                · rename_i f hcf
                  unfold evalOp at hy
                  rw [hop] at hy
                  simp only [hcf] at hy
                  cases hy
                · cases hcall
              · cases hcall
            | false =>
              rw [hcall, Bool.false_or] at hca
              obtain ⟨g1, g2, g3⟩ := app_put (r := row) hca (show evalOp T st.t oj st.m = some (y.1, y.2) from hy) hr.1 hr.2.1
              have e : evalOp T (stX st oi.dst x (putO st.m idi (some row))).t oj (stX st oi.dst x (putO st.m idi (some row))).m = some (y.1, y.2.put idi row) := by
                rw [← g1]; exact ha.eval T _
              rw [e, bindO_some]
              have := hk _ h (.inr ⟨g2, by have := hr.2.1; show idi < y.2.next; omega⟩) (hai _)
              rw [show (stX st oj.dst y.1 y.2).m = y.2 from rfl, comm] at this
              exact this

/-- An operation comes early. -/
theorem wX_early {nt c : Nat} (S : Static T nt ops) {perm : List Nat} (hp : PermOk T ops perm rk ob c) {i : Nat} {oi : Oper} (hi : ops[i]? = some oi) {x : AV} {r : Option Row} (hrf : r ≠ none → cls T oi = .flt) :
    ∀ {pre post acc : List Nat} {st : St}, (∀ j ∈ pre, Rl T ops ob j i ∧ bf (masks ops.toList []) j i = false) → (∀ k ∈ acc, k ≠ i ∧ bf (masks ops.toList []) i k = false) →
      Early T ops (base + rk.getD i 0) oi st.t x r → (r = none ∨ (st.m.get (base + rk.getD i 0) = none ∧ base + rk.getD i 0 < st.m.next)) →
      wX T ops base rk ob (pre ++ i :: post) acc st K → wX T ops base rk ob (pre ++ post) acc (stX st oi.dst x (putO st.m (base + rk.getD i 0) r)) K := by
  intro pre
  induction pre with
  | nil =>
    intro post acc st _ _ hE hr h
    simp only [List.nil_append] at h ⊢
    unfold wX at h
    rw [hi, bindO_some] at h
    exact wX_acc (fun x hx => by simp [hx]) ((hE st.n st.t st.m _ (Ag.refl _)).1 h).2
  | cons j pre ih =>
    intro post acc st hpre hacc hE hr h
    simp only [List.cons_append] at h ⊢
    unfold wX at h ⊢
    obtain ⟨oj, hj, h⟩ := bindO_elim h
    rw [hj, bindO_some]
    obtain ⟨R, hnb⟩ := hpre j (by simp)
    have A := apart_of S hi hj R.ne R.nb hnb
    have hcok := R.ok.resolve_left (by rw [hnb]; simp) oj oi hj hi
    have hr' : r = none ∨ (r ≠ none ∧ st.m.get (base + rk.getD i 0) = none ∧ base + rk.getD i 0 < st.m.next) := by
      by_cases hrn : r = none
      · exact .inl hrn
      · exact .inr ⟨hrn, (hr.resolve_left hrn)⟩
    refine stepX_early A (hr'.imp id fun hh => ⟨hh.2.1, hh.2.2, fun hcj he => ?_, fun hcj => ?_⟩) h ?_
    · exact R.ne (hp.fin i j oi oj hi hj (hrf hh.1) hcj (by omega)).symm
    · unfold cok at hcok
      rw [hcj, hrf hh.1] at hcok
      exact hcok
    · rintro s ⟨h1, h2⟩ hs hag
      refine ⟨fun k hk => ?_, ih (fun j' hj' => hpre j' (by simp [hj'])) (fun k hk => ?_) (hE.ag hag) hs h2⟩
      · have hk' := hk
        unfold obs at hk'
        rw [List.mem_filter] at hk'
        obtain ⟨ok, hok, hck, hlk⟩ := hp.obr j oj k hj hk'.1
        have hka : k ∈ acc := by simpa using hk'.2
        obtain ⟨g1, g2⟩ := hacc k hka
        refine chk_early hok hck (fun y hy hd => ?_) (fun a ha hb => g1 (S.dst1 k i ok oi a hok hi hb ha)) (hs.imp id fun h => h.1) (h1 k hk)
        rw [hlk y hy i oi hi hd] at g2; cases g2
      · simp only [List.mem_cons] at hk
        rcases hk with rfl | hk
        · exact ⟨R.ne, R.nb⟩
        · exact hacc k hk

end

end Go.AM

/- The abstract machine, part 33: the rule for open regions with one order given, concluded. -/
namespace Go.AM

section
variable {T : Tab} {ops : Array Oper} {base : Nat} {rk : List Nat} {ob : List (List Nat)} {K : St → Prop}

def DetX (T : Tab) (ops : Array Oper) (o : Oper) (t : Tr AV) (M : Mem) (x : AV) : Prop :=
  (wantedA ops t o = some false ∧ x = undefA) ∨ (wantedA ops t o = some true ∧ ∃ M', evalOp T t o M = some (x, M'))

theorem stepX_det {id : Nat} {o : Oper} {st : St} (hc : cls T o = .pure ∨ cls T o = .read) : stepX T ops id o st K ↔ ∃ x, DetX T ops o st.t st.m x ∧ K (stX st o.dst x st.m) := by
  unfold stepX DetX
  constructor
  · intro h
    obtain ⟨b, hw, h⟩ := bindO_elim h
    cases b with
    | false => exact ⟨undefA, .inl ⟨hw, rfl⟩, h⟩
    | true =>
      rw [condB_true] at h
      rcases hc with hc | hc <;> rw [hc] at h <;> simp only [clsE_pure, clsE_read] at h <;> obtain ⟨y, hy, h⟩ := bindO_elim h <;> exact ⟨y.1, .inr ⟨hw, y.2, hy⟩, h⟩
  · rintro ⟨x, (⟨hw, rfl⟩ | ⟨hw, M', he⟩), h⟩
    · rw [hw, bindO_some, condB_false]; exact h
    · rw [hw, bindO_some, condB_true]
      rcases hc with hc | hc <;> rw [hc] <;> simp only [clsE_pure, clsE_read] <;> rw [he, bindO_some] <;> exact h

theorem stepX_ag {id : Nat} {o : Oper} {n : Nat} {t1 t2 : Tr AV} {M : Mem} {G G' : St → Prop} (ha : Ag ops o t2 t1) (h : stepX T ops id o ⟨n, t1, M⟩ G)
    (hk : ∀ y N, (cls T o = .read → N = M) → G (stX ⟨n, t1, M⟩ o.dst y N) → G' (stX ⟨n, t2, M⟩ o.dst y N)) : stepX T ops id o ⟨n, t2, M⟩ G' := by
  unfold stepX at h ⊢
  obtain ⟨b, hw, h⟩ := bindO_elim h
  rw [show wantedA ops (St.mk n t2 M).t o = some b from by rw [← hw]; exact ha.wanted, bindO_some]
  cases b with
  | false => exact hk _ _ (fun _ => rfl) h
  | true =>
    rw [condB_true] at h ⊢
    cases hc : cls T o <;> rw [hc] at h <;> simp only [clsE_eff, clsE_flt, clsE_pure, clsE_read] at h ⊢
    case eff =>
      unfold wO at h ⊢
      rw [show calleeA (St.mk n t2 M).t o = calleeA t1 o from ha.callee]
      cases hcal : calleeA t1 o with
      | some c =>
        rw [show calleeA (St.mk n t1 M).t o = some c from hcal, caseO_some] at h
        rw [caseO_some]
        obtain ⟨F, hF, h⟩ := bindO_elim h
        rw [hF, bindO_some]
        exact h.mono fun x M' hx => hk _ _ (fun h => by rw [hc] at h; cases h) hx
      | none =>
        rw [show calleeA (St.mk n t1 M).t o = none from hcal, caseO_none] at h
        rw [caseO_none]
        obtain ⟨y, hy, h⟩ := bindO_elim h
        rw [show evalOp T (St.mk n t2 M).t o (St.mk n t2 M).m = some y from by rw [← hy]; exact ha.eval T M, bindO_some]
        exact hk _ _ (fun h => by rw [hc] at h; cases h) h
    case flt =>
      obtain ⟨y, hy, h⟩ := bindO_elim h
      rw [show evFl T (St.mk n t2 M).t o id = some y from by rw [← hy]; exact ha.fl T id, bindO_some]
      exact hk _ _ (fun h => by rw [hc] at h; cases h) h
    all_goals
      obtain ⟨y, hy, h⟩ := bindO_elim h
      rw [show evalOp T (St.mk n t2 M).t o (St.mk n t2 M).m = some y from by rw [← hy]; exact ha.eval T M, bindO_some]
      exact hk _ _ (fun _ => rfl) h

theorem stepX_form {id : Nat} {o : Oper} {st : St} (h : stepX T ops id o st K) : stepX T ops id o st fun s => K s ∧ ∃ y N, s = stX st o.dst y N :=
  stepX_ag (n := st.n) (t1 := st.t) (M := st.m) (Ag.refl _) h fun y N _ hs => ⟨hs, y, N, rfl⟩

/-- What was to be read again is still so, ahead of an operation that writes what is not looked at. -/
theorem chk_drop {ok oj : Oper} {k : Nat} {s : St} {x : AV} (hk : ops[k]? = some ok) (hl : ∀ y ∈ looks ops ok, oj.dst ≠ some y) (hd : ∀ a, oj.dst = some a → ok.dst ≠ some a)
    (h : chk1 T ops (stX s oj.dst x s.m) k) : chk1 T ops s k := by
  intro o ho hw
  rw [hk] at ho; injection ho with ho; subst ho
  have ha : Ag ops ok (setd s.t oj.dst x) s.t := Ag.setd s.t x hl
  obtain ⟨y, M', h1, h2⟩ := h ok hk (by show wantedA ops (setd s.t oj.dst x) ok = some true; rw [ha.wanted]; exact hw)
  refine ⟨y, M', by rw [← ha.eval]; exact h1, fun d hdd => ?_⟩
  rw [← h2 d hdd]
  exact (setd_get _ _ (fun he => hd d he hdd)).symm

/-- An operation comes ahead of others that only look. -/
theorem wX_front {nt c : Nat} (S : Static T nt ops) {perm : List Nat} (hp : PermOk T ops perm rk ob c) {i : Nat} {oi : Oper} (hi : ops[i]? = some oi) (hci : cls T oi = .read ∨ cls T oi = .eff) :
    ∀ {pre post acc : List Nat} {st : St}, (∀ j ∈ pre, Rl T ops ob j i ∧ bf (masks ops.toList []) j i = false) → (∀ k ∈ acc, ∀ j ∈ pre, k ≠ j ∧ bf (masks ops.toList []) j k = false) → pre.Pairwise (Rl T ops ob) →
      wX T ops base rk ob (pre ++ i :: post) acc st K → stepX T ops (base + rk.getD i 0) oi st fun s => chkL T ops (obs ob i acc) s ∧ wX T ops base rk ob (pre ++ post) acc s K := by
  intro pre
  induction pre with
  | nil =>
    intro post acc st _ _ _ h
    simp only [List.nil_append] at h ⊢
    unfold wX at h
    rw [hi, bindO_some] at h
    exact stepX_mono (fun s hs => ⟨hs.1, wX_acc (fun x hx => by simp [hx]) hs.2⟩) h
  | cons j pre ih =>
    intro post acc st hpre hacc hpw h
    simp only [List.cons_append] at h ⊢
    unfold wX at h
    obtain ⟨oj, hj, h⟩ := bindO_elim h
    obtain ⟨R, hnb⟩ := hpre j (by simp)
    have A := apart_of S hi hj R.ne R.nb hnb
    have hcok := R.ok.resolve_left (by rw [hnb]; simp) oj oi hj hi
    have hdj : cls T oj = .pure ∨ (cls T oj = .read ∧ (cls T oi = .read ∨ (cls T oi = .eff ∧ j ∈ ob.getD i []))) := by
      unfold cok at hcok
      rcases hci with hci | hci <;> rw [hci] at hcok <;> cases hcj : cls T oj <;> rw [hcj] at hcok <;> simp only at hcok <;> first
        | exact .inl rfl
        | exact .inr ⟨rfl, .inl hci⟩
        | exact .inr ⟨rfl, .inr ⟨hci, by simpa using hcok⟩⟩
        | cases hcok
    have hdj' : cls T oj = .pure ∨ cls T oj = .read := hdj.imp id fun h => h.1
    obtain ⟨x, hx, h1, h2⟩ := (stepX_det hdj').1 h
    have hob : obs ob j acc = [] := by
      unfold obs
      rw [hp.obe j oj hj (by rcases hdj' with h | h <;> rw [h] <;> simp)]
      rfl
    obtain ⟨hpj, hpw⟩ := List.pairwise_cons.1 hpw
    have h3 := ih (fun j' hj' => hpre j' (by simp [hj'])) (fun k hk j' hj' => by
      simp only [List.mem_cons] at hk
      rcases hk with rfl | hk
      · exact ⟨(hpj j' hj').ne, (hpj j' hj').nb⟩
      · exact hacc k hk j' (by simp [hj'])) hpw h2
    refine stepX_ag (n := st.n) (t1 := setd st.t oj.dst x) (t2 := st.t) (M := st.m) (Ag.setd st.t x A.ij).symm h3 ?_
    rintro y N hN ⟨g1, g2⟩
    have comm : stX (stX st oj.dst x st.m) oi.dst y N = stX (stX st oi.dst y N) oj.dst x N := by
      unfold stX; simp only [setd_comm st.t x y A.dd]
    change chkL T ops (obs ob i (j :: acc)) (stX (stX st oj.dst x st.m) oi.dst y N) at g1
    change wX T ops base rk ob (pre ++ post) (j :: acc) (stX (stX st oj.dst x st.m) oi.dst y N) K at g2
    show chkL T ops (obs ob i acc) (stX st oi.dst y N) ∧ wX T ops base rk ob (j :: (pre ++ post)) acc (stX st oi.dst y N) K
    rw [comm] at g1 g2
    refine ⟨fun k hk => ?_, ?_⟩
    · have hk' := hk
      unfold obs at hk'
      rw [List.mem_filter] at hk'
      obtain ⟨ok, hok, hck, hlk⟩ := hp.obr i oi k hi hk'.1
      have hka : k ∈ acc := by simpa using hk'.2
      obtain ⟨q1, q2⟩ := hacc k hka j (by simp)
      refine chk_drop (oj := oj) (x := x) hok (fun y hy hd => ?_) (fun a ha hb => q1 (S.dst1 k j ok oj a hok hj hb ha)) (g1 k (obs_sub (fun x hx => by simp [hx]) hk))
      rw [hlk y hy j oj hj hd] at q2; cases q2
    · unfold wX
      rw [hj, bindO_some, hob]
      rw [stepX_det hdj']
      have haj : Ag ops oj (setd st.t oi.dst y) st.t := Ag.setd st.t y A.ji
      have fin : ∀ x', DetX T ops oj (setd st.t oi.dst y) N x' → (∀ d, oj.dst = some d → x' = x) → ∃ x, DetX T ops oj (stX st oi.dst y N).t (stX st oi.dst y N).m x ∧
          (fun s => chkL T ops [] s ∧ wX T ops base rk ob (pre ++ post) (j :: acc) s K) (stX (stX st oi.dst y N) oj.dst x (stX st oi.dst y N).m) := fun x' hx' he => by
        refine ⟨x', hx', (fun j hj => by simp at hj), ?_⟩
        have : stX (stX st oi.dst y N) oj.dst x' (stX st oi.dst y N).m = stX (stX st oi.dst y N) oj.dst x N := by
          show stX (stX st oi.dst y N) oj.dst x' N = _
          cases hd : oj.dst with
          | none => rfl
          | some d => rw [he d hd]
        rw [this]
        exact g2
      rcases hx with ⟨hw, rfl⟩ | ⟨hw, M', he⟩
      · exact fin undefA (.inl ⟨by rw [haj.wanted]; exact hw, rfl⟩) (fun _ _ => rfl)
      · rcases hdj with hc | ⟨hc, hc2⟩
        · exact fin x (.inr ⟨by rw [haj.wanted]; exact hw, N, by rw [haj.eval]; exact pure_ok hc he N⟩) (fun _ _ => rfl)
        · rcases hc2 with hc2 | ⟨hc2, hob2⟩
          · refine fin x (.inr ⟨by rw [haj.wanted]; exact hw, M', ?_⟩) (fun _ _ => rfl)
            rw [haj.eval, hN hc2]; exact he
          · obtain ⟨ok, hok, hck, hlk⟩ := hp.obr i oi j hi hob2
            rw [hj] at hok; injection hok with hok; subst hok
            have hself : ∀ y ∈ looks ops oj, oj.dst ≠ some y := fun y hy hd => by
              have := bf_lt S.back (by simpa using hj) (hlk y hy j oj hj hd)
              omega
            have hag2 : Ag ops oj (setd (setd st.t oi.dst y) oj.dst x) (setd st.t oi.dst y) := Ag.setd _ x hself
            obtain ⟨x', M2, q1, q2⟩ := g1 j (by unfold obs; rw [List.mem_filter]; exact ⟨hob2, by simp⟩) oj hj (by
              show wantedA ops (setd (setd st.t oi.dst y) oj.dst x) oj = some true
              rw [hag2.wanted, haj.wanted]; exact hw)
            refine fin x' (.inr ⟨by rw [haj.wanted]; exact hw, M2, by rw [← hag2.eval]; exact q1⟩) fun d hd => ?_
            have := q2 d hd
            change (setd (setd st.t oi.dst y) oj.dst x).get d = some x' at this
            rw [hd] at this
            simp only [setd, Tr.get_set_eq, Option.some.injEq] at this
            exact this.symm

end

/-! ## One operation done -/

theorem Stp.float {ι0 ι : Inj} {M0 M : Mem} {w0 w : World} (S : Stp ι0 M0 w0 ι M w) {id : Nat} (h0 : M0.next ≤ id) (hid : id < M.next) (hn : ι id = none) {l : Loc} {row : Row} {obj : Obj} (hb : l.blk = w.heap.size)
    (hr : RowR (upd ι id l) l row (some obj)) : Stp ι0 M0 w0 (upd ι id l) (M.put id row) { w with heap := w.heap.push obj } := by
  have R := S.rel
  have hext := upd_ext (l := l) hn
  have hup : (upd ι id l) id = some l := by simp [upd]
  have hne : ∀ b, b ≠ id → (upd ι id l) b = ι b := fun b h => by simp [upd, h]
  have hlt : ∀ b r l', M.get b = some r → ι b = some l' → l'.blk < w.heap.size := fun b r l' h hl => by
    obtain ⟨l2, h2, hrow⟩ := R.live b r h
    rw [hl] at h2; injection h2 with h2; subst h2
    exact row_lt hrow
  refine ⟨⟨fun b l' h => ?_, fun b r' h => ?_, fun b b' r1 r2 l1 l2 h1 h2 hl1 hl2 he => ?_⟩, S.ext.trans hext, S.nxt, fun b l' h => ?_, ?_, fun k hk hnr => ?_, ?_, ?_, S.os, S.tape, S.output⟩
  · by_cases hb' : b = id
    · subst hb'; exact hid
    · rw [hne b hb'] at h; exact R.dom b l' h
  · rw [Mem.get_put] at h
    by_cases hb' : b = id
    · subst hb'
      rw [if_pos rfl] at h
      injection h with h; subst h
      refine ⟨l, hup, ?_⟩
      simp only [hb, Array.getElem?_push_size]
      exact hr
    · rw [if_neg hb'] at h
      obtain ⟨l', hl, hrow⟩ := R.live b r' h
      refine ⟨l', by rw [hne b hb']; exact hl, ?_⟩
      have := hlt b r' l' h hl
      simp only
      rw [Array.getElem?_push, if_neg (by omega)]
      exact hrow.mono hext
  · rw [Mem.get_put] at h1 h2
    by_cases hb1 : b = id <;> by_cases hb2 : b' = id
    · omega
    · rw [if_neg hb2] at h2
      rw [hb1, hup] at hl1; injection hl1 with hl1; subst hl1
      rw [hne b' hb2] at hl2
      have := hlt b' r2 l2 h2 hl2
      omega
    · rw [if_neg hb1] at h1
      rw [hb2, hup] at hl2; injection hl2 with hl2; subst hl2
      rw [hne b hb1] at hl1
      have := hlt b r1 l1 h1 hl1
      omega
    · rw [if_neg hb1] at h1
      rw [if_neg hb2] at h2
      rw [hne b hb1] at hl1
      rw [hne b' hb2] at hl2
      exact R.inj b b' r1 r2 l1 l2 h1 h2 hl1 hl2 he
  · by_cases hb' : b = id
    · subst hb'; exact .inr h0
    · rw [hne b hb'] at h; exact S.new b l' h
  · simp only [Array.size_push]
    have := S.size; omega
  · simp only
    have := S.size
    rw [Array.getElem?_push, if_neg (by omega)]
    exact S.frame k hk hnr
  · rintro k ⟨b, r', l', h1, h2, h3, h4⟩
    rw [Mem.get_put] at h1
    by_cases hb' : b = id
    · rw [hb', hup] at h3; injection h3 with h3; subst h3
      left; have := S.size; omega
    · rw [if_neg hb'] at h1
      rw [hne b hb'] at h3
      exact S.evo k ⟨b, r', l', h1, h2, h3, h4⟩
  · rintro k ⟨b, r', l', h1, h3, h4⟩
    rw [Mem.get_put] at h1
    by_cases hb' : b = id
    · rw [hb', hup] at h3; injection h3 with h3; subst h3
      left; have := S.size; omega
    · rw [if_neg hb'] at h1
      rw [hne b hb'] at h3
      exact S.evl k ⟨b, r', l', h1, h3, h4⟩

structure CI (T : Tab) (ops : Array Oper) (base : Nat) (rk : List Nat) (c : Nat) (ι0 : Inj) (M0 : Mem) (w0 : World) (pend : List Nat) (ι : Inj) (st : St) (a : Act) (w : World) : Prop where
  str : StR ι st a w
  stp : Stp ι0 M0 w0 ι st.m w
  nxt : base + c ≤ st.m.next
  fl : ∀ i ∈ pend, ∀ o, ops[i]? = some o → cls T o = .flt → ι (base + rk.getD i 0) = none

section
variable {T : Tab} {ops : Array Oper} {base : Nat} {rk : List Nat} {ob : List (List Nat)} {K : St → Prop} {ι0 ι : Inj} {M0 : Mem} {w0 w : World} {pend : List Nat} {a : Act} {st : St} {nt c : Nat} {perm : List Nat}

theorem execX (ok : T.Ok) (S : Static T nt ops) (hp : PermOk T ops perm rk ob c) (hn : nt ≤ st.n) (hb : M0.next = base) (I : CI T ops base rk c ι0 M0 w0 pend ι st a w) {i : Nat} {oi : Oper} (hi : ops[i]? = some oi) (him : i ∈ pend)
    {rest : List Nat} (hrest : ∀ j ∈ rest, j ∈ pend ∧ j ≠ i) (h : stepX T ops (base + rk.getD i 0) oi st K) {Kc : Act → World → Prop} {Q : Exit → Act → World → Prop}
    (hk : ∀ ι' a' w' s, CI T ops base rk c ι0 M0 w0 rest ι' s a' w' → s.n = st.n → K s → Kc a' w') :
    (wantedA ops st.t oi = some false ∧ Kc (a.put oi.dst undef) w) ∨ (wantedA ops st.t oi = some true ∧ oi.wp T.P a w Kc Q) := by
  obtain ⟨s1, s2, s3, s4⟩ := I.str
  have hd : ∀ t, oi.dst = some t → t < st.n := fun t ht => Nat.lt_of_lt_of_le (S.dlt i oi t hi ht) hn
  have put : ∀ {ι' : Inj} {x : AV} {v : Value} {M' : Mem} {w' : World}, FrR ι' st.t a → VR ι' x v → Stp ι0 M0 w0 ι' M' w' → base + c ≤ M'.next →
      (∀ j ∈ rest, ∀ o, ops[j]? = some o → cls T o = .flt → ι' (base + rk.getD j 0) = none) → K (stX st oi.dst x M') → Kc (a.put oi.dst v) w' := fun {ι' x v M' w'} hf hv hS hnx hfl hK => by
    obtain ⟨q1, q2, q3⟩ := put_frr hf s1 hd hv
    exact hk ι' _ w' (stX st oi.dst x M') ⟨⟨q2, q1, by rw [q3]; exact s3, hS.rel⟩, hS, hnx, hfl⟩ rfl hK
  have flS : ∀ {ι' : Inj} {M' : Mem} {w' : World}, Stp ι st.m w ι' M' w' → ∀ j ∈ rest, ∀ o, ops[j]? = some o → cls T o = .flt → ι' (base + rk.getD j 0) = none := fun {ι' M' w'} hS j hj o ho hc => by
    have h0 := I.fl j (hrest j hj).1 o ho hc
    cases hq : ι' (base + rk.getD j 0) with
    | none => rfl
    | some l =>
      rcases hS.new _ _ hq with h | h
      · rw [h0] at h; cases h
      · have := hp.fid j o ho hc
        have := I.nxt
        omega
  have go : ∀ {ι' : Inj} {x : AV} {v : Value} {M' : Mem} {w' : World}, VR ι' x v → Stp ι st.m w ι' M' w' → K (stX st oi.dst x M') → Kc (a.put oi.dst v) w' := fun {ι' x v M' w'} hv hS hK =>
    put (fun t => (s2 t).mono hS.ext) hv (I.stp.trans hS) (Nat.le_trans I.nxt hS.nxt) (flS hS) hK
  unfold stepX at h
  obtain ⟨b, hw, h⟩ := bindO_elim h
  cases b with
  | false => exact .inl ⟨hw, go (VR.undef ι) (Stp.refl s4) h⟩
  | true =>
    refine .inr ⟨hw, ?_⟩
    rw [condB_true] at h
    cases hc : cls T oi <;> rw [hc] at h <;> simp only [clsE_eff, clsE_flt, clsE_pure, clsE_read] at h
    case eff =>
      unfold wO at h
      cases hcal : calleeA st.t oi with
      | some cc =>
        obtain ⟨g, args⟩ := cc
        rw [hcal, caseO_some] at h
        obtain ⟨F, hF, h⟩ := bindO_elim h
        exact callee_wp ok s2 s4 hcal hF h fun ι' v x M' w' h1 h2 h3 => go h1 h2 h3
      | none =>
        rw [hcal, caseO_none] at h
        obtain ⟨⟨x, M'⟩, hy, h⟩ := bindO_elim h
        obtain ⟨ι', w', n, v, g1, g2, g3, g4⟩ := evalOp_ok ok s4 s2 hy
        unfold Oper.wp
        rw [g1]
        rcases g2 with rfl | ⟨rfl, rfl⟩
        · exact go g3 g4 h
        · exact go g3 g4 h
    case flt =>
      obtain ⟨⟨x, row⟩, hy, h⟩ := bindO_elim h
      have hnone := I.fl i him oi hi hc
      have hfid := hp.fid i oi hi hc
      have hnx := I.nxt
      obtain ⟨v, obj, size, g1, g2, g3⟩ := evFl_ok ok s2 hnone hy (w := w)
      unfold Oper.wp
      rw [g1]
      refine put (fun t => (s2 t).mono (upd_ext hnone)) g2 (I.stp.float (by omega) (by omega) hnone rfl g3) I.nxt (fun j hj o ho hcj => ?_) h
      have h0 := I.fl j (hrest j hj).1 o ho hcj
      have hne : base + rk.getD j 0 ≠ base + rk.getD i 0 := fun he => (hrest j hj).2 (hp.fin j i o oi ho hi hcj hc (by omega))
      unfold upd; rw [if_neg hne]; exact h0
    all_goals
      obtain ⟨⟨x, M'⟩, hy, h⟩ := bindO_elim h
      have hM : M' = st.m := by first | exact read_ok hc hy | (have := pure_ok hc hy st.m; rw [hy] at this; injection this with this; injection this)
      subst hM
      obtain ⟨ι', w', n, v, g1, g2, g3, g4⟩ := evalOp_ok ok s4 s2 hy
      unfold Oper.wp
      rw [g1]
      rcases g2 with rfl | ⟨rfl, rfl⟩
      · exact go g3 g4 h
      · exact go g3 g4 h

theorem wp_const {P : Program} {o : Oper} {Z : Prop} (h : o.wp P a w (fun _ _ => Z) (fun _ _ _ => Z)) : Z := by
  unfold Oper.wp at h
  generalize (execOp a.eval o).run P w = r at h
  cases r with
  | ok n w' =>
    cases n <;> simp only [Oper.upon] at h <;> first
      | exact h
      | (obtain ⟨e, w2, fr, h1, _⟩ := h []
         cases e <;> first | exact h1 | (obtain ⟨_, _, h2⟩ := h1; exact h2))
      | (obtain ⟨v, w2, h1, _⟩ := h (Frame.enter P 0 #[] .normal) []; exact h1)
  | halt x w' => cases x <;> simp only [Oper.upon] at h <;> exact h

/-- What comes early comes about. -/
theorem peekX (ok : T.Ok) (S : Static T nt ops) (hp : PermOk T ops perm rk ob c) (hb : M0.next = base) {i : Nat} {oi : Oper} (hi : ops[i]? = some oi) :
    ∀ {pre post acc : List Nat} {ι : Inj} {st : St} {a : Act} {w : World}, nt ≤ st.n → CI T ops base rk c ι0 M0 w0 (pre ++ i :: post) ι st a w → (pre ++ i :: post).Pairwise (Rl T ops ob) → (∀ j ∈ pre, bf (masks ops.toList []) j i = false) →
      wX T ops base rk ob (pre ++ i :: post) acc st K → ∃ st' K', Ag ops oi st'.t st.t ∧ stepX T ops (base + rk.getD i 0) oi st' K' := by
  intro pre
  induction pre with
  | nil =>
    intro post acc ι st a w _ _ _ _ h
    simp only [List.nil_append] at h
    unfold wX at h
    rw [hi, bindO_some] at h
    exact ⟨st, _, Ag.refl _, h⟩
  | cons j pre ih =>
    intro post acc ι st a w hn I hpw hnb h
    simp only [List.cons_append] at h hpw I
    unfold wX at h
    obtain ⟨oj, hj, h⟩ := bindO_elim h
    obtain ⟨hpj, hpw⟩ := List.pairwise_cons.1 hpw
    have R := hpj i (by simp)
    have A := apart_of S hi hj R.ne R.nb (hnb j (by simp))
    have key := execX (Q := fun _ _ _ => ∃ st' K', Ag ops oi st'.t st.t ∧ stepX T ops (base + rk.getD i 0) oi st' K') (Kc := fun _ _ => ∃ st' K', Ag ops oi st'.t st.t ∧ stepX T ops (base + rk.getD i 0) oi st' K')
      ok S hp hn hb I hj (by simp) (rest := pre ++ i :: post) (fun k hk => ⟨by simp only [List.mem_cons]; exact .inr hk, (hpj k hk).ne.symm⟩) (stepX_form h) (by
        rintro ι' a' w' s I' hsn ⟨⟨_, hs⟩, y, N, rfl⟩
        obtain ⟨st', K', h1, h2⟩ := ih (by rw [hsn]; exact hn) I' hpw (fun j' hj' => hnb j' (by simp [hj'])) hs
        exact ⟨st', K', h1.trans (Ag.setd st.t y A.ij), h2⟩)
    rcases key with ⟨_, h1⟩ | ⟨_, h1⟩
    · exact h1
    · exact wp_const h1

end

theorem filter_set {listed : Array Bool} {i : Nat} (hi : i < listed.size) : ∀ {l pre post : List Nat}, l.Nodup → l.filter (fun j => !listed.getD j false) = pre ++ i :: post →
    l.filter (fun j => !(listed.setIfInBounds i true).getD j false) = pre ++ post := by
  intro l pre post hnd h
  have e : (fun j => !(listed.setIfInBounds i true).getD j false) = fun j => (!listed.getD j false) && decide (j ≠ i) := by
    funext j
    rw [getD_set listed i j hi]
    by_cases hj : j = i
    · simp [hj]
    · simp [hj]
  rw [e]
  have : (l.filter fun j => (!listed.getD j false) && decide (j ≠ i)) = (l.filter fun j => !listed.getD j false).filter fun j => decide (j ≠ i) := by
    rw [List.filter_filter]
    congr 1
    funext j
    rw [Bool.and_comm]
  rw [this, h]
  have hnd2 : (pre ++ i :: post).Nodup := h ▸ hnd.filter _
  rw [List.nodup_append] at hnd2
  obtain ⟨_, h2, h3⟩ := hnd2
  rw [List.nodup_cons] at h2
  rw [List.filter_append, List.filter_cons]
  simp only [ne_eq, not_true_eq_false, decide_false, Bool.false_eq_true, if_false]
  rw [List.filter_eq_self.2, List.filter_eq_self.2]
  · intro a ha
    simp only [decide_eq_true_eq]
    intro he; subst he; exact h2.1 ha
  · intro a ha
    simp only [decide_eq_true_eq]
    intro he; subst he; exact h3 a ha a (by simp) rfl

/-- The rule for an open region: one order is given, of those that the edges allow. -/
theorem wpa_x {T : Tab} (ok : T.Ok) (hmix : T.P.follows .mixedOrders = true) {nt id : Nat} {ops : Array Oper} (S : Static T nt ops) {st0 : St} (hn : nt ≤ st0.n) {Q : Ex → St → Prop} {perm rk : List Nat} {ob : List (List Nat)} {c : Nat}
    (hpb : permB T ops perm rk ob c = true) (h : wX T ops st0.m.next rk ob perm [] { n := st0.n, t := st0.t, m := { next := st0.m.next + c, rows := st0.m.rows } } (Q .normal)) : WpA T.P (.region id ops true) st0 Q := by
  have hp := permB_ok hpb
  have hnd : perm.Nodup := hp.pair.imp fun h => h.ne
  intro ι0 a0 w0 hs
  refine wp_region_any hmix ?_
  have key : ∀ (fuel : Nat) (listed : Array Bool) (a : Act) (w : World) (ι : Inj) (st : St), CI T ops st0.m.next rk c ι0 st0.m w0 (perm.filter fun j => !listed.getD j false) ι st a w → listed.size = ops.size →
      Closed ops.toList (fun j => listed.getD j false) → unl listed ops.size ≤ fuel → nt ≤ st.n → wX T ops st0.m.next rk ob (perm.filter fun j => !listed.getD j false) [] st (Q .normal) →
      wpAny T.P .any ops (Post ι0 st0.m w0 Q) fuel listed a w := by
    have fin : ∀ (listed : Array Bool) (a : Act) (w : World) (ι : Inj) (st : St), CI T ops st0.m.next rk c ι0 st0.m w0 (perm.filter fun j => !listed.getD j false) ι st a w → (∀ j, j < ops.size → listed.getD j false = true) →
        wX T ops st0.m.next rk ob (perm.filter fun j => !listed.getD j false) [] st (Q .normal) → Post ι0 st0.m w0 Q .normal a w := by
      intro listed a w ι st I hall hx
      have : (perm.filter fun j => !listed.getD j false) = [] := by
        rw [List.filter_eq_nil_iff]
        intro j hj
        rw [hall j (hp.lt j hj)]; simp
      rw [this] at hx
      exact ⟨ι, .normal, st, rfl, I.str, I.stp, hx⟩
    intro fuel
    induction fuel with
    | zero =>
      intro listed a w ι st I hsz hcl hun hnst hx
      have hall := unl_zero (show unl listed ops.size = 0 by omega)
      refine ⟨?_, fin listed a w ι st I hall hx⟩
      apply List.eq_nil_iff_forall_not_mem.2
      intro i hrdy
      obtain ⟨h0, o, ho, _⟩ := mem_ready.1 hrdy
      have hlt : i < ops.size := (Array.getElem?_eq_some_iff.1 ho).1
      have := hall i hlt
      rw [Array.getD_eq_getD_getElem?, Array.getElem?_eq_getElem (by omega)] at h0 this
      simp only [Option.getD_some] at h0 this
      rw [h0] at this; cases this
    | succ fuel ih =>
      intro listed a w ι st I hsz hcl hun hnst hx
      refine ⟨fun hnil => ?_, fun i hrdy => ?_⟩
      · refine fin listed a w ι st I (fun i => ?_) hx
        induction i using Nat.strongRecOn with
        | _ i ihi =>
          intro hi
          cases hL : listed.getD i false with
          | true => rfl
          | false =>
            exfalso
            have : i ∈ Region.ready .any ops listed := by
              refine mem_ready.2 ⟨?_, ops[i], by simp [hi], fun e he hb => ?_⟩
              · rw [Array.getD_eq_getD_getElem?, Array.getElem?_eq_getElem (by omega)] at hL ⊢
                exact hL
              · have := S.back i ops[i] (by simp [hi]) e (by simpa using he) hb
                exact ihi e.on this (by omega)
            rw [hnil] at this
            cases this
      · obtain ⟨h0, o, ho, hedge⟩ := mem_ready.1 hrdy
        have hlt : i < ops.size := (Array.getElem?_eq_some_iff.1 ho).1
        have hLi : listed.getD i false = false := by
          rw [Array.getD_eq_getD_getElem?, Array.getElem?_eq_getElem (by omega)] at h0 ⊢
          exact h0
        have hr : ∀ e ∈ o.after.toList, bindsB e = true → listed.getD e.on false = true := fun e he hb => hedge e (by simpa using he) hb
        have hun' : unl (listed.setIfInBounds i true) ops.size ≤ fuel := by
          have := unl_set listed i (by omega) hLi ops.size
          rw [if_pos hlt] at this
          omega
        have hsz' : (listed.setIfInBounds i true).size = ops.size := by simp [hsz]
        have hgd := fun j => getD_set listed i j (by omega)
        have hcl' : Closed ops.toList (fun j => (listed.setIfInBounds i true).getD j false) := by
          intro j oj hj hLj e he hb
          simp only at hLj ⊢
          rw [hgd] at hLj ⊢
          by_cases hji : j = i
          · subst hji
            have : ops.toList[j]? = some o := by simpa using ho
            rw [this] at hj; injection hj with hj; subst hj
            rw [hr e he hb]; simp
          · simp only [hji, decide_false, Bool.false_or] at hLj
            have := hcl j oj hj hLj e he hb
            simp only at this
            rw [this]; simp
        have him : i ∈ perm.filter fun j => !listed.getD j false := by
          rw [List.mem_filter]
          exact ⟨hp.all i hlt, by rw [hLi]; rfl⟩
        obtain ⟨pre, post, hpp⟩ := List.append_of_mem him
        have hpend' := filter_set (by omega) hnd hpp
        have hpw : (pre ++ i :: post).Pairwise (Rl T ops ob) := hpp ▸ hp.pair.sublist List.filter_sublist
        obtain ⟨hpw1, hpw2, hpw3⟩ := List.pairwise_append.1 hpw
        obtain ⟨hpw4, hpw5⟩ := List.pairwise_cons.1 hpw2
        have hprenl : ∀ j ∈ pre, listed.getD j false = false := fun j hj => by
          have : j ∈ perm.filter fun j => !listed.getD j false := by rw [hpp]; simp [hj]
          rw [List.mem_filter] at this
          simpa using this.2
        have hnb : ∀ j ∈ pre, bf (masks ops.toList []) j i = false := fun j hj => by
          cases hb : bf (masks ops.toList []) j i with
          | false => rfl
          | true =>
            have := closed_bf S.back hcl i o (by simpa using ho) hr hb
            have h2 := hprenl j hj
            rw [h2] at this; cases this
        have hpre : ∀ j ∈ pre, Rl T ops ob j i ∧ bf (masks ops.toList []) j i = false := fun j hj => ⟨hpw3 j hj i (by simp), hnb j hj⟩
        rw [hpp] at hx I
        have hrest : ∀ j ∈ pre ++ post, j ∈ pre ++ i :: post ∧ j ≠ i := fun j hj => by
          rw [List.mem_append] at hj
          rcases hj with hj | hj
          · exact ⟨by simp [hj], (hpw3 j hj i (by simp)).ne⟩
          · exact ⟨by simp [hj], (hpw4 j hj).ne.symm⟩
        -- the operation comes first
        have hfirst : stepX T ops (st0.m.next + rk.getD i 0) o st fun s => wX T ops st0.m.next rk ob (pre ++ post) [] s (Q .normal) := by
          have early : cls T o = .pure ∨ cls T o = .flt → stepX T ops (st0.m.next + rk.getD i 0) o st fun s => wX T ops st0.m.next rk ob (pre ++ post) [] s (Q .normal) := fun hc => by
            obtain ⟨st', K', hag, hst'⟩ := peekX ok S hp rfl ho hnst I hpw hnb hx
            obtain ⟨x, r, hE, h1, h2, h3⟩ := early_of hc hst'
            have hE := hE.ag hag.symm
            refine (hE st.n st.t st.m _ (Ag.refl _)).2 (wX_early S hp ho (fun hne => (h2 hne).1) hpre (by simp) hE ?_ hx)
            by_cases hrn : r = none
            · exact .inl hrn
            · obtain ⟨hcf, _⟩ := h2 hrn
              refine .inr ⟨?_, ?_⟩
              · cases hg : st.m.get (st0.m.next + rk.getD i 0) with
                | none => rfl
                | some row =>
                  obtain ⟨l, hl, _⟩ := I.str.2.2.2.live _ _ hg
                  have := I.fl i (by simp) o ho hcf
                  rw [this] at hl; cases hl
              · have := hp.fid i o ho hcf
                have := I.nxt
                show st0.m.next + rk.getD i 0 < st.m.next
                omega
          cases hc : cls T o with
          | pure => exact early (.inl hc)
          | flt => exact early (.inr hc)
          | read => exact stepX_mono (fun s hs => hs.2) (wX_front S hp ho (.inl hc) hpre (by simp) hpw1 hx)
          | eff => exact stepX_mono (fun s hs => hs.2) (wX_front S hp ho (.inr hc) hpre (by simp) hpw1 hx)
        have key := execX (Q := Post ι0 st0.m w0 Q) (Kc := wpAny T.P .any ops (Post ι0 st0.m w0 Q) fuel (listed.setIfInBounds i true)) ok S hp hnst rfl I ho (by simp) hrest hfirst (by
          intro ι' a' w' s I' hsn hs
          exact ih _ a' w' ι' s (by rw [hpend']; exact I') hsz' hcl' hun' (by rw [hsn]; exact hnst) (by rw [hpend']; exact hs))
        unfold wpOp
        rw [ho]
        simp only
        rcases key with ⟨hw, h1⟩ | ⟨hw, h1⟩
        · rw [wantedA_ok I.str.2.1 hw, if_neg (by simp)]
          exact h1
        · rw [wantedA_ok I.str.2.1 hw, if_pos rfl]
          exact .inl h1
  have hemp : ∀ j, (Array.replicate ops.size false).getD j false = false := fun j => by
    simp [Array.getElem?_replicate]
    split <;> simp
  have hpe : (perm.filter fun j => !(Array.replicate ops.size false).getD j false) = perm := by
    rw [List.filter_eq_self]
    intro j _
    rw [hemp]; rfl
  have h0 : Stp ι0 st0.m w0 ι0 st0.m { w0 with drawn := w0.drawn + 1 } := Stp.of_heap hs.2.2.2 rfl rfl rfl rfl
  have h1 : Stp ι0 st0.m w0 ι0 { next := st0.m.next + c, rows := st0.m.rows } { w0 with drawn := w0.drawn + 1 } := h0.forget (Nat.le_add_right _ _) (fun b r h => h)
  refine key ops.size _ a0 _ ι0 { n := st0.n, t := st0.t, m := { next := st0.m.next + c, rows := st0.m.rows } } ⟨⟨hs.1, hs.2.1, hs.2.2.1, h1.rel⟩, h1, Nat.le_refl _, fun i _ o _ _ => ?_⟩ (by simp) ?_ ?_ hn ?_
  · cases hq : ι0 (st0.m.next + rk.getD i 0) with
    | none => rfl
    | some l => have := hs.2.2.2.dom _ _ hq; omega
  · intro j oj _ hL
    simp only at hL
    rw [hemp] at hL; cases hL
  · unfold unl
    exact Nat.le_trans (List.countP_le_length) (by simp)
  · rw [hpe]; exact h

end Go.AM

/- The abstract machine, part 34: the rule for open regions, made ready for steps. -/
namespace Go.AM

def sameD (t : Tr AV) : Option Tmp → AV → Prop
  | none, _ => True
  | some d, x => t.get d = some x

/-- One that was read is read again. -/
def chkR (T : Tab) (ops : Array Oper) (s : St) (j : Nat) : Prop :=
  bindO ops[j]? fun o => bindO (wantedA ops s.t o) fun b => condB b (bindO (evalOp T s.t o s.m) fun y => sameD s.t o.dst y.1) True

theorem chkR_ok {T : Tab} {ops : Array Oper} {s : St} {j : Nat} (h : chkR T ops s j) : chk1 T ops s j := by
  intro o ho hw
  unfold chkR at h
  rw [ho, bindO_some, hw, bindO_some, condB_true] at h
  obtain ⟨⟨x, M'⟩, hx, h⟩ := bindO_elim h
  refine ⟨x, M', hx, fun d hd => ?_⟩
  rw [hd] at h
  exact h

def chkA (T : Tab) (ops : Array Oper) : List Nat → St → (St → Prop) → Prop
  | [], s, K => K s
  | k :: ks, s, K => chkR T ops s k ∧ chkA T ops ks s K

theorem chkA_ok {T : Tab} {ops : Array Oper} {s : St} {K : St → Prop} : ∀ {ks : List Nat}, chkA T ops ks s K → chkL T ops ks s ∧ K s
  | [], h => ⟨fun j hj => by simp at hj, h⟩
  | k :: ks, h => by
    obtain ⟨h1, h2⟩ := chkA_ok h.2
    refine ⟨fun j hj => ?_, h2⟩
    simp only [List.mem_cons] at hj
    rcases hj with rfl | hj
    · exact chkR_ok h.1
    · exact h1 j hj

def wY (T : Tab) (ops : Array Oper) (base : Nat) (rk : List Nat) : List (Nat × List Nat) → St → (St → Prop) → Prop
  | [], st, K => K st
  | i :: is, st, K => bindO ops[i.1]? fun o => stepX T ops (base + rk.getD i.1 0) o st fun s => chkA T ops i.2 s fun s => wY T ops base rk is s K

def mkSteps (ob : List (List Nat)) : List Nat → List Nat → List (Nat × List Nat)
  | [], _ => []
  | i :: is, acc => (i, obs ob i acc) :: mkSteps ob is (i :: acc)

theorem wY_wX {T : Tab} {ops : Array Oper} {base : Nat} {rk : List Nat} {ob : List (List Nat)} {K : St → Prop} : ∀ {perm acc : List Nat} {st : St}, wY T ops base rk (mkSteps ob perm acc) st K → wX T ops base rk ob perm acc st K
  | [], _, _, h => h
  | i :: is, acc, st, h => by
    unfold mkSteps wY at h
    unfold wX
    obtain ⟨o, ho, h⟩ := bindO_elim h
    simp only at ho h
    rw [ho, bindO_some]
    refine stepX_mono (fun s hs => ?_) h
    obtain ⟨h1, h2⟩ := chkA_ok hs
    exact ⟨h1, wY_wX h2⟩

/-- The rule for an open region: the steps, which reads are looked at again, the numbers of what is made, how many. -/
theorem wpa_y {T : Tab} (ok : T.Ok) (hmix : T.P.follows .mixedOrders = true) (nt : Nat) {id : Nat} {ops : Array Oper} (S : staticB T nt ops = true) {st0 : St} (hn : nt ≤ st0.n) {Q : Ex → St → Prop} (steps : List (Nat × List Nat)) (rk : List Nat) (ob : List (List Nat)) (c : Nat)
    (hpb : permB T ops (steps.map (·.1)) rk ob c = true) (hst : mkSteps ob (steps.map (·.1)) [] = steps)
    (h : wY T ops st0.m.next rk steps { n := st0.n, t := st0.t, m := { next := st0.m.next + c, rows := st0.m.rows } } (Q .normal)) : WpA T.P (.region id ops true) st0 Q :=
  wpa_x ok hmix (staticB_ok S) hn hpb (wY_wX (by rw [hst]; exact h))

section
variable {T : Tab} {ops : Array Oper} {base : Nat} {rk : List Nat} {st : St} {K : St → Prop}
end

end Go.AM

/- The abstract machine, part 35: a function's text as what has to be shown, with values of known kinds and no frame in sight. -/
namespace Go.AM

/-- Kinds of values, as far as they are told apart. -/
inductive LK where
  | any
  | int (k : IntKind)
  | bool

inductive CK where
  | l (x : LK)
  | a (xs : List LK)

inductive SK where
  | non
  | int (k : IntKind)
  | bool
  | spl
  | ptr
  | agg (ls : List LK)
  | tup (cs : List CK)

def zI (k : IntKind) (v : AV) (K : Int → Prop) : Prop :=
  match v with
  | .val (.int k' z) => condB (kindBeq k' k) (K z) False
  | _ => False
def zB (v : AV) (K : Bool → Prop) : Prop :=
  match v with
  | .val (.bool b) => K b
  | _ => False
def zSB (v : AV) (p q : Prop) : Prop :=
  match v with
  | .val (.bool b) => condB b p q
  | _ => False
def zP (v : AV) (K : Nat → Nat → Prop) : Prop :=
  match v with
  | .ptr b o => K b o
  | _ => False
def zL (k : LK) (v : AV) (K : AV → Prop) : Prop :=
  match k with
  | .any => K v
  | .int k => zI k v fun z => K (.val (.int k z))
  | .bool => zB v fun b => K (.val (.bool b))
def exLs : List LK → (List AV → Prop) → Prop
  | [], f => f []
  | .any :: r, f => ∃ v : AV, exLs r fun vs => f (v :: vs)
  | .int k :: r, f => ∃ z : Int, exLs r fun vs => f (.val (.int k z) :: vs)
  | .bool :: r, f => ∃ b : Bool, exLs r fun vs => f (.val (.bool b) :: vs)
def exCs : List CK → (List AV → Prop) → Prop
  | [], f => f []
  | .l .any :: r, f => ∃ v : AV, exCs r fun vs => f (v :: vs)
  | .l (.int k) :: r, f => ∃ z : Int, exCs r fun vs => f (.val (.int k z) :: vs)
  | .l .bool :: r, f => ∃ b : Bool, exCs r fun vs => f (.val (.bool b) :: vs)
  | .a xs :: r, f => exLs xs fun us => exCs r fun vs => f (.agg us :: vs)
def zA (ls : List LK) (v : AV) (K : List AV → Prop) : Prop := exLs ls fun vs => v = .agg vs ∧ K vs
def zC (k : CK) (v : AV) (K : AV → Prop) : Prop :=
  match k with
  | .l x => zL x v K
  | .a xs => zA xs v fun vs => K (.agg vs)
def zCs : List CK → List AV → (List AV → Prop) → Prop
  | [], [], K => K []
  | c :: cs, v :: vs, K => zC c v fun v' => zCs cs vs fun vs' => K (v' :: vs')
  | _, _, _ => False
def zT (cs : List CK) (v : AV) (K : List AV → Prop) : Prop := exCs cs fun vs => v = .tup vs ∧ K vs
def asK (k : SK) (v : AV) (K : AV → Prop) : Prop :=
  match k with
  | .non => K v
  | .int k => zI k v fun z => K (.val (.int k z))
  | .bool => zB v fun b => K (.val (.bool b))
  | .spl => zSB v (K (.val (.bool true))) (K (.val (.bool false)))
  | .ptr => zP v fun b o => K (.ptr b o)
  | .agg ls => zA ls v fun vs => K (.agg vs)
  | .tup cs => zT cs v fun vs => K (.tup vs)

theorem zI_elim {k : IntKind} {v : AV} {K : Int → Prop} (h : zI k v K) : ∃ z, v = .val (.int k z) ∧ K z := by
  unfold zI at h
  split at h
  · rename_i k' z
    cases hk : kindBeq k' k with
    | true => rw [hk] at h; rw [kindBeq_eq hk]; exact ⟨z, rfl, h⟩
    | false => rw [hk] at h; exact h.elim
  · exact h.elim
theorem zB_elim {v : AV} {K : Bool → Prop} (h : zB v K) : ∃ z, v = .val (.bool z) ∧ K z := by
  unfold zB at h
  split at h
  · exact ⟨_, rfl, h⟩
  · exact h.elim
theorem zSB_elim {v : AV} {p q : Prop} (h : zSB v p q) : (v = .val (.bool true) ∧ p) ∨ (v = .val (.bool false) ∧ q) := by
  unfold zSB at h
  split at h
  · rename_i b
    cases b with
    | true => exact .inl ⟨rfl, h⟩
    | false => exact .inr ⟨rfl, h⟩
  · exact h.elim
theorem zP_elim {v : AV} {K : Nat → Nat → Prop} (h : zP v K) : ∃ b o, v = .ptr b o ∧ K b o := by
  unfold zP at h
  split at h
  · exact ⟨_, _, rfl, h⟩
  · exact h.elim
theorem zL_elim {k : LK} {v : AV} {K : AV → Prop} (h : zL k v K) : K v := by
  cases k with
  | any => exact h
  | int k => obtain ⟨z, rfl, h'⟩ := zI_elim h; exact h'
  | bool => obtain ⟨z, rfl, h'⟩ := zB_elim h; exact h'
theorem exLs_elim : ∀ {ls : List LK} {f : List AV → Prop}, exLs ls f → ∃ vs, f vs
  | [], _, h => ⟨[], h⟩
  | .any :: r, f, ⟨v, h⟩ => (exLs_elim (ls := r) h).elim fun vs hv => ⟨_, hv⟩
  | .int k :: r, f, ⟨v, h⟩ => (exLs_elim (ls := r) h).elim fun vs hv => ⟨_, hv⟩
  | .bool :: r, f, ⟨v, h⟩ => (exLs_elim (ls := r) h).elim fun vs hv => ⟨_, hv⟩
theorem exCs_elim : ∀ {ls : List CK} {f : List AV → Prop}, exCs ls f → ∃ vs, f vs
  | [], _, h => ⟨[], h⟩
  | .l .any :: r, f, ⟨v, h⟩ => (exCs_elim (ls := r) h).elim fun vs hv => ⟨_, hv⟩
  | .l (.int k) :: r, f, ⟨v, h⟩ => (exCs_elim (ls := r) h).elim fun vs hv => ⟨_, hv⟩
  | .l .bool :: r, f, ⟨v, h⟩ => (exCs_elim (ls := r) h).elim fun vs hv => ⟨_, hv⟩
  | .a xs :: r, f, h => by
    obtain ⟨us, h⟩ := exLs_elim (ls := xs) h
    obtain ⟨vs, h⟩ := exCs_elim (ls := r) h
    exact ⟨_, h⟩
theorem exLs_mono : ∀ {ls : List LK} {f g : List AV → Prop}, (∀ vs, f vs → g vs) → exLs ls f → exLs ls g
  | [], _, _, hk, h => hk _ h
  | .any :: r, _, _, hk, ⟨v, h⟩ => ⟨v, exLs_mono (ls := r) (fun vs hv => hk _ hv) h⟩
  | .int k :: r, _, _, hk, ⟨v, h⟩ => ⟨v, exLs_mono (ls := r) (fun vs hv => hk _ hv) h⟩
  | .bool :: r, _, _, hk, ⟨v, h⟩ => ⟨v, exLs_mono (ls := r) (fun vs hv => hk _ hv) h⟩
theorem exCs_mono : ∀ {ls : List CK} {f g : List AV → Prop}, (∀ vs, f vs → g vs) → exCs ls f → exCs ls g
  | [], _, _, hk, h => hk _ h
  | .l .any :: r, _, _, hk, ⟨v, h⟩ => ⟨v, exCs_mono (ls := r) (fun vs hv => hk _ hv) h⟩
  | .l (.int k) :: r, _, _, hk, ⟨v, h⟩ => ⟨v, exCs_mono (ls := r) (fun vs hv => hk _ hv) h⟩
  | .l .bool :: r, _, _, hk, ⟨v, h⟩ => ⟨v, exCs_mono (ls := r) (fun vs hv => hk _ hv) h⟩
  | .a xs :: r, f, g, hk, h => exLs_mono (ls := xs) (f := fun us => exCs r fun vs => f (.agg us :: vs)) (g := fun us => exCs r fun vs => g (.agg us :: vs)) (fun us hu => exCs_mono (ls := r) (fun vs hv => hk _ hv) hu) h
theorem zA_elim {ls : List LK} {v : AV} {K : List AV → Prop} (h : zA ls v K) : ∃ vs, v = .agg vs ∧ K vs := exLs_elim h
theorem zC_elim {k : CK} {v : AV} {K : AV → Prop} (h : zC k v K) : K v := by
  cases k with
  | l x => exact zL_elim h
  | a xs => obtain ⟨vs, rfl, h'⟩ := zA_elim h; exact h'
theorem zCs_elim : ∀ {ls : List CK} {vs : List AV} {K : List AV → Prop}, zCs ls vs K → K vs
  | [], [], _, h => h
  | [], _ :: _, _, h => h.elim
  | _ :: _, [], _, h => h.elim
  | _ :: ls, v :: vs, K, h => zCs_elim (ls := ls) (vs := vs) (K := fun vs' => K (v :: vs')) (zC_elim (K := fun v' => zCs ls vs fun vs' => K (v' :: vs')) h)
theorem zT_elim {ls : List CK} {v : AV} {K : List AV → Prop} (h : zT ls v K) : ∃ vs, v = .tup vs ∧ K vs := exCs_elim h
theorem asK_elim {k : SK} {v : AV} {K : AV → Prop} (h : asK k v K) : K v := by
  cases k with
  | non => exact h
  | int k => obtain ⟨z, rfl, h'⟩ := zI_elim h; exact h'
  | bool => obtain ⟨z, rfl, h'⟩ := zB_elim h; exact h'
  | spl => rcases zSB_elim (p := K (.val (.bool true))) (q := K (.val (.bool false))) h with ⟨rfl, h'⟩ | ⟨rfl, h'⟩ <;> exact h'
  | ptr => obtain ⟨b, o, rfl, h'⟩ := zP_elim (K := fun b o => K (.ptr b o)) h; exact h'
  | agg ls => obtain ⟨vs, rfl, h'⟩ := zA_elim (K := fun vs => K (.agg vs)) h; exact h'
  | tup cs => obtain ⟨vs, rfl, h'⟩ := zT_elim (K := fun vs => K (.tup vs)) h; exact h'

/-! ## What a loop keeps -/

def JT : List LK → Type
  | [] => Nat → Mem → Prop
  | .any :: r => AV → JT r
  | .int _ :: r => Int → JT r
  | .bool :: r => Bool → JT r

def apJ : (ks : List LK) → JT ks → List AV → Nat → Mem → Prop
  | [], J, [], n, m => J n m
  | .any :: r, J, v :: vs, n, m => apJ r (J v) vs n m
  | .int k :: r, J, v :: vs, n, m => zI k v fun z => apJ r (J z) vs n m
  | .bool :: r, J, v :: vs, n, m => zB v fun b => apJ r (J b) vs n m
  | _, _, _, _, _ => False

def allL : (ks : List LK) → (List AV → Prop) → Prop
  | [], f => f []
  | .any :: r, f => ∀ v : AV, allL r fun vs => f (v :: vs)
  | .int k :: r, f => ∀ z : Int, allL r fun vs => f (.val (.int k z) :: vs)
  | .bool :: r, f => ∀ b : Bool, allL r fun vs => f (.val (.bool b) :: vs)

theorem allL_elim : ∀ {ks : List LK} {J : JT ks} {vs : List AV} {n : Nat} {m : Mem} {f : List AV → Prop}, allL ks f → apJ ks J vs n m → f vs
  | [], _, [], _, _, _, h, _ => h
  | [], _, _ :: _, _, _, _, _, hj => hj.elim
  | .any :: r, J, [], _, _, _, _, hj => hj.elim
  | .int k :: r, J, [], _, _, _, _, hj => hj.elim
  | .bool :: r, J, [], _, _, _, _, hj => hj.elim
  | .any :: r, J, v :: vs, n, m, f, h, hj => allL_elim (ks := r) (J := J v) (f := fun vs => f (v :: vs)) (h v) hj
  | .int k :: r, J, v :: vs, n, m, f, h, hj => by
    obtain ⟨z, rfl, hj'⟩ := zI_elim hj
    exact allL_elim (ks := r) (J := J z) (f := fun vs => f (.val (.int k z) :: vs)) (h z) hj'
  | .bool :: r, J, v :: vs, n, m, f, h, hj => by
    obtain ⟨z, rfl, hj'⟩ := zB_elim hj
    exact allL_elim (ks := r) (J := J z) (f := fun vs => f (.val (.bool z) :: vs)) (h z) hj'

/-! ## What is noted down of a piece of code -/

inductive An where
  | z
  | reg (ks : List SK)
  | opn (steps : List (Nat × List Nat)) (rk : List Nat) (ob : List (List Nat)) (c : Nat) (ks : List SK)
  | seq (a b : An)
  | cnd (a b : An)
  | blk (a : An)
  | lop (sl : List (Tmp × LK)) (junk : List Tmp) (a : An)
  | scp (L F : Nat) (ap : An) (sl : List (Tmp × LK)) (junk : List Tmp) (ar aF : An)

/-- What of a scope stands ahead of a label, and what behind it. -/
def posL (L : Nat) : Code → Option (Code × Code)
  | .seq a b => match a with
    | .label l => cond (Nat.beq l L) (some (.skip, b)) (match posL L b with
      | some (p, r) => some (.seq (.label l) p, r)
      | none => none)
    | a => match findLabel a L with
      | some _ => none
      | none => match posL L b with
        | some (p, r) => some (.seq a p, r)
        | none => none
  | _ => none
/-- A jump goes back, or on, or nowhere. -/
def onJump (L F : Nat) (B K : St → Prop) (Q : Ex → St → Prop) : Ex → St → Prop
  | .goto l, s => cond (Nat.beq l L) (B s) (cond (Nat.beq l F) (K s) False)
  | ex, s => Q ex s
def onBack (L : Nat) (B : St → Prop) (Q : Ex → St → Prop) : Ex → St → Prop
  | .goto l, s => cond (Nat.beq l L) (B s) False
  | ex, s => Q ex s
def noJump (K : St → Prop) (Q : Ex → St → Prop) : Ex → St → Prop
  | .normal, s => K s
  | .goto _, _ => False
  | ex, s => Q ex s

def zStep (T : Tab) (ops : Array Oper) (id : Nat) (o : Oper) (k : SK) (st : St) (K : St → Prop) : Prop :=
  bindO (wantedA ops st.t o) fun b => condB b
    (clsE (cls T o)
      (wO T o st fun x M' => asK k x fun x => K (stX st o.dst x M'))
      (bindO (evFl T st.t o id) fun y => asK k y.1 fun x => K (stX st o.dst x (st.m.put id y.2)))
      (bindO (evalOp T st.t o st.m) fun y => asK k y.1 fun x => K (stX st o.dst x st.m)))
    (K (stX st o.dst undefA st.m))

def headK : List SK → SK
  | [] => .non
  | k :: _ => k

/-- Operations, one behind the other (what makes a block makes the next one). -/
def zO (T : Tab) (ops : Array Oper) : List Oper → List SK → St → (St → Prop) → Prop
  | [], _, st, K => K st
  | o :: r, ks, st, K => bindO (wantedA ops st.t o) fun b => condB b
      (clsE (cls T o)
        (wO T o st fun x M' => asK (headK ks) x fun x => zO T ops r ks.tail (stX st o.dst x M') K)
        (bindO (evalOp T st.t o st.m) fun y => asK (headK ks) y.1 fun x => zO T ops r ks.tail (stX st o.dst x y.2) K)
        (bindO (evalOp T st.t o st.m) fun y => asK (headK ks) y.1 fun x => zO T ops r ks.tail (stX st o.dst x st.m) K))
      (zO T ops r ks.tail (stX st o.dst undefA st.m) K)

def zY (T : Tab) (ops : Array Oper) (base : Nat) (rk : List Nat) : List (Nat × List Nat) → List SK → St → (St → Prop) → Prop
  | [], _, st, K => K st
  | i :: is, ks, st, K => bindO ops[i.1]? fun o => zStep T ops (base + rk.getD i.1 0) o (headK ks) st fun s => chkA T ops i.2 s fun s => zY T ops base rk is ks.tail s K

def setS : List (Tmp × LK) → List AV → Tr AV → Tr AV
  | s :: sl, v :: vs, t => setS sl vs (t.set s.1 (some v))
  | _, _, t => t
def setJ (js : Nat → Option AV) : List Tmp → Tr AV → Tr AV
  | [], t => t
  | j :: r, t => setJ js r (t.set j (js j))
def slotsOf (t : Tr AV) (sl : List (Tmp × LK)) : List AV := sl.map fun s => (t.get s.1).getD undefA

def wZ (T : Tab) : An → Code → St → (Ex → St → Prop) → Prop
  | .z, c, st, Q => match c with
    | .skip => Q .normal st
    | .label _ => Q .normal st
    | .exit i => Q (.exit i) st
    | .goto l => Q (.goto l) st
    | .ret => Q .ret st
    | _ => False
  | .reg ks, c, st, Q => match c with
    | .region _ ops d => condB d False (zO T ops ops.toList ks st (Q .normal))
    | _ => False
  | .opn steps rk _ n ks, c, st, Q => match c with
    | .region _ ops d => condB d (zY T ops st.m.next rk steps ks { n := st.n, t := st.t, m := { next := st.m.next + n, rows := st.m.rows } } (Q .normal)) False
    | _ => False
  | .seq a b, c, st, Q => match c with
    | .seq x y => wZ T a x st (andThen (fun s => wZ T b y s Q) Q)
    | _ => False
  | .cnd a b, c, st, Q => match c with
    | .cond o x y => zB (opnd st.t o) fun v => condB v (wZ T a x st Q) (wZ T b y st Q)
    | _ => False
  | .blk a, c, st, Q => match c with
    | .block id x => wZ T a x st (onExit id Q)
    | _ => False
  | .lop sl junk a, c, st, Q => match c with
    | .loop x => ∃ J : JT (sl.map (·.2)), (∃ n, apJ (sl.map (·.2)) J (slotsOf st.t sl) n st.m) ∧
        ∀ js : Nat → Option AV, allL (sl.map (·.2)) fun vs => ∀ (n : Nat) (m : Mem), apJ (sl.map (·.2)) J vs n m →
          wZ T a x { n := st.n, t := setJ js junk (setS sl vs st.t), m := m } (andThen (fun s => ∃ k, k < n ∧ apJ (sl.map (·.2)) J (slotsOf s.t sl) k s.m) Q)
    | _ => False
  | .scp L F ap sl junk ar aF, c, st, Q => match c with
    | .scope x => match posL L x, posL F x with
      | some (p, r), some (_, f) => wZ T ap p st (noJump (fun s => ∃ J : JT (sl.map (·.2)), (∃ n, apJ (sl.map (·.2)) J (slotsOf s.t sl) n s.m) ∧
          ∀ js : Nat → Option AV, allL (sl.map (·.2)) fun vs => ∀ (n : Nat) (m : Mem), apJ (sl.map (·.2)) J vs n m →
            wZ T ar r { n := s.n, t := setJ js junk (setS sl vs s.t), m := m }
              (onJump L F (fun s => ∃ k, k < n ∧ apJ (sl.map (·.2)) J (slotsOf s.t sl) k s.m)
                (fun s => wZ T aF f s (onBack L (fun s => ∃ k, k < n ∧ apJ (sl.map (·.2)) J (slotsOf s.t sl) k s.m) Q)) Q)) Q)
      | _, _ => False
    | _ => False

/-! ## What is looked at once -/

def dstsOf : List Oper → List Tmp
  | [] => []
  | o :: r => match o.dst with
    | some d => d :: dstsOf r
    | none => dstsOf r

/-- The slots that are written. -/
def asgOf : An → Code → List Tmp
  | .reg _, c => match c with | .region _ ops _ => dstsOf ops.toList | _ => []
  | .opn .., c => match c with | .region _ ops _ => dstsOf ops.toList | _ => []
  | .seq a b, c => match c with | .seq x y => asgOf a x ++ asgOf b y | _ => []
  | .cnd a b, c => match c with | .cond _ x y => asgOf a x ++ asgOf b y | _ => []
  | .blk a, c => match c with | .block _ x => asgOf a x | _ => []
  | .lop sl junk _, c => match c with | .loop _ => sl.map (·.1) ++ junk | _ => []
  | .scp L _ ap sl junk _ _, c => match c with
    | .scope x => match posL L x with
      | some (p, _) => asgOf ap p ++ (sl.map (·.1) ++ junk)
      | none => []
    | _ => []
  | .z, _ => []

def memN (i : Nat) : List Nat → Bool
  | [] => false
  | j :: r => Nat.beq i j || memN i r
theorem memN_ok {i : Nat} : ∀ {l : List Nat}, memN i l = true ↔ i ∈ l
  | [] => by simp [memN]
  | j :: r => by simp [memN, memN_ok (l := r)]

def sameN : List Nat → List Nat → Bool
  | [], [] => true
  | a :: x, b :: y => Nat.beq a b && sameN x y
  | _, _ => false
theorem sameN_eq : ∀ {x y : List Nat}, sameN x y = true → x = y
  | [], [], _ => rfl
  | a :: x, b :: y, h => by
    simp only [sameN, Bool.and_eq_true, Nat.beq_eq] at h
    rw [h.1, sameN_eq h.2]
  | [], _ :: _, h => by cases h
  | _ :: _, [], h => by cases h
def sameSt : List (Nat × List Nat) → List (Nat × List Nat) → Bool
  | [], [] => true
  | a :: x, b :: y => (Nat.beq a.1 b.1 && sameN a.2 b.2) && sameSt x y
  | _, _ => false
theorem sameSt_eq : ∀ {x y : List (Nat × List Nat)}, sameSt x y = true → x = y
  | [], [], _ => rfl
  | (a, k) :: x, (b, l) :: y, h => by
    simp only [sameSt, Bool.and_eq_true, Nat.beq_eq] at h
    rw [h.1.1, sameN_eq h.1.2, sameSt_eq h.2]
  | [], _ :: _, h => by cases h
  | _ :: _, [], h => by cases h

def anB (T : Tab) (nt : Nat) : An → Code → Bool
  | .reg _, c => match c with | .region _ ops _ => (dstsOf ops.toList).all fun d => Nat.blt d nt | _ => false
  | .opn steps rk ob n _, c => match c with
    | .region _ ops _ => staticB T nt ops && (permB T ops (steps.map (·.1)) rk ob n && (sameSt (mkSteps ob (steps.map (·.1)) []) steps && (dstsOf ops.toList).all fun d => Nat.blt d nt))
    | _ => false
  | .seq a b, c => match c with | .seq x y => anB T nt a x && anB T nt b y | _ => false
  | .cnd a b, c => match c with | .cond _ x y => anB T nt a x && anB T nt b y | _ => false
  | .blk a, c => match c with | .block _ x => anB T nt a x | _ => false
  | .lop sl junk a, c => match c with | .loop x => anB T nt a x && (asgOf a x).all fun d => memN d (sl.map (·.1) ++ junk) | _ => false
  | .scp L F ap sl junk ar aF, c => match c with
    | .scope x => match posL L x, posL F x with
      | some (p, r), some (_, f) => anB T nt ap p && (anB T nt ar r && (anB T nt aF f && ((asgOf ar r ++ asgOf aF f).all fun d => memN d (sl.map (·.1) ++ junk))))
      | _, _ => false
    | _ => false
  | .z, _ => true

/-! ## It bears what has to be shown -/

section
variable {T : Tab} {ops : Array Oper}

theorem dstsOf_mem : ∀ {l : List Oper} {o : Oper} {d : Tmp}, o ∈ l → o.dst = some d → d ∈ dstsOf l
  | [], _, _, h, _ => by simp at h
  | p :: l, o, d, h, hd => by
    simp only [List.mem_cons] at h
    unfold dstsOf
    rcases h with rfl | h
    · rw [hd]; simp
    · have := dstsOf_mem h hd
      split
      · simp [this]
      · exact this

def Agr (t t' : Tr AV) (l : List Tmp) : Prop := ∀ i, i ∉ l → t'.get i = t.get i

theorem agr_setd {t : Tr AV} {d : Option Tmp} {x : AV} {l : List Tmp} (h : ∀ a, d = some a → a ∈ l) : Agr t (setd t d x) l := fun i hi => setd_get t x (fun he => hi (h i he))
theorem Agr.trans {t t' t'' : Tr AV} {l : List Tmp} (h : Agr t t' l) (k : Agr t' t'' l) : Agr t t'' l := fun i hi => (k i hi).trans (h i hi)
theorem Agr.refl {t : Tr AV} {l : List Tmp} : Agr t t l := fun _ _ => rfl
theorem Agr.sub {t t' : Tr AV} {l l' : List Tmp} (h : Agr t t' l) (hs : ∀ i ∈ l, i ∈ l') : Agr t t' l' := fun i hi => h i fun hm => hi (hs i hm)

theorem asK_mono {k : SK} {v : AV} {K K' : AV → Prop} (h : asK k v K) (hk : ∀ x, K x → K' x) : asK k v K' := by
  have hI : ∀ {k : IntKind} {v : AV} {K K' : Int → Prop}, zI k v K → (∀ x, K x → K' x) → zI k v K' := fun {k v K K'} h hk => by
    unfold zI at h ⊢
    split at h
    · rename_i k' z
      cases hb : kindBeq k' k with
      | true => rw [hb] at h; exact hk _ h
      | false => rw [hb] at h; exact h.elim
    · exact h.elim
  have hB : ∀ {v : AV} {K K' : Bool → Prop}, zB v K → (∀ x, K x → K' x) → zB v K' := fun {v K K'} h hk => by
    unfold zB at h ⊢
    split at h
    · exact hk _ h
    · exact h.elim
  have hL : ∀ {k : LK} {v : AV} {K K' : AV → Prop}, zL k v K → (∀ x, K x → K' x) → zL k v K' := fun {k v K K'} h hk => by
    cases k with
    | any => exact hk _ h
    | int k => exact hI h fun z hz => hk _ hz
    | bool => exact hB h fun z hz => hk _ hz
  cases k with
  | non => exact hk _ h
  | int k => exact hI h fun z hz => hk _ hz
  | bool => exact hB h fun z hz => hk _ hz
  | spl =>
    unfold asK zSB at h ⊢
    simp only at h ⊢
    split at h
    · rename_i b
      cases b with
      | true => exact hk _ h
      | false => exact hk _ h
    · exact h.elim
  | ptr =>
    unfold asK zP at h ⊢
    simp only at h ⊢
    split at h
    · exact hk _ h
    · exact h.elim
  | agg ls => exact exLs_mono (fun vs hvs => ⟨hvs.1, hk _ hvs.2⟩) h
  | tup cs => exact exCs_mono (fun vs hvs => ⟨hvs.1, hk _ hvs.2⟩) h

theorem wO_mono {o : Oper} {st : St} {K K' : AV → Mem → Prop} (h : wO T o st K) (hk : ∀ x M, K x M → K' x M) : wO T o st K' := by
  unfold wO at h ⊢
  cases hcal : calleeA st.t o with
  | some c =>
    rw [hcal, caseO_some] at h
    rw [caseO_some]
    obtain ⟨F, hF, h⟩ := bindO_elim h
    rw [hF, bindO_some]
    exact h.mono hk
  | none =>
    rw [hcal, caseO_none] at h
    rw [caseO_none]
    obtain ⟨y, hy, h⟩ := bindO_elim h
    rw [hy, bindO_some]
    exact hk _ _ h

theorem zStep_step {id : Nat} {o : Oper} {k : SK} {st : St} {K : St → Prop} (h : zStep T ops id o k st K) : stepX T ops id o st K := by
  unfold zStep at h
  unfold stepX
  obtain ⟨b, hw, h⟩ := bindO_elim h
  rw [hw, bindO_some]
  cases b with
  | false => exact h
  | true =>
    rw [condB_true] at h ⊢
    cases hc : cls T o <;> rw [hc] at h <;> simp only [clsE_eff, clsE_flt, clsE_pure, clsE_read] at h ⊢
    case eff => exact wO_mono h fun x M hx => asK_elim hx
    all_goals
      obtain ⟨y, hy, h⟩ := bindO_elim h
      rw [hy, bindO_some]
      exact asK_elim h

theorem zY_wY {base : Nat} {rk : List Nat} {K : St → Prop} : ∀ {l : List (Nat × List Nat)} {ks : List SK} {st : St}, zY T ops base rk l ks st K → wY T ops base rk l st K
  | [], _, _, h => h
  | i :: is, ks, st, h => by
    unfold zY at h
    unfold wY
    obtain ⟨o, ho, h⟩ := bindO_elim h
    rw [ho, bindO_some]
    have h := zStep_step h
    refine stepX_mono (fun s hs => ?_) h
    have cm : ∀ {l : List Nat} {s : St} {K K' : St → Prop}, (∀ s, K s → K' s) → chkA T ops l s K → chkA T ops l s K' := fun {l} => by
      induction l with
      | nil => intro s K K' hk h; exact hk _ h
      | cons k l ih => intro s K K' hk h; exact ⟨h.1, ih hk h.2⟩
    exact cm (fun s hs => zY_wY hs) hs

theorem zO_wpo (ok : T.Ok) {nt : Nat} {Q : Ex → St → Prop} : ∀ {l : List Oper} {ks : List SK} {st : St}, (∀ d ∈ dstsOf l, d < nt) → nt ≤ st.n → zO T ops l ks st (Q .normal) → WpO T.P ops l st Q
  | [], _, _, _, _, h => wpo_nil h
  | o :: r, ks, st, hd, hn, h => by
    have hdr : ∀ d ∈ dstsOf r, d < nt := fun d hm => hd d (by
      unfold dstsOf
      split
      · simp [hm]
      · exact hm)
    have hput : ∀ (x : AV) (M : Mem), putA { st with m := M } o.dst x = some (stX st o.dst x M) := fun x M => by
      unfold putA stX setd
      cases ho : o.dst with
      | none => rfl
      | some d =>
        have : d < nt := hd d (dstsOf_mem (by simp) ho)
        have : Nat.blt d st.n = true := by rw [Nat.blt_eq]; exact Nat.lt_of_lt_of_le this hn
        simp only [this, cond_true]
    unfold zO at h
    obtain ⟨b, hw, h⟩ := bindO_elim h
    cases b with
    | false => exact wpo_skip hw (hput undefA st.m) (zO_wpo ok (Q := Q) hdr hn h)
    | true =>
      rw [condB_true] at h
      have eff : ∀ {K : AV → Mem → Prop}, (∀ x M, K x M → WpO T.P ops r (stX st o.dst x M) Q) → wO T o st K → WpO T.P ops (o :: r) st Q := fun {K} hk h => by
        unfold wO at h
        cases hcal : calleeA st.t o with
        | some c =>
          obtain ⟨g, args⟩ := c
          rw [hcal, caseO_some] at h
          obtain ⟨F, hF, h⟩ := bindO_elim h
          exact wpo_call ok hw hcal hF (h.mono fun x M' hx => ⟨_, hput x M', hk _ _ hx⟩)
        | none =>
          rw [hcal, caseO_none] at h
          obtain ⟨⟨x, M'⟩, hx, h⟩ := bindO_elim h
          exact wpo_op ok hw hx (hput x M') (hk _ _ h)
      cases hc : cls T o <;> rw [hc] at h <;> simp only [clsE_eff, clsE_flt, clsE_pure, clsE_read] at h
      case eff => exact eff (fun x M hx => zO_wpo ok (Q := Q) (st := stX st o.dst x M) hdr hn (asK_elim hx)) h
      case flt =>
        obtain ⟨⟨x, M'⟩, hx, h⟩ := bindO_elim h
        exact wpo_op ok hw hx (hput x M') (zO_wpo ok (Q := Q) (st := stX st o.dst x M') hdr hn (asK_elim h))
      all_goals
        obtain ⟨⟨x, M'⟩, hx, h⟩ := bindO_elim h
        have hM : M' = st.m := by first | exact read_ok hc hx | (have := pure_ok hc hx st.m; rw [hx] at this; injection this with this; injection this)
        subst hM
        exact wpo_op ok hw hx (hput x st.m) (zO_wpo ok (Q := Q) (st := stX st o.dst x st.m) hdr hn (asK_elim h))

end

end Go.AM

/- The abstract machine, part 36: what is noted down bears what has to be shown. -/
namespace Go.AM

section
variable {T : Tab}

/-- What holds at the end also knows which slots were written. -/
theorem zO_agr {ops : Array Oper} : ∀ {l : List Oper} {ks : List SK} {st : St} {K K' : St → Prop}, zO T ops l ks st K → (∀ s, s.n = st.n → Agr st.t s.t (dstsOf l) → K s → K' s) → zO T ops l ks st K'
  | [], _, st, _, _, h, hk => hk st rfl Agr.refl h
  | o :: r, ks, st, K, K', h, hk => by
    have hstep : ∀ (x : AV) (M : Mem) {ks : List SK}, zO T ops r ks (stX st o.dst x M) K → zO T ops r ks (stX st o.dst x M) K' := fun x M ks h => zO_agr h fun s hn ha hs => hk s hn (by
      refine Agr.trans (agr_setd (x := x) (d := o.dst) fun a ha => ?_) (ha.sub fun i hi => ?_)
      · unfold dstsOf; rw [ha]; simp
      · unfold dstsOf; split <;> simp [hi]) hs
    unfold zO at h ⊢
    obtain ⟨b, hw, h⟩ := bindO_elim h
    rw [hw, bindO_some]
    cases b with
    | false => exact hstep _ _ h
    | true =>
      rw [condB_true] at h ⊢
      cases hc : cls T o <;> rw [hc] at h <;> simp only [clsE_eff, clsE_flt, clsE_pure, clsE_read] at h ⊢
      case eff => exact wO_mono h fun x M hx => asK_mono hx fun x' hx' => hstep _ _ hx'
      all_goals
        obtain ⟨y, hy, h⟩ := bindO_elim h
        rw [hy, bindO_some]
        exact asK_mono h fun x' hx' => hstep _ _ hx'

theorem zStep_form {ops : Array Oper} {id : Nat} {o : Oper} {k : SK} {st : St} {K K' : St → Prop} (h : zStep T ops id o k st K) (hk : ∀ x M, K (stX st o.dst x M) → K' (stX st o.dst x M)) : zStep T ops id o k st K' := by
  unfold zStep at h ⊢
  obtain ⟨b, hw, h⟩ := bindO_elim h
  rw [hw, bindO_some]
  cases b with
  | false => exact hk _ _ h
  | true =>
    rw [condB_true] at h ⊢
    cases hc : cls T o <;> rw [hc] at h <;> simp only [clsE_eff, clsE_flt, clsE_pure, clsE_read] at h ⊢
    case eff => exact wO_mono h fun x M hx => asK_mono hx fun x' hx' => hk _ _ hx'
    all_goals
      obtain ⟨y, hy, h⟩ := bindO_elim h
      rw [hy, bindO_some]
      exact asK_mono h fun x' hx' => hk _ _ hx'

theorem chkA_mono {ops : Array Oper} {s : St} {K K' : St → Prop} (hk : K s → K' s) : ∀ {l : List Nat}, chkA T ops l s K → chkA T ops l s K'
  | [], h => hk h
  | _ :: _, h => ⟨h.1, chkA_mono hk h.2⟩

theorem zY_agr {ops : Array Oper} {base : Nat} {rk : List Nat} : ∀ {l : List (Nat × List Nat)} {ks : List SK} {st : St} {K K' : St → Prop}, zY T ops base rk l ks st K →
    (∀ s, s.n = st.n → Agr st.t s.t (dstsOf ops.toList) → K s → K' s) → zY T ops base rk l ks st K'
  | [], _, st, _, _, h, hk => hk st rfl Agr.refl h
  | i :: is, ks, st, K, K', h, hk => by
    unfold zY at h ⊢
    obtain ⟨o, ho, h⟩ := bindO_elim h
    rw [ho, bindO_some]
    refine zStep_form h fun x M hs => chkA_mono (fun hs => zY_agr (ops := ops) (st := stX st o.dst x M) (K' := K') hs fun s hn (ha : Agr (setd st.t o.dst x) s.t (dstsOf ops.toList)) hs => hk s hn (Agr.trans (agr_setd (l := dstsOf ops.toList) (x := x) (d := o.dst) fun a ha => ?_) ha) hs) hs
    have : o ∈ ops.toList := by
      obtain ⟨hlt, he⟩ := Array.getElem?_eq_some_iff.1 ho
      rw [← he]; simp
    exact dstsOf_mem this ha

theorem setS_get {sl : List (Tmp × LK)} : ∀ {vs : List AV} {t : Tr AV} {i : Nat}, i ∉ sl.map (·.1) → (setS sl vs t).get i = t.get i := by
  induction sl with
  | nil => intro vs t i _; cases vs <;> rfl
  | cons s sl ih =>
    intro vs t i hi
    simp only [List.map_cons, List.mem_cons, not_or] at hi
    cases vs with
    | nil => rfl
    | cons v vs =>
      show (setS sl vs (t.set s.1 (some v))).get i = t.get i
      rw [ih hi.2, Tr.get_set_ne _ _ _ _ hi.1]
theorem setJ_get {js : Nat → Option AV} : ∀ {junk : List Tmp} {t : Tr AV} {i : Nat}, i ∉ junk → (setJ js junk t).get i = t.get i
  | [], _, _, _ => rfl
  | j :: r, t, i, hi => by
    simp only [List.mem_cons, not_or] at hi
    show (setJ js r (t.set j (js j))).get i = t.get i
    rw [setJ_get hi.2, Tr.get_set_ne _ _ _ _ hi.1]

/-- Frames that hold the same. -/
def SameT (t t' : Tr AV) : Prop := ∀ i, (t.get i).getD undefA = (t'.get i).getD undefA

theorem wpa_same {P : Program} {c : Code} {n : Nat} {t t' : Tr AV} {m : Mem} {Q : Ex → St → Prop} (h : WpA P c ⟨n, t, m⟩ Q) (hs : SameT t t') : WpA P c ⟨n, t', m⟩ Q := fun ι a w hst =>
  h ι a w ⟨hst.1, fun i => by rw [hs i]; exact hst.2.1 i, hst.2.2⟩

theorem setS_same {t' : Tr AV} : ∀ {sl : List (Tmp × LK)} {t : Tr AV} {P : Nat → Prop}, (∀ i, ¬ P i → (t.get i).getD undefA = (t'.get i).getD undefA) →
    ∀ i, ¬ (P i ∧ i ∉ sl.map (·.1)) → ((setS sl (slotsOf t' sl) t).get i).getD undefA = (t'.get i).getD undefA
  | [], t, P, h, i, hi => h i fun hp => hi ⟨hp, by simp⟩
  | s :: sl, t, P, h, i, hi => by
    show ((setS sl (slotsOf t' sl) (t.set s.1 (some ((t'.get s.1).getD undefA)))).get i).getD undefA = _
    refine setS_same (P := fun i => P i ∧ i ≠ s.1) (fun j hj => ?_) i fun hp => hi ⟨hp.1.1, ?_⟩
    · rw [Tr.get_set]
      by_cases hjs : j = s.1
      · rw [if_pos hjs, hjs]; rfl
      · rw [if_neg hjs]
        exact h j fun hp => hj ⟨hp, hjs⟩
    · simp only [List.map_cons, List.mem_cons, not_or]
      exact ⟨hp.1.2, hp.2⟩

theorem setJ_same {t' : Tr AV} : ∀ {junk : List Tmp} {t : Tr AV} {P : Nat → Prop}, (∀ i, ¬ P i → (t.get i).getD undefA = (t'.get i).getD undefA) →
    ∀ i, ¬ (P i ∧ i ∉ junk) → ((setJ (fun j => t'.get j) junk t).get i).getD undefA = (t'.get i).getD undefA
  | [], t, P, h, i, hi => h i fun hp => hi ⟨hp, by simp⟩
  | s :: r, t, P, h, i, hi => by
    show ((setJ (fun j => t'.get j) r (t.set s (t'.get s))).get i).getD undefA = _
    refine setJ_same (P := fun i => P i ∧ i ≠ s) (fun j hj => ?_) i fun hp => hi ⟨hp.1.1, ?_⟩
    · rw [Tr.get_set]
      by_cases hjs : j = s
      · rw [if_pos hjs, hjs]
      · rw [if_neg hjs]
        exact h j fun hp => hj ⟨hp, hjs⟩
    · simp only [List.mem_cons, not_or]
      exact ⟨hp.1.2, hp.2⟩

theorem allL_mono {ks : List LK} {f g : List AV → Prop} (hfg : ∀ vs, f vs → g vs) (h : allL ks f) : allL ks g := by
  induction ks generalizing f g with
  | nil => exact hfg _ h
  | cons k ks ih =>
    cases k with
    | any => exact fun v => ih (fun vs hvs => hfg _ hvs) (h v)
    | int k => exact fun v => ih (fun vs hvs => hfg _ hvs) (h v)
    | bool => exact fun v => ih (fun vs hvs => hfg _ hvs) (h v)

theorem posL_find {L : Nat} : ∀ {x p r : Code}, posL L x = some (p, r) → findLabel x L = some (.seq .skip r)
  | .seq a b, p, r, hp => by
    have gen : findLabel a L = none → (match posL L b with | some (p, r) => some (Code.seq a p, r) | none => none) = some (p, r) → findLabel (.seq a b) L = some (.seq .skip r) := by
      intro ha hp
      unfold findLabel
      rw [ha]
      cases hb : posL L b with
      | none => rw [hb] at hp; cases hp
      | some q =>
        obtain ⟨q1, q2⟩ := q
        rw [hb] at hp
        simp only [Option.some.injEq, Prod.mk.injEq] at hp
        rw [← hp.2]
        exact posL_find hb
    unfold posL at hp
    split at hp
    · rename_i l
      cases hl : Nat.beq l L with
      | true =>
        rw [hl, cond_true] at hp
        simp only [Option.some.injEq, Prod.mk.injEq] at hp
        have hlL : l = L := Nat.eq_of_beq_eq_true hl
        subst hlL
        rw [← hp.2]
        unfold findLabel
        have : findLabel (.label l) l = some .skip := by unfold findLabel; simp
        rw [this]
      | false =>
        rw [hl, cond_false] at hp
        refine gen ?_ hp
        unfold findLabel
        have hne : ¬ l = L := fun e => by rw [e] at hl; simp at hl
        simp [hne]
    · split at hp
      · cases hp
      · rename_i ha
        exact gen ha hp
  | .skip, _, _, hp => by cases hp
  | .region .., _, _, hp => by cases hp
  | .cond .., _, _, hp => by cases hp
  | .block .., _, _, hp => by cases hp
  | .loop _, _, _, hp => by cases hp
  | .rangeFunc .., _, _, hp => by cases hp
  | .exit _, _, _, hp => by cases hp
  | .scope _, _, _, hp => by cases hp
  | .label _, _, _, hp => by cases hp
  | .goto _, _, _, hp => by cases hp
  | .ret, _, _, hp => by cases hp
  | .refuse _, _, _, hp => by cases hp

theorem wZ_agr {nt : Nat} : ∀ {an : An} {c : Code} {st : St} {Q Q' : Ex → St → Prop}, anB T nt an c = true → wZ T an c st Q → (∀ ex s, s.n = st.n → Agr st.t s.t (asgOf an c) → Q ex s → Q' ex s) → wZ T an c st Q'
  | .z, c, st, Q, Q', _, h, hk => by
    cases c <;> simp only [wZ] at h ⊢ <;> exact hk _ st rfl Agr.refl h
  | .reg ks, c, st, Q, Q', hB, h, hk => by
    cases c <;> simp only [wZ] at h ⊢
    rename_i id ops d
    cases d with
    | true => exact h.elim
    | false => exact zO_agr h fun s hn ha hs => hk _ s hn ha hs
  | .opn steps rk ob n ks, c, st, Q, Q', hB, h, hk => by
    cases c <;> simp only [wZ] at h ⊢
    rename_i id ops d
    cases d with
    | true => exact zY_agr h fun s hn ha hs => hk _ s hn ha hs
    | false => exact h.elim
  | .seq a b, c, st, Q, Q', hB, h, hk => by
    cases c <;> simp only [wZ] at h ⊢
    rename_i x y
    simp only [anB, Bool.and_eq_true] at hB
    refine wZ_agr hB.1 h fun ex s hn ha hs => ?_
    cases ex with
    | normal => exact wZ_agr hB.2 hs fun ex s' hn' ha' hs' => hk ex s' (hn'.trans hn) ((ha.sub fun i hi => by simp [asgOf, hi]).trans (ha'.sub fun i hi => by simp [asgOf, hi])) hs'
    | _ => exact hk _ s hn (ha.sub fun i hi => by simp [asgOf, hi]) hs
  | .cnd a b, c, st, Q, Q', hB, h, hk => by
    cases c <;> simp only [wZ] at h ⊢
    rename_i o x y
    simp only [anB, Bool.and_eq_true] at hB
    obtain ⟨v, hv, h⟩ := zB_elim h
    rw [hv]
    show condB v _ _
    cases v with
    | true => exact wZ_agr hB.1 h fun ex s hn ha hs => hk ex s hn (ha.sub fun i hi => by simp [asgOf, hi]) hs
    | false => exact wZ_agr hB.2 h fun ex s hn ha hs => hk ex s hn (ha.sub fun i hi => by simp [asgOf, hi]) hs
  | .blk a, c, st, Q, Q', hB, h, hk => by
    cases c <;> simp only [wZ] at h ⊢
    rename_i id x
    simp only [anB] at hB
    refine wZ_agr hB h fun ex s hn ha hs => ?_
    have hk' : ∀ ex, Q ex s → Q' ex s := fun ex hq => hk ex s hn ha hq
    cases ex with
    | exit i =>
      simp only [onExit] at hs ⊢
      split
      · rename_i he; rw [if_pos he] at hs; exact hk' _ hs
      · rename_i he; rw [if_neg he] at hs; exact hk' _ hs
    | _ => exact hk' _ hs
  | .lop sl junk a, c, st, Q, Q', hB, h, hk => by
    cases c <;> simp only [wZ] at h ⊢
    rename_i x
    simp only [anB, Bool.and_eq_true, List.all_eq_true] at hB
    obtain ⟨J, h0, h⟩ := h
    refine ⟨J, h0, fun js => ?_⟩
    have hA : ∀ {ks : List LK} {f g : List AV → Prop}, (∀ vs, f vs → g vs) → allL ks f → allL ks g := fun {ks} => by
      induction ks with
      | nil => intro f g hfg h; exact hfg _ h
      | cons k ks ih =>
        intro f g hfg h
        cases k with
        | any => exact fun v => ih (fun vs hvs => hfg _ hvs) (h v)
        | int k => exact fun v => ih (fun vs hvs => hfg _ hvs) (h v)
        | bool => exact fun v => ih (fun vs hvs => hfg _ hvs) (h v)
    refine hA (fun vs hvs n m hJ => ?_) (h js)
    refine wZ_agr hB.1 (hvs n m hJ) fun ex s hn ha hs => ?_
    cases ex with
    | normal => exact hs
    | _ =>
      refine hk _ s hn (fun i hi => ?_) hs
      have hi' : i ∉ sl.map (·.1) ++ junk := hi
      rw [ha i fun hm => hi' (memN_ok.1 (hB.2 i hm))]
      simp only [List.mem_append, not_or] at hi'
      show (setJ js junk (setS sl vs st.t)).get i = st.t.get i
      rw [setJ_get hi'.2, setS_get hi'.1]

  | .scp L F ap sl junk ar aF, c, st, Q, Q', hB, h, hk => by
    cases c <;> simp only [wZ] at h ⊢
    rename_i x
    simp only [anB] at hB
    split at h
    rotate_left
    · exact h.elim
    rename_i p r f0 f hp hf
    rw [hp, hf] at hB
    simp only [Bool.and_eq_true, List.all_eq_true] at hB
    have hasg : ∀ {t : Tr AV} (vs : List AV) (js : Nat → Option AV), Agr t (setJ js junk (setS sl vs t)) (sl.map (·.1) ++ junk) := fun vs js i hi => by
      simp only [List.mem_append, not_or] at hi
      rw [setJ_get hi.2, setS_get hi.1]
    have hsub : ∀ i, i ∈ asgOf ar r ∨ i ∈ asgOf aF f → i ∈ sl.map (·.1) ++ junk := fun i hi => memN_ok.1 (hB.2.2.2 i (by simpa using hi))
    have hk2 : ∀ ex s, s.n = st.n → Agr st.t s.t (asgOf ap p ++ (sl.map (·.1) ++ junk)) → Q ex s → Q' ex s := fun ex s hn ha hq => hk ex s hn (by
      simp only [asgOf]
      rw [hp]
      exact ha) hq
    refine wZ_agr hB.1 h fun ex s hn ha hs => ?_
    have hap : Agr st.t s.t (asgOf ap p ++ (sl.map (·.1) ++ junk)) := ha.sub fun i hi => by simp [hi]
    cases ex with
    | normal =>
      obtain ⟨J, h0, h⟩ := hs
      refine ⟨J, h0, fun js => allL_mono (fun vs hvs n m hJ => ?_) (h js)⟩
      have hbase : Agr st.t (setJ js junk (setS sl vs s.t)) (asgOf ap p ++ (sl.map (·.1) ++ junk)) := hap.trans ((hasg vs js).sub fun i hi => by simp only [List.mem_append] at hi ⊢; exact .inr hi)
      have hfin : ∀ {t' : Tr AV}, Agr (setJ js junk (setS sl vs s.t)) t' (asgOf ar r) → Agr st.t t' (asgOf ap p ++ (sl.map (·.1) ++ junk)) := fun h1 => hbase.trans (h1.sub fun i hi => by have := hsub i (.inl hi); simp only [List.mem_append] at this ⊢; exact .inr this)
      refine wZ_agr hB.2.1 (hvs n m hJ) fun ex s1 hn1 ha1 hs1 => ?_
      have h1 := hfin ha1
      cases ex with
      | goto l =>
        simp only [onJump] at hs1 ⊢
        cases hl : Nat.beq l L with
        | true => rw [hl] at hs1; exact hs1
        | false =>
          rw [hl, cond_false] at hs1
          rw [cond_false]
          cases hlF : Nat.beq l F with
          | false => rw [hlF] at hs1; exact hs1
          | true =>
            rw [hlF, cond_true] at hs1
            rw [cond_true]
            refine wZ_agr hB.2.2.1 hs1 fun ex s2 hn2 ha2 hs2 => ?_
            have h2 : Agr st.t s2.t (asgOf ap p ++ (sl.map (·.1) ++ junk)) := h1.trans (ha2.sub fun i hi => by have := hsub i (.inr hi); simp only [List.mem_append] at this ⊢; exact .inr this)
            cases ex with
            | goto l => exact hs2
            | normal => exact hk2 _ s2 (hn2.trans (hn1.trans hn)) h2 hs2
            | exit i => exact hk2 _ s2 (hn2.trans (hn1.trans hn)) h2 hs2
            | ret => exact hk2 _ s2 (hn2.trans (hn1.trans hn)) h2 hs2
      | normal => exact hk2 _ s1 (hn1.trans hn) h1 hs1
      | exit i => exact hk2 _ s1 (hn1.trans hn) h1 hs1
      | ret => exact hk2 _ s1 (hn1.trans hn) h1 hs1
    | goto l => exact hs
    | exit i => exact hk2 _ s hn hap hs
    | ret => exact hk2 _ s hn hap hs

/-- What stands ahead of a label. -/
theorem pre_ok {nt B : Nat} (hrec : ∀ {a : An} {c : Code} {st : St} {Q : Ex → St → Prop}, SizeOf.sizeOf a < B → anB T nt a c = true → nt ≤ st.n → wZ T a c st Q → WpA T.P c st Q) {L : Nat} {K : St → Prop} {Q Q' : Ex → St → Prop} {r : Code} {N : Nat}
    (hK : ∀ s, s.n = N → K s → WpA T.P r s Q') (hQ : ∀ ex s, (∀ l, ex ≠ .goto l) → ex ≠ .normal → Q ex s → Q' ex s) :
    ∀ {x p : Code} {ap : An} {st : St}, posL L x = some (p, r) → SizeOf.sizeOf ap < B → anB T nt ap p = true → nt ≤ st.n → st.n = N → wZ T ap p st (noJump K Q) → WpA T.P x st Q'
  | .seq a b, p, ap, st, hp, hs, hB, hn, hN, h => by
    have gen : (match posL L b with | some (p, r) => some (Code.seq a p, r) | none => none) = some (p, r) → WpA T.P (.seq a b) st Q' := by
      intro hp
      cases hb : posL L b with
      | none => rw [hb] at hp; cases hp
      | some q =>
        obtain ⟨q1, q2⟩ := q
        rw [hb] at hp
        simp only [Option.some.injEq, Prod.mk.injEq] at hp
        obtain ⟨rfl, rfl⟩ := hp
        cases ap with
        | seq a1 a2 =>
          simp only [anB, Bool.and_eq_true] at hB
          simp only [wZ] at h
          have h := wZ_agr hB.1 h (Q' := fun ex s => s.n = st.n ∧ andThen (fun s => wZ T a2 q1 s (noJump K Q)) (noJump K Q) ex s) fun ex s hn _ hs => ⟨hn, hs⟩
          simp only [An.seq.sizeOf_spec] at hs
          refine wpa_seq (wpa_mono (hrec (by omega) hB.1 hn h) fun ex s hs' => ?_)
          obtain ⟨hsn, hs'⟩ := hs'
          cases ex with
          | normal => exact pre_ok hrec hK hQ hb (by omega) hB.2 (by omega) (by omega) hs'
          | exit i => exact hQ _ s (fun l => by simp) (by simp) hs'
          | goto l => exact hs'.elim
          | ret => exact hQ _ s (fun l => by simp) (by simp) hs'
        | _ => simp only [wZ] at h
    unfold posL at hp
    split at hp
    · rename_i l
      cases hl : Nat.beq l L with
      | true =>
        rw [hl, cond_true] at hp
        simp only [Option.some.injEq, Prod.mk.injEq] at hp
        obtain ⟨rfl, rfl⟩ := hp
        have hK' : K st := by
          cases ap with
          | z => simp only [wZ] at h; exact h
          | _ => simp only [wZ] at h
        exact wpa_seq (wpa_label (hK st hN hK'))
      | false =>
        rw [hl, cond_false] at hp
        exact gen hp
    · split at hp
      · cases hp
      · exact gen hp
  | .skip, _, _, _, hp, _, _, _, _, _ => by cases hp
  | .region .., _, _, _, hp, _, _, _, _, _ => by cases hp
  | .cond .., _, _, _, hp, _, _, _, _, _ => by cases hp
  | .block .., _, _, _, hp, _, _, _, _, _ => by cases hp
  | .loop _, _, _, _, hp, _, _, _, _, _ => by cases hp
  | .rangeFunc .., _, _, _, hp, _, _, _, _, _ => by cases hp
  | .exit _, _, _, _, hp, _, _, _, _, _ => by cases hp
  | .scope _, _, _, _, hp, _, _, _, _, _ => by cases hp
  | .label _, _, _, _, hp, _, _, _, _, _ => by cases hp
  | .goto _, _, _, _, hp, _, _, _, _, _ => by cases hp
  | .ret, _, _, _, hp, _, _, _, _, _ => by cases hp
  | .refuse _, _, _, _, hp, _, _, _, _, _ => by cases hp

theorem wZ_okN (ok : T.Ok) (hmix : T.P.follows .mixedOrders = true) {nt : Nat} : ∀ (N : Nat) {an : An} {c : Code} {st : St} {Q : Ex → St → Prop}, SizeOf.sizeOf an < N → anB T nt an c = true → nt ≤ st.n → wZ T an c st Q → WpA T.P c st Q
  | 0, _, _, _, _, hN, _, _, _ => by omega
  | N + 1, .z, c, st, Q, _, _, _, h => by
    cases c <;> simp only [wZ] at h
    case skip => exact wpa_skip h
    case label => exact wpa_label h
    case exit => exact wpa_exit h
    case goto => exact wpa_goto h
    case ret => exact wpa_ret h
  | N + 1, .reg ks, c, st, Q, hN, hB, hn, h => by
    have hrec : ∀ {a : An} {c : Code} {st : St} {Q : Ex → St → Prop}, SizeOf.sizeOf a < N → anB T nt a c = true → nt ≤ st.n → wZ T a c st Q → WpA T.P c st Q := fun hs => wZ_okN ok hmix N hs
    simp only [An.reg.sizeOf_spec] at hN
    cases c <;> simp only [wZ] at h
    rename_i id ops d
    simp only [anB, List.all_eq_true, Nat.blt_eq] at hB
    cases d with
    | true => exact h.elim
    | false => exact wpa_region (zO_wpo ok hB hn h)
  | N + 1, .opn steps rk ob n ks, c, st, Q, hN, hB, hn, h => by
    have hrec : ∀ {a : An} {c : Code} {st : St} {Q : Ex → St → Prop}, SizeOf.sizeOf a < N → anB T nt a c = true → nt ≤ st.n → wZ T a c st Q → WpA T.P c st Q := fun hs => wZ_okN ok hmix N hs
    simp only [An.opn.sizeOf_spec] at hN
    cases c <;> simp only [wZ] at h
    rename_i id ops d
    simp only [anB, Bool.and_eq_true] at hB
    cases d with
    | true => exact wpa_y ok hmix nt hB.1 hn steps rk ob n hB.2.1 (sameSt_eq hB.2.2.1) (zY_wY h)
    | false => exact h.elim
  | N + 1, .seq a b, c, st, Q, hN, hB, hn, h => by
    have hrec : ∀ {a : An} {c : Code} {st : St} {Q : Ex → St → Prop}, SizeOf.sizeOf a < N → anB T nt a c = true → nt ≤ st.n → wZ T a c st Q → WpA T.P c st Q := fun hs => wZ_okN ok hmix N hs
    simp only [An.seq.sizeOf_spec] at hN
    cases c <;> simp only [wZ] at h
    rename_i x y
    simp only [anB, Bool.and_eq_true] at hB
    have h := wZ_agr hB.1 h (Q' := fun ex s => s.n = st.n ∧ andThen (fun s => wZ T b y s Q) Q ex s) fun ex s hn _ hs => ⟨hn, hs⟩
    refine wpa_seq (wpa_mono (hrec (by omega) hB.1 hn h) fun ex s hs => ?_)
    cases ex with
    | normal => exact hrec (by omega) hB.2 (by rw [hs.1]; exact hn) hs.2
    | _ => exact hs.2
  | N + 1, .cnd a b, c, st, Q, hN, hB, hn, h => by
    have hrec : ∀ {a : An} {c : Code} {st : St} {Q : Ex → St → Prop}, SizeOf.sizeOf a < N → anB T nt a c = true → nt ≤ st.n → wZ T a c st Q → WpA T.P c st Q := fun hs => wZ_okN ok hmix N hs
    simp only [An.cnd.sizeOf_spec] at hN
    cases c <;> simp only [wZ] at h
    rename_i o x y
    simp only [anB, Bool.and_eq_true] at hB
    obtain ⟨v, hv, h⟩ := zB_elim h
    refine wpa_cond hv ?_
    cases v with
    | true => exact hrec (by omega) hB.1 hn h
    | false => exact hrec (by omega) hB.2 hn h
  | N + 1, .blk a, c, st, Q, hN, hB, hn, h => by
    have hrec : ∀ {a : An} {c : Code} {st : St} {Q : Ex → St → Prop}, SizeOf.sizeOf a < N → anB T nt a c = true → nt ≤ st.n → wZ T a c st Q → WpA T.P c st Q := fun hs => wZ_okN ok hmix N hs
    simp only [An.blk.sizeOf_spec] at hN
    cases c <;> simp only [wZ] at h
    rename_i id x
    simp only [anB] at hB
    exact wpa_block (hrec (by omega) hB hn h)
  | N + 1, .lop sl junk a, c, st, Q, hN, hB, hn, h => by
    have hrec : ∀ {a : An} {c : Code} {st : St} {Q : Ex → St → Prop}, SizeOf.sizeOf a < N → anB T nt a c = true → nt ≤ st.n → wZ T a c st Q → WpA T.P c st Q := fun hs => wZ_okN ok hmix N hs
    simp only [An.lop.sizeOf_spec] at hN
    cases c <;> simp only [wZ] at h
    rename_i x
    simp only [anB, Bool.and_eq_true, List.all_eq_true] at hB
    obtain ⟨J, ⟨n0, h0⟩, h⟩ := h
    let I : Nat → St → Prop := fun n s => s.n = st.n ∧ (∀ i, i ∉ sl.map (·.1) ++ junk → (s.t.get i).getD undefA = (st.t.get i).getD undefA) ∧ apJ (sl.map (·.2)) J (slotsOf s.t sl) n s.m
    have key : ∀ n s, I n s → RdA T.P x Q (n + 1) s := by
      intro n
      induction n using Nat.strongRecOn with
      | _ n ih =>
        rintro ⟨sn, t, m⟩ ⟨h1, h2, h3⟩
        simp only at h1 h2 h3
        subst h1
        have hb := allL_elim (h fun j => t.get j) h3 n m h3
        have hsame : SameT (setJ (fun j => t.get j) junk (setS sl (slotsOf t sl) st.t)) t := fun i => by
          refine setJ_same (P := fun i => i ∈ sl.map (·.1) ++ junk ∧ i ∉ sl.map (·.1)) (fun i hi => setS_same (P := fun i => i ∈ sl.map (·.1) ++ junk) (fun j hj => (h2 j hj).symm) i hi) i fun hp => ?_
          simp only [List.mem_append] at hp
          rcases hp.1.1 with h | h
          · exact hp.1.2 h
          · exact hp.2 h
        show WpA T.P x ⟨st.n, t, m⟩ (andThen (RdA T.P x Q n) Q)
        refine wpa_same ?_ hsame
        have hb' := wZ_agr hB.1 hb (Q' := fun ex s => (s.n = st.n ∧ Agr (setJ (fun j => t.get j) junk (setS sl (slotsOf t sl) st.t)) s.t (asgOf a x)) ∧ (andThen (fun s => ∃ k, k < n ∧ apJ (sl.map (·.2)) J (slotsOf s.t sl) k s.m) Q) ex s)
          fun ex s hn ha hs => ⟨⟨hn, ha⟩, hs⟩
        refine wpa_mono (hrec (by omega) hB.1 hn hb') fun ex s hs => ?_
        cases ex with
        | normal =>
          obtain ⟨⟨g1, g2⟩, k, hk, g3⟩ := hs
          have hI : I k s := ⟨g1, fun i hi => by
            have : i ∉ asgOf a x := fun hm => hi (memN_ok.1 (hB.2 i hm))
            rw [g2 i this]
            simp only [List.mem_append, not_or] at hi
            rw [setJ_get hi.2, setS_get hi.1], g3⟩
          exact (ih k hk s hI).mono (by omega)
        | _ => exact hs.2
    exact wpa_rounds (n0 + 1) (key n0 st ⟨rfl, fun _ _ => rfl, h0⟩)
  | N + 1, .scp L F ap sl junk ar aF, c, st, Q, hN, hB, hn, h => by
    have hrec : ∀ {a : An} {c : Code} {st : St} {Q : Ex → St → Prop}, SizeOf.sizeOf a < N → anB T nt a c = true → nt ≤ st.n → wZ T a c st Q → WpA T.P c st Q := fun hs => wZ_okN ok hmix N hs
    simp only [An.scp.sizeOf_spec] at hN
    cases c <;> simp only [wZ] at h
    rename_i x
    simp only [anB] at hB
    split at h
    rotate_left
    · exact h.elim
    rename_i p r f0 f hp hf
    rw [hp, hf] at hB
    simp only [Bool.and_eq_true, List.all_eq_true] at hB
    have hfL := posL_find hp
    have hfF := posL_find hf
    have hsub : ∀ i, i ∈ asgOf ar r ∨ i ∈ asgOf aF f → i ∈ sl.map (·.1) ++ junk := fun i hi => memN_ok.1 (hB.2.2.2 i (by simpa using hi))
    refine wpa_scope (wps_intro ?_)
    refine pre_ok (T := T) (B := N) (nt := nt) (N := st.n) hrec (fun s1 hs1 hK => ?_) (fun ex s hg hnn hq => ?_) hp (by omega) hB.1 hn rfl h
    rotate_left
    · cases ex with
      | normal => exact absurd rfl hnn
      | goto l => exact absurd rfl (hg l)
      | exit i => exact hq
      | ret => exact hq
    obtain ⟨J, ⟨n0, h0⟩, h⟩ := hK
    let I : Nat → St → Prop := fun n s => s.n = st.n ∧ (∀ i, i ∉ sl.map (·.1) ++ junk → (s.t.get i).getD undefA = (s1.t.get i).getD undefA) ∧ apJ (sl.map (·.2)) J (slotsOf s.t sl) n s.m
    have key : ∀ n s, I n s → WpA T.P r s (onGoto T.P x Q) := by
      intro n
      induction n using Nat.strongRecOn with
      | _ n ih =>
        rintro ⟨sn, t, m⟩ ⟨h1, h2, h3⟩
        simp only at h1 h2 h3
        subst h1
        rw [hs1] at h
        have hb := allL_elim (h fun j => t.get j) h3 n m h3
        have hsame : SameT (setJ (fun j => t.get j) junk (setS sl (slotsOf t sl) s1.t)) t := fun i => by
          refine setJ_same (P := fun i => i ∈ sl.map (·.1) ++ junk ∧ i ∉ sl.map (·.1)) (fun i hi => setS_same (P := fun i => i ∈ sl.map (·.1) ++ junk) (fun j hj => (h2 j hj).symm) i hi) i fun hp => ?_
          simp only [List.mem_append] at hp
          rcases hp.1.1 with h | h
          · exact hp.1.2 h
          · exact hp.2 h
        refine wpa_same ?_ hsame
        have hI : ∀ (s : St) (l : List Tmp), s.n = st.n → Agr (setJ (fun j => t.get j) junk (setS sl (slotsOf t sl) s1.t)) s.t l → (∀ i ∈ l, i ∈ sl.map (·.1) ++ junk) → (∃ k, k < n ∧ apJ (sl.map (·.2)) J (slotsOf s.t sl) k s.m) → ∃ k, k < n ∧ I k s := by
          rintro s l g1 g2 g4 ⟨k, hk, g3⟩
          refine ⟨k, hk, g1, fun i hi => ?_, g3⟩
          rw [g2 i (fun hm => hi (g4 i hm))]
          simp only [List.mem_append, not_or] at hi
          rw [setJ_get hi.2, setS_get hi.1]
        have back : ∀ s, (∃ k, k < n ∧ I k s) → onGoto T.P x Q (.goto L) s := by
          rintro s ⟨k, hk, hIk⟩
          simp only [onGoto]
          rw [hfL]
          exact wps_intro (wpa_seq (wpa_skip (ih k hk s hIk)))
        have hb' := wZ_agr hB.2.1 hb (Q' := fun ex s => (s.n = st.n ∧ Agr (setJ (fun j => t.get j) junk (setS sl (slotsOf t sl) s1.t)) s.t (asgOf ar r)) ∧ onJump L F (fun s => ∃ k, k < n ∧ apJ (sl.map (·.2)) J (slotsOf s.t sl) k s.m) (fun s => wZ T aF f s (onBack L (fun s => ∃ k, k < n ∧ apJ (sl.map (·.2)) J (slotsOf s.t sl) k s.m) Q)) Q ex s)
          fun ex s hn ha hs => ⟨⟨hn, ha⟩, hs⟩
        refine wpa_mono (hrec (by omega) hB.2.1 hn hb') fun ex s hs => ?_
        obtain ⟨⟨g1, g2⟩, hs⟩ := hs
        cases ex with
        | normal => exact hs
        | exit i => exact hs
        | ret => exact hs
        | goto l =>
          simp only [onJump] at hs
          cases hl : Nat.beq l L with
          | true =>
            rw [hl, cond_true] at hs
            have hlL : l = L := Nat.eq_of_beq_eq_true hl
            subst hlL
            exact back s (hI s _ g1 g2 (fun i hi => hsub i (.inl hi)) hs)
          | false =>
            rw [hl, cond_false] at hs
            cases hlF : Nat.beq l F with
            | false => rw [hlF] at hs; exact hs.elim
            | true =>
              rw [hlF, cond_true] at hs
              have hlF' : l = F := Nat.eq_of_beq_eq_true hlF
              subst hlF'
              simp only [onGoto]
              rw [hfF]
              refine wps_intro (wpa_seq (wpa_skip ?_))
              have hf' := wZ_agr hB.2.2.1 hs (Q' := fun ex s2 => (s2.n = s.n ∧ Agr s.t s2.t (asgOf aF f)) ∧ onBack L (fun s => ∃ k, k < n ∧ apJ (sl.map (·.2)) J (slotsOf s.t sl) k s.m) Q ex s2) fun ex s2 hn ha hs => ⟨⟨hn, ha⟩, hs⟩
              refine wpa_mono (hrec (by omega) hB.2.2.1 (by rw [g1]; exact hn) hf') fun ex s2 hs2 => ?_
              obtain ⟨⟨e1, e2⟩, hs2⟩ := hs2
              cases ex with
              | normal => exact hs2
              | exit i => exact hs2
              | ret => exact hs2
              | goto l2 =>
                simp only [onBack] at hs2
                cases hl2 : Nat.beq l2 L with
                | false => rw [hl2] at hs2; exact hs2.elim
                | true =>
                  rw [hl2, cond_true] at hs2
                  have hl2' : l2 = L := Nat.eq_of_beq_eq_true hl2
                  subst hl2'
                  refine back s2 (hI s2 (asgOf ar r ++ asgOf aF f) (e1.trans g1) ((g2.sub fun i hi => by simp [hi]).trans (e2.sub fun i hi => by simp [hi])) (fun i hi => hsub i (by simpa using hi)) hs2)
    exact key n0 s1 ⟨hs1, fun _ _ => rfl, h0⟩

theorem wZ_ok (ok : T.Ok) (hmix : T.P.follows .mixedOrders = true) {nt : Nat} {an : An} {c : Code} {st : St} {Q : Ex → St → Prop} (hB : anB T nt an c = true) (hn : nt ≤ st.n) (h : wZ T an c st Q) : WpA T.P c st Q :=
  wZ_okN ok hmix (SizeOf.sizeOf an + 1) (by omega) hB hn h

/-- A function, by what is noted down of it. -/
theorem calla_wZ (ok : T.Ok) (hmix : T.P.follows .mixedOrders = true) {f : FuncId} {F : Func} {c : Code} {an : An} (hf : T.fn.get f = some F) (hb : F.body = some c) (hB : anB T F.ntmps an c = true) {ks : List CK} {args : List AV} {M : Mem} {Q : AV → Mem → Prop}
    (h : zCs ks args fun args => wZ T an c (enterA F args M) (retQ T F Q)) : CallA T.P f args M Q := by
  have h := zCs_elim h
  refine calla_body ok hf hb (wpa_mono (wZ_ok ok hmix hB (by simp only [enterA]; omega) h) ?_)
  intro ex st hq
  cases ex with
  | normal =>
    obtain ⟨x, hx, hq⟩ := bindO_elim hq
    exact ⟨.inl rfl, x, hx, hq⟩
  | ret =>
    obtain ⟨x, hx, hq⟩ := bindO_elim hq
    exact ⟨.inr rfl, x, hx, hq⟩
  | exit i => exact hq.elim
  | goto i => exact hq.elim

end

end Go.AM

/- The abstract machine, part 37: the words that printed functions use. -/
namespace Go.AM

def letP {α : Sort _} (x : α) (f : α → Prop) : Prop := f x
theorem letP_i {α : Sort _} {x : α} {f : α → Prop} (h : ∀ y, y = x → f y) : letP x f := h x rfl
theorem letP_eq {α : Sort _} {x : α} {f : α → Prop} : letP x f = f x := rfl

def bodyOf (F : Func) : Code := F.body.getD .skip

section
variable (T : Tab)
def eLd (t : TypeId) (p : AV) (M : Mem) : Option (AV × Mem) := (evLoad T t p M).map fun v => (v, M)
def eSt (t : TypeId) (p x : AV) (M : Mem) : Option (AV × Mem) := (evStore T t p x M).map fun M' => (undefA, M')
def eBin (op : BinOp) (t : TypeId) (xo yo : Operand) (x y : AV) (M : Mem) : Option (AV × Mem) := (evBin T op t xo yo x y).map fun v => (v, M)
def eUn (op : UnOp) (x : AV) (M : Mem) : Option (AV × Mem) := match x with
  | .val v => (peek T.P (Op.unary op v)).map fun u => (ofV u, M)
  | _ => none
def eLen (c : Bool) (t : TypeId) (x : AV) (M : Mem) : Option (AV × Mem) := (evLenCap T c t x M).map fun (n : Nat) => (.val (.int .i64 n), M)
def eFA (t : TypeId) (x : AV) (f : Nat) (M : Mem) : Option (AV × Mem) := (evFieldAddr T t x f).map fun v => (v, M)
def eIA (t : TypeId) (x i : AV) (M : Mem) : Option (AV × Mem) := (evIndexAddr T t x i).map fun v => (v, M)
def eLk (t : TypeId) (x i : AV) (ok : Bool) (M : Mem) : Option (AV × Mem) := (evLookup T t x i ok M).map fun v => (v, M)
def eMU (t : TypeId) (m k v : AV) (M : Mem) : Option (AV × Mem) := (evMapUpdate T t m k v M).map fun M' => (undefA, M')
def eSl (t : TypeId) (x : AV) (lo hi mx : Option AV) (M : Mem) : Option (AV × Mem) := (evSliceAt T t x lo hi mx).map fun v => (v, M)
def eBd (t : TypeId) (ps : List (Nat × AV)) (M : Mem) : Option (AV × Mem) := (evBuild T t ps).map fun v => (v, M)
def eMin (ts : Array TypeId) (ty : TypeId) (vs : List Value) (M : Mem) : Option (AV × Mem) := (peek T.P (Builtin.min_ ts ty ⟨vs⟩)).map fun v => (ofV v, M)
def eMax (ts : Array TypeId) (ty : TypeId) (vs : List Value) (M : Mem) : Option (AV × Mem) := (peek T.P (Builtin.max_ ts ty ⟨vs⟩)).map fun v => (ofV v, M)
end
/-- Results: values, and what lies in cells. -/
inductive RV where
  | v (x : AV)
  | c (t : TypeId) (p : AV)
def resC (T : Tab) (M : Mem) : List RV → Option (List AV)
  | [] => some []
  | .v x :: rs => (resC T M rs).map (x :: ·)
  | .c t p :: rs => match p with
    | .ptr b o => match evLoad T t (.ptr b o) M, resC T M rs with
      | some x, some xs => some (x :: xs)
      | _, _ => none
    | _ => none
def eRes (T : Tab) (rs : List RV) (M : Mem) : Option AV :=
  match resC T M rs with
  | some [x] => some x
  | some xs => some (.tup xs)
  | none => none
def eNil (x : AV) (M : Mem) : Option (AV × Mem) := match x with
  | .ptr b o => some (.ptr b o, M)
  | .fn f a b => some (.fn f a b, M)
  | _ => none
def eCall (T : Tab) (f : AV) (args : List AV) (M : Mem) (K : AV → Mem → Prop) : Prop :=
  caseO (match f with
    | .fn g first caps => some (g, first ++ args ++ caps)
    | _ => none) (fun c => bindO (T.fn.get c.1) fun _ => CallA T.P c.1 c.2 M K) (bindO (none : Option (AV × Mem)) fun r => K r.1 r.2)

abbrev iAdd (k : IntKind) (a b : Int) : Int := k.wrap (a + b)
abbrev iSub (k : IntKind) (a b : Int) : Int := k.wrap (a - b)
abbrev iMul (k : IntKind) (a b : Int) : Int := k.wrap (a * b)
abbrev iQuo (k : IntKind) (a b : Int) : Int := k.wrap (a.tdiv b)
def iAnd (k : IntKind) (a b : Int) : Int := k.wrap (BitVec.ofInt k.bits a &&& BitVec.ofInt k.bits b).toNat
def iOr (k : IntKind) (a b : Int) : Int := k.wrap (BitVec.ofInt k.bits a ||| BitVec.ofInt k.bits b).toNat
def iXor (k : IntKind) (a b : Int) : Int := k.wrap (BitVec.ofInt k.bits a ^^^ BitVec.ofInt k.bits b).toNat
def iShl (k : IntKind) (a b : Int) : Int := k.wrap (a * 2 ^ (min b.toNat k.bits))
def iShr (k : IntKind) (a b : Int) : Int := a.fdiv (2 ^ (min b.toNat k.bits))

/-! ## What they come to -/

section
variable {T : Tab} {M : Mem}
theorem eLd_some {t : TypeId} {p v : AV} (h : evLoad T t p M = some v) : eLd T t p M = some (v, M) := by unfold eLd; rw [h]; rfl
theorem eSt_some {t : TypeId} {p x : AV} {N : Mem} (h : evStore T t p x M = some N) : eSt T t p x M = some (undefA, N) := by unfold eSt; rw [h]; rfl
theorem eBin_some {op : BinOp} {t : TypeId} {xo yo : Operand} {x y v : AV} (h : evBin T op t xo yo x y = some v) : eBin T op t xo yo x y M = some (v, M) := by unfold eBin; rw [h]; rfl
theorem eUn_some {op : UnOp} {x u : Value} (h : peek T.P (Op.unary op x) = some u) : eUn T op (.val x) M = some (ofV u, M) := by unfold eUn; simp only; rw [h]; rfl
theorem eLen_some {c : Bool} {t : TypeId} {x : AV} {n : Nat} (h : evLenCap T c t x M = some n) : eLen T c t x M = some (.val (.int .i64 n), M) := by unfold eLen; rw [h]; rfl
theorem eFA_some {t : TypeId} {x v : AV} {f : Nat} (h : evFieldAddr T t x f = some v) : eFA T t x f M = some (v, M) := by unfold eFA; rw [h]; rfl
theorem eIA_some {t : TypeId} {x i v : AV} (h : evIndexAddr T t x i = some v) : eIA T t x i M = some (v, M) := by unfold eIA; rw [h]; rfl
theorem eLk_some {t : TypeId} {x i v : AV} {ok : Bool} (h : evLookup T t x i ok M = some v) : eLk T t x i ok M = some (v, M) := by unfold eLk; rw [h]; rfl
theorem eMU_some {t : TypeId} {m k v : AV} {N : Mem} (h : evMapUpdate T t m k v M = some N) : eMU T t m k v M = some (undefA, N) := by unfold eMU; rw [h]; rfl
theorem eSl_some {t : TypeId} {x v : AV} {lo hi mx : Option AV} (h : evSliceAt T t x lo hi mx = some v) : eSl T t x lo hi mx M = some (v, M) := by unfold eSl; rw [h]; rfl
theorem eBd_some {t : TypeId} {ps : List (Nat × AV)} {v : AV} (h : evBuild T t ps = some v) : eBd T t ps M = some (v, M) := by unfold eBd; rw [h]; rfl
theorem eNil_ptr {b o : Nat} : eNil (.ptr b o) M = some (.ptr b o, M) := rfl
theorem zI_int {k : IntKind} {z : Int} {K : Int → Prop} : zI k (.val (.int k z)) K = K z := by
  have : kindBeq k k = true := by cases k <;> rfl
  unfold zI
  simp only [this, condB_true]
theorem zB_bool {b : Bool} {K : Bool → Prop} : zB (.val (.bool b)) K = K b := rfl
theorem zP_ptr {b o : Nat} {K : Nat → Nat → Prop} : zP (.ptr b o) K = K b o := rfl
theorem bindO_i {α : Type} {o : Option α} {x : α} {f : α → Prop} (h : o = some x) (hf : f x) : bindO o f := by rw [h]; exact hf
theorem condB_i {b : Bool} {p q : Prop} (hp : b = true → p) (hq : b = false → q) : condB b p q := by
  cases b with
  | true => exact hp rfl
  | false => exact hq rfl
end

end Go.AM

/- The abstract machine, part 38: calls that look at nothing. -/
namespace Go.AM

/-- A call that is handed no address, and answers none, leaves all as it was. -/
theorem CallA.closed {P : Program} {f : FuncId} {args : List AV} {v : Value} {Q : AV → Mem → Prop} (h : CallA P f args ⟨0, .e⟩ Q) (hq : ∀ x N, Q x N → x = .val v)
    (ha : ∀ ι ι' vs, VRs ι args vs → VRs ι' args vs) (hv : ∀ ι ι' u, VR ι (.val v) u → VR ι' (.val v) u) (M : Mem) :
    CallA P f args M fun x N => x = .val v ∧ N = M := by
  intro ι w vs hvs R
  have R0 : Rel (fun _ => none) ⟨0, .e⟩ w :=
    ⟨fun b l h => (nomatch h), fun b r h => (by simp [Mem.get, Tr.get] at h), fun b b' r r' l l' h => (by simp [Mem.get, Tr.get] at h)⟩
  refine (h (fun _ => none) w vs (ha _ _ _ hvs) R0).mono ?_
  rintro e w' ⟨ι', u, x, N, rfl, h2, S, h4⟩
  have hx := hq x N h4
  subst hx
  have hf : ∀ k, k < w.heap.size → w'.heap[k]? = w.heap[k]? := fun k hk => S.frame k hk fun ⟨b, r, l, g, _⟩ => by simp [Mem.get, Tr.get] at g
  refine ⟨ι, u, .val v, M, rfl, hv _ _ _ h2, ⟨⟨R.dom, fun b r hb => ?_, R.inj⟩, Ext.refl ι, Nat.le_refl _, fun _ _ h => .inl h, S.size, fun k hk _ => hf k hk, fun _ h => .inr h, fun _ h => .inr h, S.os, S.tape, S.output⟩, rfl, rfl⟩
  obtain ⟨l, h5, h6⟩ := R.live b r hb
  exact ⟨l, h5, by rw [hf l.blk (row_lt h6)]; exact h6⟩

/-- Values, and structs of values: no address. -/
inductive Plain : AV → Prop
  | val (v : Value) : Plain (.val v)
  | agg (vs : List Value) : Plain (.agg (vs.map .val))

theorem VRs.valsTo {ι ι' : Inj} : ∀ (vs : List Value) {us : List Value}, VRs ι (vs.map .val) us → VRs ι' (vs.map .val) us
  | [], _, h => by cases h; exact .nil
  | v :: vs, _, h => by
    cases h with
    | cons _ _ _ _ h1 h2 => cases h1 with | val _ h => exact .cons _ _ _ _ (.val _ h) (VRs.valsTo vs h2)

theorem VRs.plain {ι ι' : Inj} : ∀ {xs : List AV}, (∀ x ∈ xs, Plain x) → ∀ {us : List Value}, VRs ι xs us → VRs ι' xs us
  | [], _, _, h => by cases h; exact .nil
  | x :: xs, hp, _, h => by
    cases h with
    | cons _ _ _ _ h1 h2 =>
      refine .cons _ _ _ _ ?_ (VRs.plain (fun y hy => hp y (by simp [hy])) h2)
      cases hp x (by simp) with
      | val v => cases h1 with | val _ h => exact .val _ h
      | agg vs => cases h1 with | agg _ _ h => exact .agg _ _ (VRs.valsTo vs h)

end Go.AM
