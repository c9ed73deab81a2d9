/- The abstract machine, part 33: the rule for open regions with one order given, concluded. -/
import Derived.Test.YtpfifmemkbddjaaA32
set_option linter.unusedVariables false
namespace Go.AM
set_option linter.unusedSimpArgs false

section
variable {T : Tab} {ops : Array Oper} {base : Nat} {rk : List Nat} {ob : List (List Nat)} {K : St → Prop}

def DetX (T : Tab) (ops : Array Oper) (o : Oper) (t : Tr AV) (M : Mem) (x : AV) : Prop :=
  (wantedA ops t o = some false ∧ x = undefA) ∨ (wantedA ops t o = some true ∧ ∃ M', evalOp T t o M = some (x, M'))

theorem stepX_det {id : Nat} {o : Oper} {st : St} (hc : cls T o = .pure ∨ cls T o = .read) : stepX T ops id o st K ↔ ∃ x, DetX T ops o st.t st.m x ∧ K (stX st o.dst x st.m) := by
  unfold stepX DetX
  constructor
  · intro h
    obtain ⟨b, hw, h⟩ := bindO_elim h
    cases b with
    | false => exact ⟨undefA, .inl ⟨hw, rfl⟩, h⟩
    | true =>
      rw [condB_true] at h
      rcases hc with hc | hc <;> rw [hc] at h <;> simp only [clsE_pure, clsE_read] at h <;> obtain ⟨y, hy, h⟩ := bindO_elim h <;> exact ⟨y.1, .inr ⟨hw, y.2, hy⟩, h⟩
  · rintro ⟨x, (⟨hw, rfl⟩ | ⟨hw, M', he⟩), h⟩
    · rw [hw, bindO_some, condB_false]; exact h
    · rw [hw, bindO_some, condB_true]
      rcases hc with hc | hc <;> rw [hc] <;> simp only [clsE_pure, clsE_read] <;> rw [he, bindO_some] <;> exact h

theorem stepX_ag {id : Nat} {o : Oper} {n : Nat} {t1 t2 : Tr AV} {M : Mem} {G G' : St → Prop} (ha : Ag ops o t2 t1) (h : stepX T ops id o ⟨n, t1, M⟩ G)
    (hk : ∀ y N, (cls T o = .read → N = M) → G (stX ⟨n, t1, M⟩ o.dst y N) → G' (stX ⟨n, t2, M⟩ o.dst y N)) : stepX T ops id o ⟨n, t2, M⟩ G' := by
  unfold stepX at h ⊢
  obtain ⟨b, hw, h⟩ := bindO_elim h
  rw [show wantedA ops (St.mk n t2 M).t o = some b from by rw [← hw]; exact ha.wanted, bindO_some]
  cases b with
  | false => exact hk _ _ (fun _ => rfl) h
  | true =>
    rw [condB_true] at h ⊢
    cases hc : cls T o <;> rw [hc] at h <;> simp only [clsE_eff, clsE_flt, clsE_pure, clsE_read] at h ⊢
    case eff =>
      unfold wO at h ⊢
      rw [show calleeA (St.mk n t2 M).t o = calleeA t1 o from ha.callee]
      cases hcal : calleeA t1 o with
      | some c =>
        rw [show calleeA (St.mk n t1 M).t o = some c from hcal, caseO_some] at h
        rw [caseO_some]
        obtain ⟨F, hF, h⟩ := bindO_elim h
        rw [hF, bindO_some]
        exact h.mono fun x M' hx => hk _ _ (fun h => by rw [hc] at h; cases h) hx
      | none =>
        rw [show calleeA (St.mk n t1 M).t o = none from hcal, caseO_none] at h
        rw [caseO_none]
        obtain ⟨y, hy, h⟩ := bindO_elim h
        rw [show evalOp T (St.mk n t2 M).t o (St.mk n t2 M).m = some y from by rw [← hy]; exact ha.eval T M, bindO_some]
        exact hk _ _ (fun h => by rw [hc] at h; cases h) h
    case flt =>
      obtain ⟨y, hy, h⟩ := bindO_elim h
      rw [show evFl T (St.mk n t2 M).t o id = some y from by rw [← hy]; exact ha.fl T id, bindO_some]
      exact hk _ _ (fun h => by rw [hc] at h; cases h) h
    all_goals
      obtain ⟨y, hy, h⟩ := bindO_elim h
      rw [show evalOp T (St.mk n t2 M).t o (St.mk n t2 M).m = some y from by rw [← hy]; exact ha.eval T M, bindO_some]
      exact hk _ _ (fun _ => rfl) h

theorem stepX_form {id : Nat} {o : Oper} {st : St} (h : stepX T ops id o st K) : stepX T ops id o st fun s => K s ∧ ∃ y N, s = stX st o.dst y N :=
  stepX_ag (n := st.n) (t1 := st.t) (M := st.m) (Ag.refl _) h fun y N _ hs => ⟨hs, y, N, rfl⟩

/-- What was to be read again is still so, ahead of an operation that writes what is not looked at. -/
theorem chk_drop {ok oj : Oper} {k : Nat} {s : St} {x : AV} (hk : ops[k]? = some ok) (hl : ∀ y ∈ looks ops ok, oj.dst ≠ some y) (hd : ∀ a, oj.dst = some a → ok.dst ≠ some a)
    (h : chk1 T ops (stX s oj.dst x s.m) k) : chk1 T ops s k := by
  intro o ho hw
  rw [hk] at ho; injection ho with ho; subst ho
  have ha : Ag ops ok (setd s.t oj.dst x) s.t := Ag.setd s.t x hl
  obtain ⟨y, M', h1, h2⟩ := h ok hk (by show wantedA ops (setd s.t oj.dst x) ok = some true; rw [ha.wanted]; exact hw)
  refine ⟨y, M', by rw [← ha.eval]; exact h1, fun d hdd => ?_⟩
  rw [← h2 d hdd]
  exact (setd_get _ _ (fun he => hd d he hdd)).symm

/-- An operation comes ahead of others that only look. -/
theorem wX_front {nt c : Nat} (S : Static T nt ops) {perm : List Nat} (hp : PermOk T ops perm rk ob c) {i : Nat} {oi : Oper} (hi : ops[i]? = some oi) (hci : cls T oi = .read ∨ cls T oi = .eff) :
    ∀ {pre post acc : List Nat} {st : St}, (∀ j ∈ pre, Rl T ops ob j i ∧ bf (masks ops.toList []) j i = false) → (∀ k ∈ acc, ∀ j ∈ pre, k ≠ j ∧ bf (masks ops.toList []) j k = false) → pre.Pairwise (Rl T ops ob) →
      wX T ops base rk ob (pre ++ i :: post) acc st K → stepX T ops (base + rk.getD i 0) oi st fun s => chkL T ops (obs ob i acc) s ∧ wX T ops base rk ob (pre ++ post) acc s K := by
  intro pre
  induction pre with
  | nil =>
    intro post acc st _ _ _ h
    simp only [List.nil_append] at h ⊢
    unfold wX at h
    rw [hi, bindO_some] at h
    exact stepX_mono (fun s hs => ⟨hs.1, wX_acc (fun x hx => by simp [hx]) hs.2⟩) h
  | cons j pre ih =>
    intro post acc st hpre hacc hpw h
    simp only [List.cons_append] at h ⊢
    unfold wX at h
    obtain ⟨oj, hj, h⟩ := bindO_elim h
    obtain ⟨R, hnb⟩ := hpre j (by simp)
    have A := apart_of S hi hj R.ne R.nb hnb
    have hcok := R.ok.resolve_left (by rw [hnb]; simp) oj oi hj hi
    have hdj : cls T oj = .pure ∨ (cls T oj = .read ∧ (cls T oi = .read ∨ (cls T oi = .eff ∧ j ∈ ob.getD i []))) := by
      unfold cok at hcok
      rcases hci with hci | hci <;> rw [hci] at hcok <;> cases hcj : cls T oj <;> rw [hcj] at hcok <;> simp only at hcok <;> first
        | exact .inl rfl
        | exact .inr ⟨rfl, .inl hci⟩
        | exact .inr ⟨rfl, .inr ⟨hci, by simpa using hcok⟩⟩
        | cases hcok
    have hdj' : cls T oj = .pure ∨ cls T oj = .read := hdj.imp id fun h => h.1
    obtain ⟨x, hx, h1, h2⟩ := (stepX_det hdj').1 h
    have hob : obs ob j acc = [] := by
      unfold obs
      rw [hp.obe j oj hj (by rcases hdj' with h | h <;> rw [h] <;> simp)]
      rfl
    obtain ⟨hpj, hpw⟩ := List.pairwise_cons.1 hpw
    have h3 := ih (fun j' hj' => hpre j' (by simp [hj'])) (fun k hk j' hj' => by
      simp only [List.mem_cons] at hk
      rcases hk with rfl | hk
      · exact ⟨(hpj j' hj').ne, (hpj j' hj').nb⟩
      · exact hacc k hk j' (by simp [hj'])) hpw h2
    refine stepX_ag (n := st.n) (t1 := setd st.t oj.dst x) (t2 := st.t) (M := st.m) (Ag.setd st.t x A.ij).symm h3 ?_
    rintro y N hN ⟨g1, g2⟩
    have comm : stX (stX st oj.dst x st.m) oi.dst y N = stX (stX st oi.dst y N) oj.dst x N := by
      unfold stX; simp only [setd_comm st.t x y A.dd]
    change chkL T ops (obs ob i (j :: acc)) (stX (stX st oj.dst x st.m) oi.dst y N) at g1
    change wX T ops base rk ob (pre ++ post) (j :: acc) (stX (stX st oj.dst x st.m) oi.dst y N) K at g2
    show chkL T ops (obs ob i acc) (stX st oi.dst y N) ∧ wX T ops base rk ob (j :: (pre ++ post)) acc (stX st oi.dst y N) K
    rw [comm] at g1 g2
    refine ⟨fun k hk => ?_, ?_⟩
    · have hk' := hk
      unfold obs at hk'
      rw [List.mem_filter] at hk'
      obtain ⟨ok, hok, hck, hlk⟩ := hp.obr i oi k hi hk'.1
      have hka : k ∈ acc := by simpa using hk'.2
      obtain ⟨q1, q2⟩ := hacc k hka j (by simp)
      refine chk_drop (oj := oj) (x := x) hok (fun y hy hd => ?_) (fun a ha hb => q1 (S.dst1 k j ok oj a hok hj hb ha)) (g1 k (obs_sub (fun x hx => by simp [hx]) hk))
      rw [hlk y hy j oj hj hd] at q2; cases q2
    · unfold wX
      rw [hj, bindO_some, hob]
      rw [stepX_det hdj']
      have haj : Ag ops oj (setd st.t oi.dst y) st.t := Ag.setd st.t y A.ji
      have fin : ∀ x', DetX T ops oj (setd st.t oi.dst y) N x' → (∀ d, oj.dst = some d → x' = x) → ∃ x, DetX T ops oj (stX st oi.dst y N).t (stX st oi.dst y N).m x ∧
          (fun s => chkL T ops [] s ∧ wX T ops base rk ob (pre ++ post) (j :: acc) s K) (stX (stX st oi.dst y N) oj.dst x (stX st oi.dst y N).m) := fun x' hx' he => by
        refine ⟨x', hx', (fun j hj => by simp at hj), ?_⟩
        have : stX (stX st oi.dst y N) oj.dst x' (stX st oi.dst y N).m = stX (stX st oi.dst y N) oj.dst x N := by
          show stX (stX st oi.dst y N) oj.dst x' N = _
          cases hd : oj.dst with
          | none => rfl
          | some d => rw [he d hd]
        rw [this]
        exact g2
      rcases hx with ⟨hw, rfl⟩ | ⟨hw, M', he⟩
      · exact fin undefA (.inl ⟨by rw [haj.wanted]; exact hw, rfl⟩) (fun _ _ => rfl)
      · rcases hdj with hc | ⟨hc, hc2⟩
        · exact fin x (.inr ⟨by rw [haj.wanted]; exact hw, N, by rw [haj.eval]; exact pure_ok hc he N⟩) (fun _ _ => rfl)
        · rcases hc2 with hc2 | ⟨hc2, hob2⟩
          · refine fin x (.inr ⟨by rw [haj.wanted]; exact hw, M', ?_⟩) (fun _ _ => rfl)
            rw [haj.eval, hN hc2]; exact he
          · obtain ⟨ok, hok, hck, hlk⟩ := hp.obr i oi j hi hob2
            rw [hj] at hok; injection hok with hok; subst hok
            have hself : ∀ y ∈ looks ops oj, oj.dst ≠ some y := fun y hy hd => by
              have := bf_lt S.back (by simpa using hj) (hlk y hy j oj hj hd)
              omega
            have hag2 : Ag ops oj (setd (setd st.t oi.dst y) oj.dst x) (setd st.t oi.dst y) := Ag.setd _ x hself
            obtain ⟨x', M2, q1, q2⟩ := g1 j (by unfold obs; rw [List.mem_filter]; exact ⟨hob2, by simp⟩) oj hj (by
              show wantedA ops (setd (setd st.t oi.dst y) oj.dst x) oj = some true
              rw [hag2.wanted, haj.wanted]; exact hw)
            refine fin x' (.inr ⟨by rw [haj.wanted]; exact hw, M2, by rw [← hag2.eval]; exact q1⟩) fun d hd => ?_
            have := q2 d hd
            change (setd (setd st.t oi.dst y) oj.dst x).get d = some x' at this
            rw [hd] at this
            simp only [setd, Tr.get_set_eq, Option.some.injEq] at this
            exact this.symm

end

/-! ## One operation done -/

theorem Stp.float {ι0 ι : Inj} {M0 M : Mem} {w0 w : World} (S : Stp ι0 M0 w0 ι M w) {id : Nat} (h0 : M0.next ≤ id) (hid : id < M.next) (hn : ι id = none) {l : Loc} {row : Row} {obj : Obj} (hb : l.blk = w.heap.size)
    (hr : RowR (upd ι id l) l row (some obj)) : Stp ι0 M0 w0 (upd ι id l) (M.put id row) { w with heap := w.heap.push obj } := by
  have R := S.rel
  have hext := upd_ext (l := l) hn
  have hup : (upd ι id l) id = some l := by simp [upd]
  have hne : ∀ b, b ≠ id → (upd ι id l) b = ι b := fun b h => by simp [upd, h]
  have hlt : ∀ b r l', M.get b = some r → ι b = some l' → l'.blk < w.heap.size := fun b r l' h hl => by
    obtain ⟨l2, h2, hrow⟩ := R.live b r h
    rw [hl] at h2; injection h2 with h2; subst h2
    exact row_lt hrow
  refine ⟨⟨fun b l' h => ?_, fun b r' h => ?_, fun b b' r1 r2 l1 l2 h1 h2 hl1 hl2 he => ?_⟩, S.ext.trans hext, S.nxt, fun b l' h => ?_, ?_, fun k hk hnr => ?_, ?_, ?_, S.os, S.tape, S.output⟩
  · by_cases hb' : b = id
    · subst hb'; exact hid
    · rw [hne b hb'] at h; exact R.dom b l' h
  · rw [Mem.get_put] at h
    by_cases hb' : b = id
    · subst hb'
      rw [if_pos rfl] at h
      injection h with h; subst h
      refine ⟨l, hup, ?_⟩
      simp only [hb, Array.getElem?_push_size]
      exact hr
    · rw [if_neg hb'] at h
      obtain ⟨l', hl, hrow⟩ := R.live b r' h
      refine ⟨l', by rw [hne b hb']; exact hl, ?_⟩
      have := hlt b r' l' h hl
      simp only
      rw [Array.getElem?_push, if_neg (by omega)]
      exact hrow.mono hext
  · rw [Mem.get_put] at h1 h2
    by_cases hb1 : b = id <;> by_cases hb2 : b' = id
    · omega
    · rw [if_neg hb2] at h2
      rw [hb1, hup] at hl1; injection hl1 with hl1; subst hl1
      rw [hne b' hb2] at hl2
      have := hlt b' r2 l2 h2 hl2
      omega
    · rw [if_neg hb1] at h1
      rw [hb2, hup] at hl2; injection hl2 with hl2; subst hl2
      rw [hne b hb1] at hl1
      have := hlt b r1 l1 h1 hl1
      omega
    · rw [if_neg hb1] at h1
      rw [if_neg hb2] at h2
      rw [hne b hb1] at hl1
      rw [hne b' hb2] at hl2
      exact R.inj b b' r1 r2 l1 l2 h1 h2 hl1 hl2 he
  · by_cases hb' : b = id
    · subst hb'; exact .inr h0
    · rw [hne b hb'] at h; exact S.new b l' h
  · simp only [Array.size_push]
    have := S.size; omega
  · simp only
    have := S.size
    rw [Array.getElem?_push, if_neg (by omega)]
    exact S.frame k hk hnr
  · rintro k ⟨b, r', l', h1, h2, h3, h4⟩
    rw [Mem.get_put] at h1
    by_cases hb' : b = id
    · rw [hb', hup] at h3; injection h3 with h3; subst h3
      left; have := S.size; omega
    · rw [if_neg hb'] at h1
      rw [hne b hb'] at h3
      exact S.evo k ⟨b, r', l', h1, h2, h3, h4⟩
  · rintro k ⟨b, r', l', h1, h3, h4⟩
    rw [Mem.get_put] at h1
    by_cases hb' : b = id
    · rw [hb', hup] at h3; injection h3 with h3; subst h3
      left; have := S.size; omega
    · rw [if_neg hb'] at h1
      rw [hne b hb'] at h3
      exact S.evl k ⟨b, r', l', h1, h3, h4⟩

structure CI (T : Tab) (ops : Array Oper) (base : Nat) (rk : List Nat) (c : Nat) (ι0 : Inj) (M0 : Mem) (w0 : World) (pend : List Nat) (ι : Inj) (st : St) (a : Act) (w : World) : Prop where
  str : StR ι st a w
  stp : Stp ι0 M0 w0 ι st.m w
  nxt : base + c ≤ st.m.next
  fl : ∀ i ∈ pend, ∀ o, ops[i]? = some o → cls T o = .flt → ι (base + rk.getD i 0) = none

section
variable {T : Tab} {ops : Array Oper} {base : Nat} {rk : List Nat} {ob : List (List Nat)} {K : St → Prop} {ι0 ι : Inj} {M0 : Mem} {w0 w : World} {pend : List Nat} {a : Act} {st : St} {nt c : Nat} {perm : List Nat}

theorem execX (ok : T.Ok) (S : Static T nt ops) (hp : PermOk T ops perm rk ob c) (hn : nt ≤ st.n) (hb : M0.next = base) (I : CI T ops base rk c ι0 M0 w0 pend ι st a w) {i : Nat} {oi : Oper} (hi : ops[i]? = some oi) (him : i ∈ pend)
    {rest : List Nat} (hrest : ∀ j ∈ rest, j ∈ pend ∧ j ≠ i) (h : stepX T ops (base + rk.getD i 0) oi st K) {Kc : Act → World → Prop} {Q : Exit → Act → World → Prop}
    (hk : ∀ ι' a' w' s, CI T ops base rk c ι0 M0 w0 rest ι' s a' w' → s.n = st.n → K s → Kc a' w') :
    (wantedA ops st.t oi = some false ∧ Kc (a.put oi.dst undef) w) ∨ (wantedA ops st.t oi = some true ∧ oi.wp T.P a w Kc Q) := by
  obtain ⟨s1, s2, s3, s4⟩ := I.str
  have hd : ∀ t, oi.dst = some t → t < st.n := fun t ht => Nat.lt_of_lt_of_le (S.dlt i oi t hi ht) hn
  have put : ∀ {ι' : Inj} {x : AV} {v : Value} {M' : Mem} {w' : World}, FrR ι' st.t a → VR ι' x v → Stp ι0 M0 w0 ι' M' w' → base + c ≤ M'.next →
      (∀ j ∈ rest, ∀ o, ops[j]? = some o → cls T o = .flt → ι' (base + rk.getD j 0) = none) → K (stX st oi.dst x M') → Kc (a.put oi.dst v) w' := fun {ι' x v M' w'} hf hv hS hnx hfl hK => by
    obtain ⟨q1, q2, q3⟩ := put_frr hf s1 hd hv
    exact hk ι' _ w' (stX st oi.dst x M') ⟨⟨q2, q1, by rw [q3]; exact s3, hS.rel⟩, hS, hnx, hfl⟩ rfl hK
  have flS : ∀ {ι' : Inj} {M' : Mem} {w' : World}, Stp ι st.m w ι' M' w' → ∀ j ∈ rest, ∀ o, ops[j]? = some o → cls T o = .flt → ι' (base + rk.getD j 0) = none := fun {ι' M' w'} hS j hj o ho hc => by
    have h0 := I.fl j (hrest j hj).1 o ho hc
    cases hq : ι' (base + rk.getD j 0) with
    | none => rfl
    | some l =>
      rcases hS.new _ _ hq with h | h
      · rw [h0] at h; cases h
      · have := hp.fid j o ho hc
        have := I.nxt
        omega
  have go : ∀ {ι' : Inj} {x : AV} {v : Value} {M' : Mem} {w' : World}, VR ι' x v → Stp ι st.m w ι' M' w' → K (stX st oi.dst x M') → Kc (a.put oi.dst v) w' := fun {ι' x v M' w'} hv hS hK =>
    put (fun t => (s2 t).mono hS.ext) hv (I.stp.trans hS) (Nat.le_trans I.nxt hS.nxt) (flS hS) hK
  unfold stepX at h
  obtain ⟨b, hw, h⟩ := bindO_elim h
  cases b with
  | false => exact .inl ⟨hw, go (VR.undef ι) (Stp.refl s4) h⟩
  | true =>
    refine .inr ⟨hw, ?_⟩
    rw [condB_true] at h
    cases hc : cls T oi <;> rw [hc] at h <;> simp only [clsE_eff, clsE_flt, clsE_pure, clsE_read] at h
    case eff =>
      unfold wO at h
      cases hcal : calleeA st.t oi with
      | some cc =>
        obtain ⟨g, args⟩ := cc
        rw [hcal, caseO_some] at h
        obtain ⟨F, hF, h⟩ := bindO_elim h
        exact callee_wp ok s2 s4 hcal hF h fun ι' v x M' w' h1 h2 h3 => go h1 h2 h3
      | none =>
        rw [hcal, caseO_none] at h
        obtain ⟨⟨x, M'⟩, hy, h⟩ := bindO_elim h
        obtain ⟨ι', w', n, v, g1, g2, g3, g4⟩ := evalOp_ok ok s4 s2 hy
        unfold Oper.wp
        rw [g1]
        rcases g2 with rfl | ⟨rfl, rfl⟩
        · exact go g3 g4 h
        · exact go g3 g4 h
    case flt =>
      obtain ⟨⟨x, row⟩, hy, h⟩ := bindO_elim h
      have hnone := I.fl i him oi hi hc
      have hfid := hp.fid i oi hi hc
      have hnx := I.nxt
      obtain ⟨v, obj, size, g1, g2, g3⟩ := evFl_ok ok s2 hnone hy (w := w)
      unfold Oper.wp
      rw [g1]
      refine put (fun t => (s2 t).mono (upd_ext hnone)) g2 (I.stp.float (by omega) (by omega) hnone rfl g3) I.nxt (fun j hj o ho hcj => ?_) h
      have h0 := I.fl j (hrest j hj).1 o ho hcj
      have hne : base + rk.getD j 0 ≠ base + rk.getD i 0 := fun he => (hrest j hj).2 (hp.fin j i o oi ho hi hcj hc (by omega))
      unfold upd; rw [if_neg hne]; exact h0
    all_goals
      obtain ⟨⟨x, M'⟩, hy, h⟩ := bindO_elim h
      have hM : M' = st.m := by first | exact read_ok hc hy | (have := pure_ok hc hy st.m; rw [hy] at this; injection this with this; injection this)
      subst hM
      obtain ⟨ι', w', n, v, g1, g2, g3, g4⟩ := evalOp_ok ok s4 s2 hy
      unfold Oper.wp
      rw [g1]
      rcases g2 with rfl | ⟨rfl, rfl⟩
      · exact go g3 g4 h
      · exact go g3 g4 h

theorem wp_const {P : Program} {o : Oper} {Z : Prop} (h : o.wp P a w (fun _ _ => Z) (fun _ _ _ => Z)) : Z := by
  unfold Oper.wp at h
  generalize (execOp a.eval o).run P w = r at h
  cases r with
  | ok n w' =>
    cases n <;> simp only [Oper.upon] at h <;> first
      | exact h
      | (obtain ⟨e, w2, fr, h1, _⟩ := h []
         cases e <;> first | exact h1 | (obtain ⟨_, _, h2⟩ := h1; exact h2))
      | (obtain ⟨v, w2, h1, _⟩ := h (Frame.enter P 0 #[] .normal) []; exact h1)
  | halt x w' => cases x <;> simp only [Oper.upon] at h <;> exact h

/-- What comes early comes about. -/
theorem peekX (ok : T.Ok) (S : Static T nt ops) (hp : PermOk T ops perm rk ob c) (hb : M0.next = base) {i : Nat} {oi : Oper} (hi : ops[i]? = some oi) :
    ∀ {pre post acc : List Nat} {ι : Inj} {st : St} {a : Act} {w : World}, nt ≤ st.n → CI T ops base rk c ι0 M0 w0 (pre ++ i :: post) ι st a w → (pre ++ i :: post).Pairwise (Rl T ops ob) → (∀ j ∈ pre, bf (masks ops.toList []) j i = false) →
      wX T ops base rk ob (pre ++ i :: post) acc st K → ∃ st' K', Ag ops oi st'.t st.t ∧ stepX T ops (base + rk.getD i 0) oi st' K' := by
  intro pre
  induction pre with
  | nil =>
    intro post acc ι st a w _ _ _ _ h
    simp only [List.nil_append] at h
    unfold wX at h
    rw [hi, bindO_some] at h
    exact ⟨st, _, Ag.refl _, h⟩
  | cons j pre ih =>
    intro post acc ι st a w hn I hpw hnb h
    simp only [List.cons_append] at h hpw I
    unfold wX at h
    obtain ⟨oj, hj, h⟩ := bindO_elim h
    obtain ⟨hpj, hpw⟩ := List.pairwise_cons.1 hpw
    have R := hpj i (by simp)
    have A := apart_of S hi hj R.ne R.nb (hnb j (by simp))
    have key := execX (Q := fun _ _ _ => ∃ st' K', Ag ops oi st'.t st.t ∧ stepX T ops (base + rk.getD i 0) oi st' K') (Kc := fun _ _ => ∃ st' K', Ag ops oi st'.t st.t ∧ stepX T ops (base + rk.getD i 0) oi st' K')
      ok S hp hn hb I hj (by simp) (rest := pre ++ i :: post) (fun k hk => ⟨by simp only [List.mem_cons]; exact .inr hk, (hpj k hk).ne.symm⟩) (stepX_form h) (by
        rintro ι' a' w' s I' hsn ⟨⟨_, hs⟩, y, N, rfl⟩
        obtain ⟨st', K', h1, h2⟩ := ih (by rw [hsn]; exact hn) I' hpw (fun j' hj' => hnb j' (by simp [hj'])) hs
        exact ⟨st', K', h1.trans (Ag.setd st.t y A.ij), h2⟩)
    rcases key with ⟨_, h1⟩ | ⟨_, h1⟩
    · exact h1
    · exact wp_const h1

end

theorem filter_set {listed : Array Bool} {i : Nat} (hi : i < listed.size) : ∀ {l pre post : List Nat}, l.Nodup → l.filter (fun j => !listed.getD j false) = pre ++ i :: post →
    l.filter (fun j => !(listed.setIfInBounds i true).getD j false) = pre ++ post := by
  intro l pre post hnd h
  have e : (fun j => !(listed.setIfInBounds i true).getD j false) = fun j => (!listed.getD j false) && decide (j ≠ i) := by
    funext j
    rw [getD_set listed i j hi]
    by_cases hj : j = i
    · simp [hj]
    · simp [hj]
  rw [e]
  have : (l.filter fun j => (!listed.getD j false) && decide (j ≠ i)) = (l.filter fun j => !listed.getD j false).filter fun j => decide (j ≠ i) := by
    rw [List.filter_filter]
    congr 1
    funext j
    rw [Bool.and_comm]
  rw [this, h]
  have hnd2 : (pre ++ i :: post).Nodup := h ▸ hnd.filter _
  rw [List.nodup_append] at hnd2
  obtain ⟨_, h2, h3⟩ := hnd2
  rw [List.nodup_cons] at h2
  rw [List.filter_append, List.filter_cons]
  simp only [ne_eq, not_true_eq_false, decide_false, Bool.false_eq_true, if_false]
  rw [List.filter_eq_self.2, List.filter_eq_self.2]
  · intro a ha
    simp only [decide_eq_true_eq]
    intro he; subst he; exact h2.1 ha
  · intro a ha
    simp only [decide_eq_true_eq]
    intro he; subst he; exact h3 a ha a (by simp) rfl

/-- The rule for an open region: one order is given, of those that the edges allow. -/
theorem wpa_x {T : Tab} (ok : T.Ok) (hmix : T.P.follows .mixedOrders = true) {nt id : Nat} {ops : Array Oper} (S : Static T nt ops) {st0 : St} (hn : nt ≤ st0.n) {Q : Ex → St → Prop} {perm rk : List Nat} {ob : List (List Nat)} {c : Nat}
    (hpb : permB T ops perm rk ob c = true) (h : wX T ops st0.m.next rk ob perm [] { n := st0.n, t := st0.t, m := { next := st0.m.next + c, rows := st0.m.rows } } (Q .normal)) : WpA T.P (.region id ops true) st0 Q := by
  have hp := permB_ok hpb
  have hnd : perm.Nodup := hp.pair.imp fun h => h.ne
  intro ι0 a0 w0 hs
  refine wp_region_any hmix ?_
  have key : ∀ (fuel : Nat) (listed : Array Bool) (a : Act) (w : World) (ι : Inj) (st : St), CI T ops st0.m.next rk c ι0 st0.m w0 (perm.filter fun j => !listed.getD j false) ι st a w → listed.size = ops.size →
      Closed ops.toList (fun j => listed.getD j false) → unl listed ops.size ≤ fuel → nt ≤ st.n → wX T ops st0.m.next rk ob (perm.filter fun j => !listed.getD j false) [] st (Q .normal) →
      wpAny T.P .any ops (Post ι0 st0.m w0 Q) fuel listed a w := by
    have fin : ∀ (listed : Array Bool) (a : Act) (w : World) (ι : Inj) (st : St), CI T ops st0.m.next rk c ι0 st0.m w0 (perm.filter fun j => !listed.getD j false) ι st a w → (∀ j, j < ops.size → listed.getD j false = true) →
        wX T ops st0.m.next rk ob (perm.filter fun j => !listed.getD j false) [] st (Q .normal) → Post ι0 st0.m w0 Q .normal a w := by
      intro listed a w ι st I hall hx
      have : (perm.filter fun j => !listed.getD j false) = [] := by
        rw [List.filter_eq_nil_iff]
        intro j hj
        rw [hall j (hp.lt j hj)]; simp
      rw [this] at hx
      exact ⟨ι, .normal, st, rfl, I.str, I.stp, hx⟩
    intro fuel
    induction fuel with
    | zero =>
      intro listed a w ι st I hsz hcl hun hnst hx
      have hall := unl_zero (show unl listed ops.size = 0 by omega)
      refine ⟨?_, fin listed a w ι st I hall hx⟩
      apply List.eq_nil_iff_forall_not_mem.2
      intro i hrdy
      obtain ⟨h0, o, ho, _⟩ := mem_ready.1 hrdy
      have hlt : i < ops.size := (Array.getElem?_eq_some_iff.1 ho).1
      have := hall i hlt
      rw [Array.getD_eq_getD_getElem?, Array.getElem?_eq_getElem (by omega)] at h0 this
      simp only [Option.getD_some] at h0 this
      rw [h0] at this; cases this
    | succ fuel ih =>
      intro listed a w ι st I hsz hcl hun hnst hx
      refine ⟨fun hnil => ?_, fun i hrdy => ?_⟩
      · refine fin listed a w ι st I (fun i => ?_) hx
        induction i using Nat.strongRecOn with
        | _ i ihi =>
          intro hi
          cases hL : listed.getD i false with
          | true => rfl
          | false =>
            exfalso
            have : i ∈ Region.ready .any ops listed := by
              refine mem_ready.2 ⟨?_, ops[i], by simp [hi], fun e he hb => ?_⟩
              · rw [Array.getD_eq_getD_getElem?, Array.getElem?_eq_getElem (by omega)] at hL ⊢
                exact hL
              · have := S.back i ops[i] (by simp [hi]) e (by simpa using he) hb
                exact ihi e.on this (by omega)
            rw [hnil] at this
            cases this
      · obtain ⟨h0, o, ho, hedge⟩ := mem_ready.1 hrdy
        have hlt : i < ops.size := (Array.getElem?_eq_some_iff.1 ho).1
        have hLi : listed.getD i false = false := by
          rw [Array.getD_eq_getD_getElem?, Array.getElem?_eq_getElem (by omega)] at h0 ⊢
          exact h0
        have hr : ∀ e ∈ o.after.toList, bindsB e = true → listed.getD e.on false = true := fun e he hb => hedge e (by simpa using he) hb
        have hun' : unl (listed.setIfInBounds i true) ops.size ≤ fuel := by
          have := unl_set listed i (by omega) hLi ops.size
          rw [if_pos hlt] at this
          omega
        have hsz' : (listed.setIfInBounds i true).size = ops.size := by simp [hsz]
        have hgd := fun j => getD_set listed i j (by omega)
        have hcl' : Closed ops.toList (fun j => (listed.setIfInBounds i true).getD j false) := by
          intro j oj hj hLj e he hb
          simp only at hLj ⊢
          rw [hgd] at hLj ⊢
          by_cases hji : j = i
          · subst hji
            have : ops.toList[j]? = some o := by simpa using ho
            rw [this] at hj; injection hj with hj; subst hj
            rw [hr e he hb]; simp
          · simp only [hji, decide_false, Bool.false_or] at hLj
            have := hcl j oj hj hLj e he hb
            simp only at this
            rw [this]; simp
        have him : i ∈ perm.filter fun j => !listed.getD j false := by
          rw [List.mem_filter]
          exact ⟨hp.all i hlt, by rw [hLi]; rfl⟩
        obtain ⟨pre, post, hpp⟩ := List.append_of_mem him
        have hpend' := filter_set (by omega) hnd hpp
        have hpw : (pre ++ i :: post).Pairwise (Rl T ops ob) := hpp ▸ hp.pair.sublist List.filter_sublist
        obtain ⟨hpw1, hpw2, hpw3⟩ := List.pairwise_append.1 hpw
        obtain ⟨hpw4, hpw5⟩ := List.pairwise_cons.1 hpw2
        have hprenl : ∀ j ∈ pre, listed.getD j false = false := fun j hj => by
          have : j ∈ perm.filter fun j => !listed.getD j false := by rw [hpp]; simp [hj]
          rw [List.mem_filter] at this
          simpa using this.2
        have hnb : ∀ j ∈ pre, bf (masks ops.toList []) j i = false := fun j hj => by
          cases hb : bf (masks ops.toList []) j i with
          | false => rfl
          | true =>
            have := closed_bf S.back hcl i o (by simpa using ho) hr hb
            have h2 := hprenl j hj
            rw [h2] at this; cases this
        have hpre : ∀ j ∈ pre, Rl T ops ob j i ∧ bf (masks ops.toList []) j i = false := fun j hj => ⟨hpw3 j hj i (by simp), hnb j hj⟩
        rw [hpp] at hx I
        have hrest : ∀ j ∈ pre ++ post, j ∈ pre ++ i :: post ∧ j ≠ i := fun j hj => by
          rw [List.mem_append] at hj
          rcases hj with hj | hj
          · exact ⟨by simp [hj], (hpw3 j hj i (by simp)).ne⟩
          · exact ⟨by simp [hj], (hpw4 j hj).ne.symm⟩
        -- the operation comes first
        have hfirst : stepX T ops (st0.m.next + rk.getD i 0) o st fun s => wX T ops st0.m.next rk ob (pre ++ post) [] s (Q .normal) := by
          have early : cls T o = .pure ∨ cls T o = .flt → stepX T ops (st0.m.next + rk.getD i 0) o st fun s => wX T ops st0.m.next rk ob (pre ++ post) [] s (Q .normal) := fun hc => by
            obtain ⟨st', K', hag, hst'⟩ := peekX ok S hp rfl ho hnst I hpw hnb hx
            obtain ⟨x, r, hE, h1, h2, h3⟩ := early_of hc hst'
            have hE := hE.ag hag.symm
            refine (hE st.n st.t st.m _ (Ag.refl _)).2 (wX_early S hp ho (fun hne => (h2 hne).1) hpre (by simp) hE ?_ hx)
            by_cases hrn : r = none
            · exact .inl hrn
            · obtain ⟨hcf, _⟩ := h2 hrn
              refine .inr ⟨?_, ?_⟩
              · cases hg : st.m.get (st0.m.next + rk.getD i 0) with
                | none => rfl
                | some row =>
                  obtain ⟨l, hl, _⟩ := I.str.2.2.2.live _ _ hg
                  have := I.fl i (by simp) o ho hcf
                  rw [this] at hl; cases hl
              · have := hp.fid i o ho hcf
                have := I.nxt
                show st0.m.next + rk.getD i 0 < st.m.next
                omega
          cases hc : cls T o with
          | pure => exact early (.inl hc)
          | flt => exact early (.inr hc)
          | read => exact stepX_mono (fun s hs => hs.2) (wX_front S hp ho (.inl hc) hpre (by simp) hpw1 hx)
          | eff => exact stepX_mono (fun s hs => hs.2) (wX_front S hp ho (.inr hc) hpre (by simp) hpw1 hx)
        have key := execX (Q := Post ι0 st0.m w0 Q) (Kc := wpAny T.P .any ops (Post ι0 st0.m w0 Q) fuel (listed.setIfInBounds i true)) ok S hp hnst rfl I ho (by simp) hrest hfirst (by
          intro ι' a' w' s I' hsn hs
          exact ih _ a' w' ι' s (by rw [hpend']; exact I') hsz' hcl' hun' (by rw [hsn]; exact hnst) (by rw [hpend']; exact hs))
        unfold wpOp
        rw [ho]
        simp only
        rcases key with ⟨hw, h1⟩ | ⟨hw, h1⟩
        · rw [wantedA_ok I.str.2.1 hw, if_neg (by simp)]
          exact h1
        · rw [wantedA_ok I.str.2.1 hw, if_pos rfl]
          exact .inl h1
  have hemp : ∀ j, (Array.replicate ops.size false).getD j false = false := fun j => by
    simp [Array.getElem?_replicate]
    split <;> simp
  have hpe : (perm.filter fun j => !(Array.replicate ops.size false).getD j false) = perm := by
    rw [List.filter_eq_self]
    intro j _
    rw [hemp]; rfl
  have h0 : Stp ι0 st0.m w0 ι0 st0.m { w0 with drawn := w0.drawn + 1 } := Stp.of_heap hs.2.2.2 rfl rfl rfl rfl
  have h1 : Stp ι0 st0.m w0 ι0 { next := st0.m.next + c, rows := st0.m.rows } { w0 with drawn := w0.drawn + 1 } := h0.forget (Nat.le_add_right _ _) (fun b r h => h)
  refine key ops.size _ a0 _ ι0 { n := st0.n, t := st0.t, m := { next := st0.m.next + c, rows := st0.m.rows } } ⟨⟨hs.1, hs.2.1, hs.2.2.1, h1.rel⟩, h1, Nat.le_refl _, fun i _ o _ _ => ?_⟩ (by simp) ?_ ?_ hn ?_
  · cases hq : ι0 (st0.m.next + rk.getD i 0) with
    | none => rfl
    | some l => have := hs.2.2.2.dom _ _ hq; omega
  · intro j oj _ hL
    simp only at hL
    rw [hemp] at hL; cases hL
  · unfold unl
    exact Nat.le_trans (List.countP_le_length) (by simp)
  · rw [hpe]; exact h

end Go.AM
