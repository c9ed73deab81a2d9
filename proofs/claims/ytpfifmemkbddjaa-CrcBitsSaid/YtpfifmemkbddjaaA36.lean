/- The abstract machine, part 36: what is noted down bears what has to be shown. -/
import Derived.Test.YtpfifmemkbddjaaA35
set_option linter.unusedVariables false
namespace Go.AM
set_option linter.unusedSimpArgs false

section
variable {T : Tab}

/-- What holds at the end also knows which slots were written. -/
theorem zO_agr {ops : Array Oper} : ∀ {l : List Oper} {ks : List SK} {st : St} {K K' : St → Prop}, zO T ops l ks st K → (∀ s, s.n = st.n → Agr st.t s.t (dstsOf l) → K s → K' s) → zO T ops l ks st K'
  | [], _, st, _, _, h, hk => hk st rfl Agr.refl h
  | o :: r, ks, st, K, K', h, hk => by
    have hstep : ∀ (x : AV) (M : Mem) {ks : List SK}, zO T ops r ks (stX st o.dst x M) K → zO T ops r ks (stX st o.dst x M) K' := fun x M ks h => zO_agr h fun s hn ha hs => hk s hn (by
      refine Agr.trans (agr_setd (x := x) (d := o.dst) fun a ha => ?_) (ha.sub fun i hi => ?_)
      · unfold dstsOf; rw [ha]; simp
      · unfold dstsOf; split <;> simp [hi]) hs
    unfold zO at h ⊢
    obtain ⟨b, hw, h⟩ := bindO_elim h
    rw [hw, bindO_some]
    cases b with
    | false => exact hstep _ _ h
    | true =>
      rw [condB_true] at h ⊢
      cases hc : cls T o <;> rw [hc] at h <;> simp only [clsE_eff, clsE_flt, clsE_pure, clsE_read] at h ⊢
      case eff => exact wO_mono h fun x M hx => asK_mono hx fun x' hx' => hstep _ _ hx'
      all_goals
        obtain ⟨y, hy, h⟩ := bindO_elim h
        rw [hy, bindO_some]
        exact asK_mono h fun x' hx' => hstep _ _ hx'

theorem zStep_form {ops : Array Oper} {id : Nat} {o : Oper} {k : SK} {st : St} {K K' : St → Prop} (h : zStep T ops id o k st K) (hk : ∀ x M, K (stX st o.dst x M) → K' (stX st o.dst x M)) : zStep T ops id o k st K' := by
  unfold zStep at h ⊢
  obtain ⟨b, hw, h⟩ := bindO_elim h
  rw [hw, bindO_some]
  cases b with
  | false => exact hk _ _ h
  | true =>
    rw [condB_true] at h ⊢
    cases hc : cls T o <;> rw [hc] at h <;> simp only [clsE_eff, clsE_flt, clsE_pure, clsE_read] at h ⊢
    case eff => exact wO_mono h fun x M hx => asK_mono hx fun x' hx' => hk _ _ hx'
    all_goals
      obtain ⟨y, hy, h⟩ := bindO_elim h
      rw [hy, bindO_some]
      exact asK_mono h fun x' hx' => hk _ _ hx'

theorem chkA_mono {ops : Array Oper} {s : St} {K K' : St → Prop} (hk : K s → K' s) : ∀ {l : List Nat}, chkA T ops l s K → chkA T ops l s K'
  | [], h => hk h
  | _ :: _, h => ⟨h.1, chkA_mono hk h.2⟩

theorem zY_agr {ops : Array Oper} {base : Nat} {rk : List Nat} : ∀ {l : List (Nat × List Nat)} {ks : List SK} {st : St} {K K' : St → Prop}, zY T ops base rk l ks st K →
    (∀ s, s.n = st.n → Agr st.t s.t (dstsOf ops.toList) → K s → K' s) → zY T ops base rk l ks st K'
  | [], _, st, _, _, h, hk => hk st rfl Agr.refl h
  | i :: is, ks, st, K, K', h, hk => by
    unfold zY at h ⊢
    obtain ⟨o, ho, h⟩ := bindO_elim h
    rw [ho, bindO_some]
    refine zStep_form h fun x M hs => chkA_mono (fun hs => zY_agr (ops := ops) (st := stX st o.dst x M) (K' := K') hs fun s hn (ha : Agr (setd st.t o.dst x) s.t (dstsOf ops.toList)) hs => hk s hn (Agr.trans (agr_setd (l := dstsOf ops.toList) (x := x) (d := o.dst) fun a ha => ?_) ha) hs) hs
    have : o ∈ ops.toList := by
      obtain ⟨hlt, he⟩ := Array.getElem?_eq_some_iff.1 ho
      rw [← he]; simp
    exact dstsOf_mem this ha

theorem setS_get {sl : List (Tmp × LK)} : ∀ {vs : List AV} {t : Tr AV} {i : Nat}, i ∉ sl.map (·.1) → (setS sl vs t).get i = t.get i := by
  induction sl with
  | nil => intro vs t i _; cases vs <;> rfl
  | cons s sl ih =>
    intro vs t i hi
    simp only [List.map_cons, List.mem_cons, not_or] at hi
    cases vs with
    | nil => rfl
    | cons v vs =>
      show (setS sl vs (t.set s.1 (some v))).get i = t.get i
      rw [ih hi.2, Tr.get_set_ne _ _ _ _ hi.1]
theorem setJ_get {js : Nat → Option AV} : ∀ {junk : List Tmp} {t : Tr AV} {i : Nat}, i ∉ junk → (setJ js junk t).get i = t.get i
  | [], _, _, _ => rfl
  | j :: r, t, i, hi => by
    simp only [List.mem_cons, not_or] at hi
    show (setJ js r (t.set j (js j))).get i = t.get i
    rw [setJ_get hi.2, Tr.get_set_ne _ _ _ _ hi.1]

/-- Frames that hold the same. -/
def SameT (t t' : Tr AV) : Prop := ∀ i, (t.get i).getD undefA = (t'.get i).getD undefA

theorem wpa_same {P : Program} {c : Code} {n : Nat} {t t' : Tr AV} {m : Mem} {Q : Ex → St → Prop} (h : WpA P c ⟨n, t, m⟩ Q) (hs : SameT t t') : WpA P c ⟨n, t', m⟩ Q := fun ι a w hst =>
  h ι a w ⟨hst.1, fun i => by rw [hs i]; exact hst.2.1 i, hst.2.2⟩

theorem setS_same {t' : Tr AV} : ∀ {sl : List (Tmp × LK)} {t : Tr AV} {P : Nat → Prop}, (∀ i, ¬ P i → (t.get i).getD undefA = (t'.get i).getD undefA) →
    ∀ i, ¬ (P i ∧ i ∉ sl.map (·.1)) → ((setS sl (slotsOf t' sl) t).get i).getD undefA = (t'.get i).getD undefA
  | [], t, P, h, i, hi => h i fun hp => hi ⟨hp, by simp⟩
  | s :: sl, t, P, h, i, hi => by
    show ((setS sl (slotsOf t' sl) (t.set s.1 (some ((t'.get s.1).getD undefA)))).get i).getD undefA = _
    refine setS_same (P := fun i => P i ∧ i ≠ s.1) (fun j hj => ?_) i fun hp => hi ⟨hp.1.1, ?_⟩
    · rw [Tr.get_set]
      by_cases hjs : j = s.1
      · rw [if_pos hjs, hjs]; rfl
      · rw [if_neg hjs]
        exact h j fun hp => hj ⟨hp, hjs⟩
    · simp only [List.map_cons, List.mem_cons, not_or]
      exact ⟨hp.1.2, hp.2⟩

theorem setJ_same {t' : Tr AV} : ∀ {junk : List Tmp} {t : Tr AV} {P : Nat → Prop}, (∀ i, ¬ P i → (t.get i).getD undefA = (t'.get i).getD undefA) →
    ∀ i, ¬ (P i ∧ i ∉ junk) → ((setJ (fun j => t'.get j) junk t).get i).getD undefA = (t'.get i).getD undefA
  | [], t, P, h, i, hi => h i fun hp => hi ⟨hp, by simp⟩
  | s :: r, t, P, h, i, hi => by
    show ((setJ (fun j => t'.get j) r (t.set s (t'.get s))).get i).getD undefA = _
    refine setJ_same (P := fun i => P i ∧ i ≠ s) (fun j hj => ?_) i fun hp => hi ⟨hp.1.1, ?_⟩
    · rw [Tr.get_set]
      by_cases hjs : j = s
      · rw [if_pos hjs, hjs]
      · rw [if_neg hjs]
        exact h j fun hp => hj ⟨hp, hjs⟩
    · simp only [List.mem_cons, not_or]
      exact ⟨hp.1.2, hp.2⟩

theorem wZ_agr {nt : Nat} : ∀ {an : An} {c : Code} {st : St} {Q Q' : Ex → St → Prop}, anB T nt an c = true → wZ T an c st Q → (∀ ex s, s.n = st.n → Agr st.t s.t (asgOf an c) → Q ex s → Q' ex s) → wZ T an c st Q'
  | .z, c, st, Q, Q', _, h, hk => by
    cases c <;> simp only [wZ] at h ⊢ <;> exact hk _ st rfl Agr.refl h
  | .reg ks, c, st, Q, Q', hB, h, hk => by
    cases c <;> simp only [wZ] at h ⊢
    rename_i id ops d
    cases d with
    | true => exact h.elim
    | false => exact zO_agr h fun s hn ha hs => hk _ s hn ha hs
  | .opn steps rk ob n ks, c, st, Q, Q', hB, h, hk => by
    cases c <;> simp only [wZ] at h ⊢
    rename_i id ops d
    cases d with
    | true => exact zY_agr h fun s hn ha hs => hk _ s hn ha hs
    | false => exact h.elim
  | .seq a b, c, st, Q, Q', hB, h, hk => by
    cases c <;> simp only [wZ] at h ⊢
    rename_i x y
    simp only [anB, Bool.and_eq_true] at hB
    refine wZ_agr hB.1 h fun ex s hn ha hs => ?_
    cases ex with
    | normal => exact wZ_agr hB.2 hs fun ex s' hn' ha' hs' => hk ex s' (hn'.trans hn) ((ha.sub fun i hi => by simp [asgOf, hi]).trans (ha'.sub fun i hi => by simp [asgOf, hi])) hs'
    | _ => exact hk _ s hn (ha.sub fun i hi => by simp [asgOf, hi]) hs
  | .cnd a b, c, st, Q, Q', hB, h, hk => by
    cases c <;> simp only [wZ] at h ⊢
    rename_i o x y
    simp only [anB, Bool.and_eq_true] at hB
    obtain ⟨v, hv, h⟩ := zB_elim h
    rw [hv]
    show condB v _ _
    cases v with
    | true => exact wZ_agr hB.1 h fun ex s hn ha hs => hk ex s hn (ha.sub fun i hi => by simp [asgOf, hi]) hs
    | false => exact wZ_agr hB.2 h fun ex s hn ha hs => hk ex s hn (ha.sub fun i hi => by simp [asgOf, hi]) hs
  | .blk a, c, st, Q, Q', hB, h, hk => by
    cases c <;> simp only [wZ] at h ⊢
    rename_i id x
    simp only [anB] at hB
    refine wZ_agr hB h fun ex s hn ha hs => ?_
    have hk' : ∀ ex, Q ex s → Q' ex s := fun ex hq => hk ex s hn ha hq
    cases ex with
    | exit i =>
      simp only [onExit] at hs ⊢
      split
      · rename_i he; rw [if_pos he] at hs; exact hk' _ hs
      · rename_i he; rw [if_neg he] at hs; exact hk' _ hs
    | _ => exact hk' _ hs
  | .lop sl junk a, c, st, Q, Q', hB, h, hk => by
    cases c <;> simp only [wZ] at h ⊢
    rename_i x
    simp only [anB, Bool.and_eq_true, List.all_eq_true] at hB
    obtain ⟨J, h0, h⟩ := h
    refine ⟨J, h0, fun js => ?_⟩
    have hA : ∀ {ks : List LK} {f g : List AV → Prop}, (∀ vs, f vs → g vs) → allL ks f → allL ks g := fun {ks} => by
      induction ks with
      | nil => intro f g hfg h; exact hfg _ h
      | cons k ks ih =>
        intro f g hfg h
        cases k with
        | any => exact fun v => ih (fun vs hvs => hfg _ hvs) (h v)
        | int k => exact fun v => ih (fun vs hvs => hfg _ hvs) (h v)
        | bool => exact fun v => ih (fun vs hvs => hfg _ hvs) (h v)
    refine hA (fun vs hvs n m hJ => ?_) (h js)
    refine wZ_agr hB.1 (hvs n m hJ) fun ex s hn ha hs => ?_
    cases ex with
    | normal => exact hs
    | _ =>
      refine hk _ s hn (fun i hi => ?_) hs
      have hi' : i ∉ sl.map (·.1) ++ junk := hi
      rw [ha i fun hm => hi' (memN_ok.1 (hB.2 i hm))]
      simp only [List.mem_append, not_or] at hi'
      show (setJ js junk (setS sl vs st.t)).get i = st.t.get i
      rw [setJ_get hi'.2, setS_get hi'.1]

theorem wZ_ok (ok : T.Ok) (hmix : T.P.follows .mixedOrders = true) {nt : Nat} : ∀ {an : An} {c : Code} {st : St} {Q : Ex → St → Prop}, anB T nt an c = true → nt ≤ st.n → wZ T an c st Q → WpA T.P c st Q
  | .z, c, st, Q, _, _, h => by
    cases c <;> simp only [wZ] at h
    case skip => exact wpa_skip h
    case label => exact wpa_label h
    case exit => exact wpa_exit h
    case ret => exact wpa_ret h
  | .reg ks, c, st, Q, hB, hn, h => by
    cases c <;> simp only [wZ] at h
    rename_i id ops d
    simp only [anB, List.all_eq_true, Nat.blt_eq] at hB
    cases d with
    | true => exact h.elim
    | false => exact wpa_region (zO_wpo ok hB hn h)
  | .opn steps rk ob n ks, c, st, Q, hB, hn, h => by
    cases c <;> simp only [wZ] at h
    rename_i id ops d
    simp only [anB, Bool.and_eq_true] at hB
    cases d with
    | true => exact wpa_y ok hmix nt hB.1 hn steps rk ob n hB.2.1 (sameSt_eq hB.2.2.1) (zY_wY h)
    | false => exact h.elim
  | .seq a b, c, st, Q, hB, hn, h => by
    cases c <;> simp only [wZ] at h
    rename_i x y
    simp only [anB, Bool.and_eq_true] at hB
    have h := wZ_agr hB.1 h (Q' := fun ex s => s.n = st.n ∧ andThen (fun s => wZ T b y s Q) Q ex s) fun ex s hn _ hs => ⟨hn, hs⟩
    refine wpa_seq (wpa_mono (wZ_ok ok hmix hB.1 hn h) fun ex s hs => ?_)
    cases ex with
    | normal => exact wZ_ok ok hmix hB.2 (by rw [hs.1]; exact hn) hs.2
    | _ => exact hs.2
  | .cnd a b, c, st, Q, hB, hn, h => by
    cases c <;> simp only [wZ] at h
    rename_i o x y
    simp only [anB, Bool.and_eq_true] at hB
    obtain ⟨v, hv, h⟩ := zB_elim h
    refine wpa_cond hv ?_
    cases v with
    | true => exact wZ_ok ok hmix hB.1 hn h
    | false => exact wZ_ok ok hmix hB.2 hn h
  | .blk a, c, st, Q, hB, hn, h => by
    cases c <;> simp only [wZ] at h
    rename_i id x
    simp only [anB] at hB
    exact wpa_block (wZ_ok ok hmix hB hn h)
  | .lop sl junk a, c, st, Q, hB, hn, h => by
    cases c <;> simp only [wZ] at h
    rename_i x
    simp only [anB, Bool.and_eq_true, List.all_eq_true] at hB
    obtain ⟨J, ⟨n0, h0⟩, h⟩ := h
    let I : Nat → St → Prop := fun n s => s.n = st.n ∧ (∀ i, i ∉ sl.map (·.1) ++ junk → (s.t.get i).getD undefA = (st.t.get i).getD undefA) ∧ apJ (sl.map (·.2)) J (slotsOf s.t sl) n s.m
    have key : ∀ n s, I n s → RdA T.P x Q (n + 1) s := by
      intro n
      induction n using Nat.strongRecOn with
      | _ n ih =>
        rintro ⟨sn, t, m⟩ ⟨h1, h2, h3⟩
        simp only at h1 h2 h3
        subst h1
        have hb := allL_elim (h fun j => t.get j) h3 n m h3
        have hsame : SameT (setJ (fun j => t.get j) junk (setS sl (slotsOf t sl) st.t)) t := fun i => by
          refine setJ_same (P := fun i => i ∈ sl.map (·.1) ++ junk ∧ i ∉ sl.map (·.1)) (fun i hi => setS_same (P := fun i => i ∈ sl.map (·.1) ++ junk) (fun j hj => (h2 j hj).symm) i hi) i fun hp => ?_
          simp only [List.mem_append] at hp
          rcases hp.1.1 with h | h
          · exact hp.1.2 h
          · exact hp.2 h
        show WpA T.P x ⟨st.n, t, m⟩ (andThen (RdA T.P x Q n) Q)
        refine wpa_same ?_ hsame
        have hb' := wZ_agr hB.1 hb (Q' := fun ex s => (s.n = st.n ∧ Agr (setJ (fun j => t.get j) junk (setS sl (slotsOf t sl) st.t)) s.t (asgOf a x)) ∧ (andThen (fun s => ∃ k, k < n ∧ apJ (sl.map (·.2)) J (slotsOf s.t sl) k s.m) Q) ex s)
          fun ex s hn ha hs => ⟨⟨hn, ha⟩, hs⟩
        refine wpa_mono (wZ_ok ok hmix hB.1 hn hb') fun ex s hs => ?_
        cases ex with
        | normal =>
          obtain ⟨⟨g1, g2⟩, k, hk, g3⟩ := hs
          have hI : I k s := ⟨g1, fun i hi => by
            have : i ∉ asgOf a x := fun hm => hi (memN_ok.1 (hB.2 i hm))
            rw [g2 i this]
            simp only [List.mem_append, not_or] at hi
            rw [setJ_get hi.2, setS_get hi.1], g3⟩
          exact (ih k hk s hI).mono (by omega)
        | _ => exact hs.2
    exact wpa_rounds (n0 + 1) (key n0 st ⟨rfl, fun _ _ => rfl, h0⟩)

/-- A function, by what is noted down of it. -/
theorem calla_wZ (ok : T.Ok) (hmix : T.P.follows .mixedOrders = true) {f : FuncId} {F : Func} {c : Code} {an : An} (hf : T.fn.get f = some F) (hb : F.body = some c) (hB : anB T F.ntmps an c = true) {ks : List CK} {args : List AV} {M : Mem} {Q : AV → Mem → Prop}
    (h : zCs ks args fun args => wZ T an c (enterA F args M) (retQ T F Q)) : CallA T.P f args M Q := by
  have h := zCs_elim h
  refine calla_body ok hf hb (wpa_mono (wZ_ok ok hmix hB (by simp only [enterA]; omega) h) ?_)
  intro ex st hq
  cases ex with
  | normal =>
    obtain ⟨x, hx, hq⟩ := bindO_elim hq
    exact ⟨.inl rfl, x, hx, hq⟩
  | ret =>
    obtain ⟨x, hx, hq⟩ := bindO_elim hq
    exact ⟨.inr rfl, x, hx, hq⟩
  | exit i => exact hq.elim
  | goto i => exact hq.elim

end

end Go.AM
