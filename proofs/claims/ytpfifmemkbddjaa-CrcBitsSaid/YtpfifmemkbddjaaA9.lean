/- The abstract machine, part 9: equality, maps. -/
import Derived.Test.YtpfifmemkbddjaaA8
set_option linter.unusedVariables false
set_option linter.unusedSimpArgs false
namespace Go.AM

def partA (f : Nat × Nat × Bool) (cs : List AV) : Option AV := cond f.2.2 (some (.agg ((cs.drop f.1).take f.2.1))) cs[f.1]?

def eqFs (eq : TypeId → AV → AV → Option Bool) : List (Nat × Nat × Bool) → List Nat → List AV → List AV → Option Bool
  | [], [], _, _ => some true
  | f :: fs, t :: ts, xs, ys =>
    match partA f xs, partA f ys with
    | some x, some y =>
      match eq t x y with
      | some true => eqFs eq fs ts xs ys
      | some false => some false
      | none => none
    | _, _ => none
  | _, _, _, _ => none

def kindBeq : IntKind → IntKind → Bool
  | .i8, .i8 | .i16, .i16 | .i32, .i32 | .i64, .i64 | .u8, .u8 | .u16, .u16 | .u32, .u32 | .u64, .u64 => true
  | _, _ => false

theorem kindBeq_eq {a b : IntKind} (h : kindBeq a b = true) : a = b := by cases a <;> cases b <;> first | rfl | (simp [kindBeq] at h)

def eqA (T : Tab) : Nat → TypeId → AV → AV → Option Bool
  | 0, _, _, _ => none
  | n + 1, t, x, y =>
    match T.ty.get t with
    | none => none
    | some ti =>
      match ti.k, x, y with
      | .int _, .val (.int a p), .val (.int b q) => cond (kindBeq a b) (some (p == q)) none
      | .str, .val (.string p), .val (.string q) => some (p == q)
      | .bool, .val (.bool p), .val (.bool q) => some (p == q)
      | .st fs, .agg xs, .agg ys =>
        match ti.eqf with
        | some tys => eqFs (eqA T n) fs tys xs ys
        | none => none
      | _, _, _ => none

theorem partA_ok {P : Program} {ι : Inj} {w : World} {fs : List Field} {l : List (Nat × Nat × Bool)} {f : Field} {e : Nat × Nat × Bool} (h : FieldsOk P (f :: fs) (e :: l)) {xs : List AV} {vs : Array Value}
    (hx : VRs ι xs vs.toList) {x : AV} (hp : partA e xs = some x) : ∃ v, (part f.type vs f.offset).run P w = .ok v w ∧ VR ι x v := by
  obtain ⟨off, s, ag⟩ := e
  obtain ⟨f', hf', ho, hsz, hag⟩ := FieldsOk.get h 0 off s ag (by simp)
  simp only [List.getElem?_cons_zero, Option.some.injEq] at hf'
  subst hf'
  unfold partA at hp
  cases ag with
  | true =>
    simp only [cond_true, Option.some.injEq] at hp
    subst hp
    refine ⟨.agg (vs.extract off (off + s)), by simp [part, hag, hsz, ho], .agg _ _ ?_⟩
    rw [extract_list, show off + s - off = s by omega]
    exact (hx.drop off).take s
  | false =>
    simp only [cond_false] at hp
    obtain ⟨v, hv, hvr⟩ := hx.get off x hp
    have hv' : vs[off]? = some v := by simpa using hv
    exact ⟨v, by simp [part, hag, ho, hv'], hvr⟩

theorem eqFs_ok {P : Program} {ι : Inj} {w : World} {eq : TypeId → AV → AV → Option Bool} {d : Nat}
    (heq : ∀ t x y v u r, eq t x y = some r → VR ι x v → VR ι y u → (Op.equalIn d t v u).run P w = .ok r w) :
    ∀ {fs : List Field} {l : List (Nat × Nat × Bool)} {tys : List Nat}, FieldsOk P fs l → fs.map (·.type) = tys → (∀ f ∈ fs, f.name ≠ "_") → ∀ {xs ys : List AV} {vs us : Array Value},
    VRs ι xs vs.toList → VRs ι ys us.toList → ∀ {r : Bool}, eqFs eq l tys xs ys = some r →
    (forIn fs ((none, ()) : Option Bool × Unit) fun f __s =>
              if f.name ≠ "_" then do
                let __do_lift ← part f.type vs f.offset
                let __do_lift_1 ← part f.type us f.offset
                let __do_lift ← Op.equalIn d f.type __do_lift __do_lift_1
                if (!__do_lift) = true then pure (ForInStep.done (some false, ()))
                  else pure (ForInStep.yield (none, ()))
              else pure (ForInStep.yield (none, ())) : Sem (Option Bool × Unit)).run P w = .ok (if r then (none, ()) else (some false, ())) w
  | [], [], _, _, rfl, _, xs, ys, vs, us, _, _, r, h => by
    simp only [List.map_nil, eqFs, Option.some.injEq] at h
    subst h
    simp
  | f :: fs, e :: l, _, hf, rfl, hn, xs, ys, vs, us, hx, hy, r, h => by
    simp only [List.map_cons, eqFs] at h
    split at h
    · rename_i x y hpx hpy
      obtain ⟨v, hv1, hv2⟩ := partA_ok (P := P) (w := w) hf hx hpx
      obtain ⟨u, hu1, hu2⟩ := partA_ok (P := P) (w := w) hf hy hpy
      have hnm : f.name ≠ "_" := hn f (by simp)
      split at h
      · rename_i he
        have := heq _ _ _ _ _ _ he hv2 hu2
        have ih := eqFs_ok heq (fs := fs) (l := l) hf.2.2.2 rfl (fun g hg => hn g (by simp [hg])) hx hy h
        rw [List.forIn_cons]
        simp only [hnm, ne_eq, not_false_eq_true, if_true, Sem.run_bind, hv1, hu1, this, Result.andThen_ok, Bool.not_true, Bool.false_eq_true, if_false, Sem.run_pure]
        exact ih
      · rename_i he
        have := heq _ _ _ _ _ _ he hv2 hu2
        injection h with h; subst h
        rw [List.forIn_cons]
        simp only [hnm, ne_eq, not_false_eq_true, if_true, Sem.run_bind, hv1, hu1, this, Result.andThen_ok, Bool.not_false, Sem.run_pure, Bool.false_eq_true, if_false]
      · simp at h
    · simp at h
  | [], _ :: _, _, h, _, _, _, _, _, _, _, _, _, _ => h.elim
  | _ :: _, [], _, h, _, _, _, _, _, _, _, _, _, _ => h.elim

theorem ty_eq {T : Tab} (ok : T.Ok) {t : TypeId} {ti : TI} (h : T.ty.get t = some ti) {l : List (Nat × Nat × Bool)} (hk : ti.k = .st l) {tys : List Nat} (he : ti.eqf = some tys) :
    ∃ fs : Array Field, T.P.underlying t = some (.struct fs) ∧ FieldsOk T.P fs.toList l ∧ fs.toList.map (·.type) = tys ∧ (∀ f ∈ fs.toList, f.name ≠ "_") ∧ T.P.stoodInHeld t = false ∧
      T.P.eqGuardType T.P.depth t = false := by
  obtain ⟨fs, h1, h2, h3, h4, h5⟩ := (ok.ty t ti h).2.2.2 tys he
  obtain ⟨d, hd, hdk⟩ := (ok.ty t ti h).2.2.1
  rw [h1] at hd; injection hd with hd; subst hd
  rw [hk] at hdk
  exact ⟨fs, h1, hdk, h2, h3, h4, h5⟩

theorem eqA_ok {T : Tab} (ok : T.Ok) {ι : Inj} {w : World} : ∀ (n d : Nat), n ≤ d → ∀ (t : TypeId) (x y : AV) (v u : Value) (r : Bool), eqA T n t x y = some r → VR ι x v → VR ι y u →
    (Op.equalIn d t v u).run T.P w = .ok r w
  | 0, _, _, t, x, y, v, u, r, h, _, _ => by simp [eqA] at h
  | n + 1, 0, hle, _, _, _, _, _, _, _, _, _ => absurd hle (by omega)
  | n + 1, d + 1, hle, t, x, y, v, u, r, h, hx, hy => by
    simp only [eqA] at h
    split at h
    · simp at h
    · rename_i ti ht
      split at h
      · rename_i k a p b q hk
        rw [cond_eq_ite] at h
        split at h
        · rename_i hab
          have := kindBeq_eq hab
          subst this
          injection h with h; subst h
          cases hx; cases hy
          simp [Op.equalIn, ty_int ok ht hk]
        · simp at h
      · rename_i p q hk
        injection h with h; subst h
        cases hx; cases hy
        simp [Op.equalIn, ty_str ok ht hk]
      · rename_i p q hk
        injection h with h; subst h
        cases hx; cases hy
        simp [Op.equalIn, ty_bool ok ht hk]
      · rename_i fs xs ys hk
        split at h
        · rename_i tys he
          cases hx with
          | agg _ vs hxs =>
            cases hy with
            | agg _ us hys =>
              obtain ⟨F, h1, h2, h3, h4, h5, _⟩ := ty_eq ok ht hk he
              have hloop := eqFs_ok (P := T.P) (w := w) (d := d) (fun t x y v u r => fun h1 h2 h3 => eqA_ok ok n d (by omega) t x y v u r h1 h2 h3) h2 h3 h4 hxs hys h
              simp only [Op.equalIn, Sem.run_bind, run_underlying h1, Result.andThen_ok, run_program, h5, Bool.false_eq_true, if_false]
              simp only [← Array.forIn_toList]
              rw [hloop]
              cases r <;> simp
        · simp at h
      · simp at h

/-- May it be a key? -/
def keyFs (ck : TypeId → AV → Bool) : List (Nat × Nat × Bool) → List Nat → List AV → Bool
  | [], [], _ => true
  | f :: fs, t :: ts, xs => match partA f xs with
    | some x => cond (ck t x) (keyFs ck fs ts xs) false
    | none => false
  | _, _, _ => false

def keyOk (T : Tab) : Nat → TypeId → AV → Bool
  | 0, _, _ => false
  | n + 1, t, x =>
    match T.ty.get t with
    | none => false
    | some ti =>
      match ti.k, x with
      | .int _, _ => true
      | .str, _ => true
      | .bool, _ => true
      | .st fs, .agg xs =>
        match ti.eqf with
        | some tys => keyFs (keyOk T n) fs tys xs
        | none => false
      | _, _ => false

theorem keyFs_ok {P : Program} {ι : Inj} {w : World} {ck : TypeId → AV → Bool} {d : Nat} {em : Bool}
    (hck : ∀ t x v, ck t x = true → VR ι x v → (Instr.checkKey em d t v).run P w = .ok () w) :
    ∀ {fs : List Field} {l : List (Nat × Nat × Bool)} {tys : List Nat}, FieldsOk P fs l → fs.map (·.type) = tys → ∀ {xs : List AV} {vs : Array Value},
    VRs ι xs vs.toList → keyFs ck l tys xs = true →
    (forIn fs PUnit.unit fun f __s =>
            if f.name ≠ "_" then do
              let __do_lift ← part f.type vs f.offset
              Instr.checkKey em d f.type __do_lift
              pure (ForInStep.yield PUnit.unit)
            else pure (ForInStep.yield PUnit.unit) : Sem PUnit).run P w = .ok PUnit.unit w
  | [], [], _, _, rfl, xs, vs, _, _ => by simp
  | f :: fs, e :: l, _, hf, rfl, xs, vs, hx, h => by
    simp only [List.map_cons, keyFs] at h
    split at h
    · rename_i x hpx
      rw [cond_eq_ite] at h
      split at h
      · rename_i hc
        obtain ⟨v, hv1, hv2⟩ := partA_ok (P := P) (w := w) hf hx hpx
        have := hck _ _ _ hc hv2
        have ih := keyFs_ok hck (fs := fs) (l := l) hf.2.2.2 rfl hx h
        rw [List.forIn_cons]
        by_cases hnm : f.name ≠ "_"
        · simp only [hnm, ne_eq, not_false_eq_true, if_true, Sem.run_bind, hv1, this, Result.andThen_ok, Sem.run_pure]
          exact ih
        · simp only [hnm, if_false, Sem.run_bind, Result.andThen_ok, Sem.run_pure]
          exact ih
      · simp at h
    · simp at h
  | [], _ :: _, _, h, _, _, _, _, _ => h.elim
  | _ :: _, [], _, h, _, _, _, _, _ => h.elim

theorem keyOk_ok {T : Tab} (ok : T.Ok) {ι : Inj} {w : World} {em : Bool} : ∀ (n d : Nat), n ≤ d → ∀ (t : TypeId) (x : AV) (v : Value), keyOk T n t x = true → VR ι x v →
    (Instr.checkKey em d t v).run T.P w = .ok () w
  | 0, _, _, t, x, v, h, _ => by simp [keyOk] at h
  | n + 1, 0, hle, _, _, _, _, _ => absurd hle (by omega)
  | n + 1, d + 1, hle, t, x, v, h, hx => by
    simp only [keyOk] at h
    split at h
    · simp at h
    · rename_i ti ht
      split at h
      · rename_i k hk
        simp only [Instr.checkKey, Sem.run_bind, ty_int ok ht hk, Result.andThen_ok]
        rfl
      · rename_i hk
        simp only [Instr.checkKey, Sem.run_bind, ty_str ok ht hk, Result.andThen_ok]
        rfl
      · rename_i hk
        simp only [Instr.checkKey, Sem.run_bind, ty_bool ok ht hk, Result.andThen_ok]
        rfl
      · rename_i fs xs hk
        split at h
        · rename_i tys he
          cases hx with
          | agg _ vs hxs =>
            obtain ⟨F, h1, h2, h3, h4, h5, _⟩ := ty_eq ok ht hk he
            have hloop := keyFs_ok (P := T.P) (w := w) (d := d) (em := em) (fun t x v h1 h2 => keyOk_ok ok n d (by omega) t x v h1 h2) h2 h3 hxs h
            simp only [Instr.checkKey, Sem.run_bind, run_underlying h1, Result.andThen_ok]
            simp only [← Array.forIn_toList]
            rw [hloop]
            rfl
        · simp at h
      · simp at h

def findA (T : Tab) (kt : TypeId) (k : AV) : List (AV × AV) → Nat → Option (Option (Nat × AV × AV))
  | [], _ => some none
  | (k', v) :: es, i =>
    match eqA T 60 kt k k' with
    | some true => some (some (i, k', v))
    | some false => findA T kt k es (i + 1)
    | none => none

inductive FR (ι : Inj) (ms : List MapEntry) (o : Nat) : Option (Nat × AV × AV) → Option (Nat × Value) → Prop
  | none : FR ι ms o none none
  | some (i j : Nat) (k v : AV) (m : MapEntry) (hj : j = o + i) (hm : ms[i]? = some m) (hk : VR ι k m.key) (hv : VR ι v m.val) : FR ι ms o (some (j, k, v)) (some (j, m.val))

theorem findA_ask {T : Tab} (ok : T.Ok) {ι : Inj} {w : World} {kt : TypeId} {k : AV} {kv : Value} (hk : VR ι k kv) : ∀ {es : List (AV × AV)} {ms : List MapEntry}, EntR ι es ms → ∀ (o : Nat) (r : Option (Nat × AV × AV)),
    findA T kt k es o = some r → ∃ s, (Instr.findAsking kt kv ms o).run T.P w = .ok s w ∧ FR ι ms o r s
  | _, _, .nil, o, r, h => by
    simp only [findA, Option.some.injEq] at h
    subst h
    exact ⟨none, rfl, .none⟩
  | _, _, .cons k' x m es ms hk' hx hs, o, r, h => by
    simp only [findA] at h
    split at h
    · rename_i he
      injection h with h; subst h
      have := eqA_ok ok 60 Op.maxDepth (by decide) kt k k' kv m.key true he hk hk' (w := w)
      refine ⟨some (o, m.val), ?_, .some 0 o k' x m rfl rfl hk' hx⟩
      simp [Instr.findAsking, Op.equal, this]
    · rename_i he
      have := eqA_ok ok 60 Op.maxDepth (by decide) kt k k' kv m.key false he hk hk' (w := w)
      obtain ⟨s, h1, h2⟩ := findA_ask ok hk hs (o + 1) r h (w := w)
      refine ⟨s, ?_, ?_⟩
      · simp [Instr.findAsking, Op.equal, this, h1]
      · cases h2 with
        | none => exact .none
        | some i j k v m' hj hm hk hv => exact .some (i + 1) j k v m' (by omega) (by simpa using hm) hk hv
    · simp at h

/-- findNow of a scalar kind goes as the asking does. -/
theorem findA_now {T : Tab} (ok : T.Ok) {ι : Inj} {w : World} {kt : TypeId} {ti : TI} (ht : T.ty.get kt = some ti) {d : TypeDesc} (hd : (underlying kt).run T.P w = .ok d w) {k : AV} {kv : Value} (hk : VR ι k kv) :
    ∀ {es : List (AV × AV)} {ms : List MapEntry}, EntR ι es ms → ∀ (o : Nat) (r : Option (Nat × AV × AV)), findA T kt k es o = some r →
      (∃ s, Instr.findNow d kv ms o = some s ∧ FR ι ms o r s) ∨ Instr.findNow d kv ms o = none
  | _, _, .nil, o, r, h => by
    simp only [findA, Option.some.injEq] at h
    subst h
    exact .inl ⟨none, rfl, .none⟩
  | _, _, .cons k' x m es ms hk' hx hs, o, r, h => by
    simp only [findA] at h
    simp only [Instr.findNow]
    cases hsn : Instr.sameNow d kv m.key with
    | none => exact .inr rfl
    | some b =>
      have hsame : ∀ b', eqA T 60 kt k k' = some b' → b = b' := fun b' he => by
        have := eqA_ok ok 60 Op.maxDepth (by decide) kt k k' kv m.key b' he hk hk' (w := w)
        have h2 : ∀ D, (Op.equalIn (D + 1) kt kv m.key).run T.P w = .ok b w := fun D => by
          have hsn' := hsn
          generalize hmk : m.key = mk at hsn'
          unfold Instr.sameNow at hsn'
          split at hsn'
          · split at hsn'
            · rename_i hkk
              injection hsn' with hsn'; subst hsn'
              simp [Op.equalIn, hd, hkk]
            · simp at hsn'
          · injection hsn' with hsn'; subst hsn'
            simp [Op.equalIn, hd]
          · injection hsn' with hsn'; subst hsn'
            simp [Op.equalIn, hd]
          · simp at hsn'
        have h3 := h2 9999
        rw [show Op.maxDepth = 9999 + 1 from rfl, h3] at this
        injection this
      split at h
      · rename_i he
        have := hsame _ he; subst this
        injection h with h; subst h
        exact .inl ⟨some (o, m.val), rfl, .some 0 o k' x m rfl rfl hk' hx⟩
      · rename_i he
        have := hsame _ he; subst this
        rcases findA_now ok ht hd hk hs (o + 1) r h with ⟨s, h1, h2⟩ | h1
        · refine .inl ⟨s, h1, ?_⟩
          cases h2 with
          | none => exact .none
          | some i j k v m' hj hm hk hv => exact .some (i + 1) j k v m' (by omega) (by simpa using hm) hk hv
        · exact .inr h1
      · simp at h

theorem findA_ok {T : Tab} (ok : T.Ok) {ι : Inj} {w : World} {kt : TypeId} {ti : TI} (ht : T.ty.get kt = some ti) {k : AV} {kv : Value} (hk : VR ι k kv) {es : List (AV × AV)} {ms : List MapEntry} (he : EntR ι es ms)
    {r : Option (Nat × AV × AV)} (h : findA T kt k es 0 = some r) : ∃ s, (Instr.findKey kt kv ms).run T.P w = .ok s w ∧ FR ι ms 0 r s := by
  obtain ⟨d, _, hd, _⟩ := ty_under ok ht (w := w)
  rcases findA_now ok ht hd hk he 0 r h with ⟨s, h1, h2⟩ | h1
  · exact ⟨s, by simp [Instr.findKey, hd, h1], h2⟩
  · obtain ⟨s, h2, h3⟩ := findA_ask ok hk he 0 r h (w := w)
    exact ⟨s, by simp [Instr.findKey, hd, h1, h2], h3⟩

end Go.AM
