/- The abstract machine, part 12: one operation. -/
import Derived.Test.YtpfifmemkbddjaaA11
set_option linter.unusedVariables false
set_option linter.unusedSimpArgs false
namespace Go.AM

theorem eqRes_ok {P : Program} {ι : Inj} {M : Mem} {w : World} (R : Rel ι M w) {op : BinOp} {r : Option Bool} {x : AV} (h : eqRes op r = some x) {t : TypeId} {v u : Value}
    (hb : ∀ b, r = some b → (Op.equal t v u).run P w = .ok b w)
    (h1 : ∀ op', (op' = .eql ∨ op' = .neq) → binOp op' t v u = (if op' = .eql then (do pure (.bool (← Op.equal t v u))) else (do pure (.bool (!(← Op.equal t v u)))))) :
    VS P ι M w (binOp op t v u) x M := by
  unfold eqRes at h
  split at h
  · obtain ⟨b, rfl, rfl⟩ := Option.map_eq_some_iff.1 h
    refine ⟨ι, w, .bool b, ?_, .val _ rfl, Stp.refl R⟩
    rw [h1 .eql (.inl rfl)]
    simp [hb b rfl]
  · obtain ⟨b, rfl, rfl⟩ := Option.map_eq_some_iff.1 h
    refine ⟨ι, w, .bool (!b), ?_, .val _ rfl, Stp.refl R⟩
    rw [h1 .neq (.inr rfl)]
    simp [hb b rfl]
  · simp at h

theorem eqRes_op {op : BinOp} {r : Option Bool} {x : AV} (h : eqRes op r = some x) : op = .eql ∨ op = .neq := by
  unfold eqRes at h
  split at h
  · exact .inl rfl
  · exact .inr rfl
  · simp at h

theorem evBin_ok {T : Tab} (ok : T.Ok) {op : BinOp} {t : TypeId} {xo yo : Operand} {ι : Inj} {M : Mem} {w : World} {x y z : AV} {v u : Value} (R : Rel ι M w) (hx : VR ι x v) (hy : VR ι y u)
    (h : evBin T op t xo yo x y = some z) : VS T.P ι M w (do eqGuard op t xo yo v u; binOp op t v u) z M := by
  have pre : ∀ {v u : Value} {z : AV}, (eqGuard op t xo yo v u).run T.P w = .ok () w → VS T.P ι M w (binOp op t v u) z M → VS T.P ι M w (do eqGuard op t xo yo v u; binOp op t v u) z M := by
    intro v u z hg ⟨ι', w', r, h1, h2, h3⟩
    exact ⟨ι', w', r, by simp only [Sem.run_bind, hg, Result.andThen_ok, h1], h2, h3⟩
  have gd : ∀ {v u : Value}, (∀ a b, v = .agg a → u = .agg b → False) → (v = .nilIface → u = .nilIface → False) → (eqGuard op t xo yo v u).run T.P w = .ok () w := by
    intro v u h1 h2
    unfold eqGuard
    cases op <;> first
      | rfl
      | (cases v <;> first
          | rfl
          | (cases u <;> first | rfl | exact (h1 _ _ rfl rfl).elim | exact (h2 rfl rfl).elim))
  unfold evBin at h
  split at h
  · rename_i k a k' b
    cases hx; cases hy
    refine pre (gd (fun _ _ h => by cases h) (fun h => by cases h)) ?_
    split at h
    · obtain ⟨r, hr, rfl⟩ := Option.map_eq_some_iff.1 h
      obtain ⟨h1, h2⟩ := shiftBin_ok hr t T.P w (k' := k')
      exact ⟨ι, w, r, h1, .val _ h2, Stp.refl R⟩
    · obtain ⟨r, hr, rfl⟩ := Option.map_eq_some_iff.1 h
      obtain ⟨h1, h2⟩ := shiftBin_ok hr t T.P w (k' := k')
      exact ⟨ι, w, r, h1, .val _ h2, Stp.refl R⟩
    · rw [cond_eq_ite] at h
      split at h
      · rename_i hk
        have := kindBeq_eq hk
        subst this
        obtain ⟨r, hr, rfl⟩ := Option.map_eq_some_iff.1 h
        obtain ⟨h1, h2⟩ := intBin_ok hr t T.P w
        exact ⟨ι, w, r, h1, .val _ h2, Stp.refl R⟩
      · simp at h
  · rename_i a b
    cases hx; cases hy
    refine pre (gd (fun _ _ h => by cases h) (fun h => by cases h)) ?_
    obtain ⟨r, hr, rfl⟩ := Option.map_eq_some_iff.1 h
    obtain ⟨h1, h2⟩ := strBin_ok hr t T.P w
    exact ⟨ι, w, r, h1, .val _ h2, Stp.refl R⟩
  · rename_i xs ys
    split at h
    · rename_i ti ht
      split at h
      · rename_i tys he
        have hop := eqRes_op h
        have hx' := hx
        have hy' := hy
        cases hx with
        | agg _ vs hxs =>
          cases hy with
          | agg _ us hys =>
            have heqt : T.P.eqGuardType T.P.depth t = false := by
              obtain ⟨fs, _, _, _, _, h5⟩ := (ok.ty t ti ht).2.2.2 tys he
              exact h5
            refine pre ?_ (eqRes_ok R h (fun b hb => eqA_ok ok 60 Op.maxDepth (by decide) t _ _ _ _ b hb hx' hy') ?_)
            · rcases hop with rfl | rfl <;> simp [eqGuard, heqt]
            · rintro op' (rfl | rfl) <;> simp [binOp]
      · simp at h
    · simp at h
  · rename_i hnn hns hna
    rw [cond_eq_ite] at h
    split at h
    · rename_i hadr
      have hop := eqRes_op h
      have hkind : (∀ a b, v = .agg a → u = .agg b → False) ∧ (v = .nilIface → u = .nilIface → False) ∧
          ∀ op', (op' = .eql ∨ op' = .neq) → binOp op' t v u = (if op' = .eql then (do pure (.bool (← Op.equal t v u))) else (do pure (.bool (!(← Op.equal t v u))))) := by
        unfold eqRes at h
        have hae : ∃ b, addrEq T t x y = some b := by
          split at h
          · obtain ⟨b, hb, _⟩ := Option.map_eq_some_iff.1 h; exact ⟨b, hb⟩
          · obtain ⟨b, hb, _⟩ := Option.map_eq_some_iff.1 h; exact ⟨b, hb⟩
          · simp at h
        obtain ⟨b, hb⟩ := hae
        unfold addrEq at hb
        split at hb
        · simp at hb
        · split at hb
          all_goals first
            | (simp at hb; done)
            | (cases hx <;> cases hy <;> refine ⟨(fun _ _ h => by cases h), (fun h => by cases h), ?_⟩ <;> rintro op' (rfl | rfl) <;> rfl)
      exact pre (gd hkind.1 hkind.2.1) (eqRes_ok R h (fun b hb => addrEq_ok ok hx hy hb) hkind.2.2)
    · split at h
      · rename_i a b _ _ _ _
        cases hx; cases hy
        obtain ⟨r, hr, rfl⟩ := Option.map_eq_some_iff.1 h
        exact ⟨ι, w, r, peek_run T.P _ _ hr w, VR.ofV ι r, Stp.refl R⟩
      · simp at h

/-! ## Builtins -/

def evLenCap (T : Tab) (isCap : Bool) (t : TypeId) (x : AV) (M : Mem) : Option Nat :=
  match T.ty.get t with
  | none => none
  | some ti =>
    match ti.k, x with
    | .sli _, .sl _ _ n c ex => cond isCap (match ex with | none => some c | some _ => none) (some n)
    | .sli _, .val (.slice none n c) => some (cond isCap c n)
    | .str, .val (.string s) => cond isCap none (some s.data.toList.length)
    | .ar n _, _ => some n
    | .pt a, .ptr _ _ =>
      match T.ty.get a with
      | some ta => match ta.k with
        | .ar n _ => some n
        | _ => none
      | none => none
    | .mp _ _, m => cond isCap none ((entsOf M m).map List.length)
    | _, _ => none

theorem evLen2_ok {T : Tab} (ok : T.Ok) {t : TypeId} {ts : Array TypeId} {args : Array Value} {ty : TypeId} (h0 : ts[0]? = some t) {xv : Value} (ha0 : args[0]? = some xv)
    {ι : Inj} {M : Mem} {w : World} {x : AV} {n : Nat} (R : Rel ι M w) (hx : VR ι x xv) (h : evLenCap T false t x M = some n) : (Builtin.len_ ts ty args).run T.P w = .ok (goInt n) w := by
  unfold evLenCap at h
  split at h
  · simp at h
  · rename_i ti ht
    split at h
    · rename_i e b o n' c ex hk
      simp only [cond_false, Option.some.injEq] at h
      subst h
      obtain ⟨a, c', rfl⟩ := slice_val hx
      simp [Builtin.len_, h0, ha0, ty_sli ok ht hk]
    · rename_i e n' c hk
      simp only [cond_false, Option.some.injEq] at h
      subst h
      cases hx
      simp [Builtin.len_, h0, ha0, ty_sli ok ht hk]
    · rename_i s hk
      simp only [cond_false, Option.some.injEq] at h
      subst h
      cases hx
      have h1 : s.data.toList.length = s.size := by rw [Array.length_toList]; rfl
      rw [h1]
      simp [Builtin.len_, h0, ha0, ty_str ok ht hk]
    · rename_i n' e hk
      simp only [Option.some.injEq] at h
      subst h
      simp [Builtin.len_, h0, ha0, ty_ar ok ht hk]
    · rename_i a b o hk
      split at h
      · rename_i ta hta
        split at h
        · rename_i n' e hka
          simp only [Option.some.injEq] at h
          subst h
          simp [Builtin.len_, h0, ha0, ty_pt ok ht hk, ty_ar ok hta hka]
        · simp at h
      · simp at h
    · rename_i kt vt hk
      simp only [cond_false] at h
      obtain ⟨es, hes, rfl⟩ := Option.map_eq_some_iff.1 h
      obtain ⟨ms, he, hcase⟩ := entsOf_ok (P := T.P) R hx hes
      have hlen := he.length
      rcases hcase with ⟨rfl, rfl⟩ | ⟨b, l, clock, _, hl, hg, rfl, hb, hr⟩
      · simp [Builtin.len_, h0, ha0, ty_mp ok ht hk, hlen]
      · simp [Builtin.len_, h0, ha0, ty_mp ok ht hk, hr, hlen]
    · simp at h

theorem evCap2_ok {T : Tab} (ok : T.Ok) {t : TypeId} {ts : Array TypeId} {args : Array Value} {ty : TypeId} (h0 : ts[0]? = some t) {xv : Value} (ha0 : args[0]? = some xv)
    {ι : Inj} {M : Mem} {w : World} {x : AV} {n : Nat} (hx : VR ι x xv) (h : evLenCap T true t x M = some n) : (Builtin.cap_ ts ty args).run T.P w = .ok (goInt n) w := by
  unfold evLenCap at h
  split at h
  · simp at h
  · rename_i ti ht
    split at h
    · rename_i e b o n' c ex hk
      simp only [cond_true] at h
      split at h
      · injection h with h; subst h
        cases hx
        simp [Builtin.cap_, h0, ha0, ty_sli ok ht hk]
      · simp at h
    · rename_i e n' c hk
      simp only [cond_true, Option.some.injEq] at h
      subst h
      cases hx
      simp [Builtin.cap_, h0, ha0, ty_sli ok ht hk]
    · simp at h
    · rename_i n' e hk
      simp only [Option.some.injEq] at h
      subst h
      simp [Builtin.cap_, h0, ha0, ty_ar ok ht hk]
    · rename_i a b o hk
      split at h
      · rename_i ta hta
        split at h
        · rename_i n' e hka
          simp only [Option.some.injEq] at h
          subst h
          simp [Builtin.cap_, h0, ha0, ty_pt ok ht hk, ty_ar ok hta hka]
        · simp at h
      · simp at h
    · simp at h
    · simp at h

end Go.AM
