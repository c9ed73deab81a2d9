/- The abstract machine, part 10: what is done to maps; conversions; operators. -/
import Derived.Test.YtpfifmemkbddjaaA9
set_option linter.unusedVariables false
set_option linter.unusedSimpArgs false
namespace Go.AM

/-- The zero value of a type. -/
def TI.zA (ti : TI) : AV := ofV ti.zv

def entsOf (M : Mem) (m : AV) : Option (List (AV × AV)) :=
  match m with
  | .val (.map none) => some []
  | .map b => match M.get b with
    | some (.map es) => some es
    | _ => none
  | _ => none

def evLookup (T : Tab) (t : TypeId) (m k : AV) (ok : Bool) (M : Mem) : Option AV :=
  match T.ty.get t with
  | none => none
  | some ti =>
    match ti.k with
    | .mp kt vt =>
      match T.ty.get kt, T.ty.get vt, entsOf M m with
      | some _, some tv, some es =>
        cond (keyOk T 60 kt k)
          (match findA T kt k es 0 with
          | none => none
          | some none => some (cond ok (.tup [tv.zA, .val (.bool false)]) tv.zA)
          | some (some (_, _, v)) => some (cond ok (.tup [v, .val (.bool true)]) v)) none
      | _, _, _ => none
    | _ => none

theorem entsOf_ok {P : Program} {ι : Inj} {M : Mem} {w : World} (R : Rel ι M w) {m : AV} {mv : Value} (hm : VR ι m mv) {es : List (AV × AV)} (h : entsOf M m = some es) :
    ∃ ms : Array MapEntry, EntR ι es ms.toList ∧ ((mv = .map none ∧ ms = #[]) ∨ ∃ b l clock, m = .map b ∧ ι b = some l ∧ M.get b = some (.map es) ∧ mv = .map (some l.blk) ∧ w.heap[l.blk]? = some (.map ms clock) ∧
      (getObj l.blk).run P w = .ok (.map ms clock) w) := by
  unfold entsOf at h
  split at h
  · injection h with h; subst h
    cases hm
    exact ⟨#[], .nil, .inl ⟨rfl, rfl⟩⟩
  · rename_i b
    split at h
    · rename_i es' hg
      injection h with h; subst h
      cases hm with
      | map _ l hl =>
        obtain ⟨ms, clock, hk, he⟩ := R.obj hg hl
        exact ⟨ms, he, .inr ⟨b, l, clock, rfl, hl, hg, rfl, hk, run_getObj_map hk⟩⟩
    · simp at h
  · simp at h

theorem evLookup_ok {T : Tab} (ok : T.Ok) {t : TypeId} {ι : Inj} {M : Mem} {w : World} {m k x : AV} {mv kv : Value} {c : Bool} (R : Rel ι M w) (hm : VR ι m mv) (hk : VR ι k kv)
    (h : evLookup T t m k c M = some x) : VS T.P ι M w (Instr.lookup t mv kv c) x M := by
  unfold evLookup at h
  split at h
  · simp at h
  · rename_i ti ht
    split at h
    · rename_i kt vt hti
      split at h
      · rename_i tk tv es htk htv hes
        rw [cond_eq_ite] at h
        split at h
        · rename_i hkey
          obtain ⟨ms, he, hcase⟩ := entsOf_ok (P := T.P) R hm hes
          have hck := fun em => keyOk_ok ok (em := em) 60 10000 (by decide) kt k kv hkey hk (w := w)
          have hget : (match mv with
              | .map none => (Pure.pure #[] : Sem (Array MapEntry))
              | .map (some r) => do
                let .map es _ ← getObj r | stuck "Lookup: map expected"
                pure es
              | _ => stuck "Lookup: map expected").run T.P w = .ok ms w := by
            rcases hcase with ⟨rfl, rfl⟩ | ⟨b, l, clock, rfl, hl, hg, rfl, hb, hr⟩
            · rfl
            · simp only [Sem.run_bind, hr, Result.andThen_ok, Sem.run_pure]
          split at h
          · simp at h
          · rename_i hf
            injection h with h; subst h
            obtain ⟨s, hs1, hs2⟩ := findA_ok ok htk hk he hf (w := w)
            cases hs2
            have hz := ty_zv ok htv (w := w)
            cases c with
            | true =>
              refine ⟨ι, w, .tuple #[tv.zv, .bool false], ?_, .tup _ _ (.cons _ _ _ _ (VR.ofV ι _) (.cons _ _ _ _ (.val _ rfl) .nil)), Stp.refl R⟩
              rcases hcase with ⟨rfl, rfl⟩ | ⟨b, l, clock, rfl, hl, hg, rfl, hb, hr⟩
              · simp only [Instr.lookup, Sem.run_bind, ty_mp ok ht hti, Result.andThen_ok, Sem.run_pure, hck, hs1, hz]
                rfl
              · simp only [Instr.lookup, Sem.run_bind, ty_mp ok ht hti, Result.andThen_ok, hr, Sem.run_pure, hck, hs1, hz]
                rfl
            | false =>
              refine ⟨ι, w, tv.zv, ?_, VR.ofV ι _, Stp.refl R⟩
              rcases hcase with ⟨rfl, rfl⟩ | ⟨b, l, clock, rfl, hl, hg, rfl, hb, hr⟩
              · simp only [Instr.lookup, Sem.run_bind, ty_mp ok ht hti, Result.andThen_ok, Sem.run_pure, hck, hs1, hz]
                rfl
              · simp only [Instr.lookup, Sem.run_bind, ty_mp ok ht hti, Result.andThen_ok, hr, Sem.run_pure, hck, hs1, hz]
                rfl
          · rename_i i k' v hf
            injection h with h; subst h
            obtain ⟨s, hs1, hs2⟩ := findA_ok ok htk hk he hf (w := w)
            cases hs2 with
            | some i _ _ _ e hj' hm' hk' hv' =>
            cases c with
            | true =>
              refine ⟨ι, w, .tuple #[e.val, .bool true], ?_, .tup _ _ (.cons _ _ _ _ hv' (.cons _ _ _ _ (.val _ rfl) .nil)), Stp.refl R⟩
              rcases hcase with ⟨rfl, rfl⟩ | ⟨b, l, clock, rfl, hl, hg, rfl, hb, hr⟩
              · simp only [Instr.lookup, Sem.run_bind, ty_mp ok ht hti, Result.andThen_ok, Sem.run_pure, hck, hs1]
                rfl
              · simp only [Instr.lookup, Sem.run_bind, ty_mp ok ht hti, Result.andThen_ok, hr, Sem.run_pure, hck, hs1]
                rfl
            | false =>
              refine ⟨ι, w, e.val, ?_, hv', Stp.refl R⟩
              rcases hcase with ⟨rfl, rfl⟩ | ⟨b, l, clock, rfl, hl, hg, rfl, hb, hr⟩
              · simp only [Instr.lookup, Sem.run_bind, ty_mp ok ht hti, Result.andThen_ok, Sem.run_pure, hck, hs1]
                rfl
              · simp only [Instr.lookup, Sem.run_bind, ty_mp ok ht hti, Result.andThen_ok, hr, Sem.run_pure, hck, hs1]
                rfl
        · simp at h
      · simp at h
    · simp at h

/-- Are two keys the same, bit by bit? -/
def sameScalar : Value → Value → Bool
  | .bool a, .bool b => a == b
  | .int j a, .int k b => j == k && a == b
  | .string a, .string b => a == b
  | _, _ => false

def sameVals : List Value → List Value → Bool
  | [], [] => true
  | x :: xs, y :: ys => cond (sameScalar x y) (sameVals xs ys) false
  | _, _ => false

def sameV : Value → Value → Bool
  | .agg ⟨xs⟩, .agg ⟨ys⟩ => sameVals xs ys
  | x, y => sameScalar x y

theorem sameScalar_bits {x y : Value} (h : sameScalar x y = true) (n : Nat) : Instr.sameBits n x y = true := by
  unfold sameScalar at h
  split at h <;> first | (simp at h; done) | (unfold Instr.sameBits; exact h)

theorem sameVals_bits (n : Nat) : ∀ {xs ys : List Value}, sameVals xs ys = true → xs.length = ys.length ∧ ((xs.zip ys).all fun (x, y) => Instr.sameBits n x y) = true
  | [], [], _ => ⟨rfl, rfl⟩
  | x :: xs, y :: ys, h => by
    simp only [sameVals, cond_eq_ite] at h
    split at h
    · rename_i h1
      obtain ⟨h2, h3⟩ := sameVals_bits n h
      exact ⟨by simp [h2], by simp [sameScalar_bits h1 n]; simpa using h3⟩
    · simp at h
  | [], _ :: _, h => by simp [sameVals] at h
  | _ :: _, [], h => by simp [sameVals] at h

theorem sameV_bits {x y : Value} (h : sameV x y = true) (n : Nat) : Instr.sameBits (n + 1) x y = true := by
  unfold sameV at h
  split at h
  · rename_i xs ys
    obtain ⟨h2, h3⟩ := sameVals_bits n h
    simp only [Instr.sameBits, List.size_toArray, h2, h3, beq_self_eq_true, Bool.and_self]
  · exact sameScalar_bits h _

def evMapUpdate (T : Tab) (t : TypeId) (m k v : AV) (M : Mem) : Option Mem :=
  match T.ty.get t with
  | none => none
  | some ti =>
    match ti.k, m with
    | .mp kt _, .map b =>
      match T.ty.get kt, M.get b with
      | some _, some (.map es) =>
        cond (keyOk T 60 kt k)
          (match findA T kt k es 0 with
          | none => none
          | some none => some (M.put b (.map (es ++ [(k, v)])))
          | some (some (i, k', _)) =>
            match k.flat, k'.flat with
            | some a, some c => cond (sameV c a) (some (M.put b (.map (es.set i (k, v))))) none
            | _, _ => none) none
      | _, _ => none
    | _, _ => none

theorem EntR.append {ι : Inj} : ∀ {es : List (AV × AV)} {ms : List MapEntry} {es' : List (AV × AV)} {ms' : List MapEntry}, EntR ι es ms → EntR ι es' ms' → EntR ι (es ++ es') (ms ++ ms')
  | _, _, _, _, .nil, h => h
  | _, _, _, _, .cons k x m es ms hk hv hs, h => .cons k x m _ _ hk hv (EntR.append hs h)

theorem EntR.set {ι : Inj} : ∀ {es : List (AV × AV)} {ms : List MapEntry}, EntR ι es ms → ∀ (i : Nat) {k x : AV} {m : MapEntry}, VR ι k m.key → VR ι x m.val → EntR ι (es.set i (k, x)) (ms.set i m)
  | _, _, .nil, i, k, x, m, _, _ => by simpa using EntR.nil
  | _, _, .cons k' x' m' es ms hk' hv' hs, 0, k, x, m, hk, hv => .cons _ _ _ _ _ hk hv hs
  | _, _, .cons k' x' m' es ms hk' hv' hs, i + 1, k, x, m, hk, hv => .cons _ _ _ _ _ hk' hv' (EntR.set hs i hk hv)

theorem EntR.erase {ι : Inj} : ∀ {es : List (AV × AV)} {ms : List MapEntry}, EntR ι es ms → ∀ (i : Nat), EntR ι (es.eraseIdx i) (ms.eraseIdx i)
  | _, _, .nil, i => by simpa using EntR.nil
  | _, _, .cons k' x' m' es ms hk' hv' hs, 0 => hs
  | _, _, .cons k' x' m' es ms hk' hv' hs, i + 1 => .cons _ _ _ _ _ hk' hv' (EntR.erase hs i)

theorem evMapUpdate_ok {T : Tab} (ok : T.Ok) {t : TypeId} {ι : Inj} {M M' : Mem} {w : World} {m k v : AV} {mv kv vv : Value} (R : Rel ι M w) (hm : VR ι m mv) (hk : VR ι k kv) (hv : VR ι v vv)
    (h : evMapUpdate T t m k v M = some M') : ∃ w', (Instr.mapUpdate t mv kv vv).run T.P w = .ok () w' ∧ Stp ι M w ι M' w' := by
  unfold evMapUpdate at h
  split at h
  · simp at h
  · rename_i ti ht
    split at h
    · rename_i kt vt b hti
      split at h
      · rename_i tk es htk hg
        rw [cond_eq_ite] at h
        split at h
        · rename_i hkey
          cases hm with
          | map _ l hl =>
            obtain ⟨ms, clock, hob, he⟩ := R.obj hg hl
            have hck := keyOk_ok ok (em := false) 60 10000 (by decide) kt k kv hkey hk (w := w)
            have hgo := run_getObj_map (P := T.P) hob
            split at h
            · simp at h
            · rename_i hf
              injection h with h; subst h
              obtain ⟨s, hs1, hs2⟩ := findA_ok ok htk hk he hf (w := w)
              cases hs2
              refine ⟨_, ?_, Stp.setMap R hg hl hob (ms' := ms.push { key := kv, val := vv, born := clock }) (c' := clock + 1) ?_⟩
              · simp only [Instr.mapUpdate, Sem.run_bind, ty_mp ok ht hti, Result.andThen_ok, hgo, hck, hs1, run_setObj_map hob]
              · rw [Array.toList_push]
                exact he.append (.cons _ _ _ _ _ hk hv .nil)
            · rename_i i k' v' hf
              split at h
              · rename_i a c ha hc
                rw [cond_eq_ite] at h
                split at h
                · rename_i hsame
                  injection h with h; subst h
                  obtain ⟨s, hs1, hs2⟩ := findA_ok ok htk hk he hf (w := w)
                  cases hs2 with
                  | some i2 _ _ _ e hj' hm' hk' hv' =>
                    have hij : i = i2 := by omega
                    subst hij
                    have e1 := flat_eq hk ha
                    have e2 := flat_eq hk' hc
                    subst e1
                    subst e2
                    have hem : ms[i]? = some e := by simpa using hm'
                    have hbits := sameV_bits hsame 9999
                    refine ⟨_, ?_, Stp.setMap R hg hl hob (ms' := ms.modify i fun e => { e with key := kv, val := vv }) (c' := clock) ?_⟩
                    · simp only [Instr.mapUpdate, Sem.run_bind, ty_mp ok ht hti, Result.andThen_ok, hgo, hck, hs1, hem, Option.map_some, Option.getD_some, Instr.keyThatStays]
                      rw [if_pos hbits]
                      simp only [Sem.run_pure, Result.andThen_ok, run_setObj_map hob]
                    · have hlist : (ms.modify i fun e => { e with key := kv, val := vv }).toList = ms.toList.set i { e with key := kv, val := vv } := by
                        apply List.ext_getElem?
                        intro j
                        simp only [Array.getElem?_toList, Array.getElem?_modify, List.getElem?_set]
                        by_cases hji : i = j
                        · subst hji
                          have hlt : i < ms.size := by
                            rcases Nat.lt_or_ge i ms.size with h' | h'
                            · exact h'
                            · rw [Array.getElem?_eq_none h'] at hem; simp at hem
                          have hmi : ms[i] = e := by
                            have := Array.getElem?_eq_getElem hlt
                            rw [hem] at this
                            injection this with this
                            exact this.symm
                          simp [hlt, hmi]
                        · simp [hji]
                      rw [hlist]
                      exact he.set i hk hv
                · simp at h
              · simp at h
        · simp at h
      · simp at h
    · simp at h

def evDelete (T : Tab) (t : TypeId) (m k : AV) (M : Mem) : Option Mem :=
  match T.ty.get t with
  | none => none
  | some ti =>
    match ti.k, m with
    | .mp kt _, .map b =>
      match T.ty.get kt, M.get b with
      | some _, some (.map es) =>
        cond (keyOk T 60 kt k)
          (match findA T kt k es 0 with
          | none => none
          | some none => some (M.put b (.map es))
          | some (some (i, _, _)) => some (M.put b (.map (es.eraseIdx i)))) none
      | _, _ => none
    | .mp kt _, .val (.map none) => cond (keyOk T 60 kt k) (some M) none
    | _, _ => none

theorem evDelete_ok {T : Tab} (ok : T.Ok) {t : TypeId} {ts : Array TypeId} {args : Array Value} {ty : TypeId} (h0 : ts[0]? = some t) {mv kv : Value} (ha0 : args[0]? = some mv) (ha1 : args[1]? = some kv)
    {ι : Inj} {M M' : Mem} {w : World} {m k : AV} (R : Rel ι M w) (hm : VR ι m mv) (hk : VR ι k kv)
    (h : evDelete T t m k M = some M') : VS T.P ι M w (Builtin.delete_ ts ty args) (.tup []) M' := by
  have hu : VR ι (.tup []) (.tuple #[]) := .tup [] #[] .nil
  unfold evDelete at h
  split at h
  · simp at h
  · rename_i ti ht
    split at h
    · rename_i kt vt b hti
      split at h
      · rename_i tk es htk hg
        rw [cond_eq_ite] at h
        split at h
        · rename_i hkey
          cases hm with
          | map _ l hl =>
            obtain ⟨ms, clock, hob, he⟩ := R.obj hg hl
            have hck := fun em => keyOk_ok ok (em := em) 60 10000 (by decide) kt k kv hkey hk (w := w)
            have hgo := run_getObj_map (P := T.P) hob
            split at h
            · simp at h
            · rename_i hf
              injection h with h; subst h
              obtain ⟨s, hs1, hs2⟩ := findA_ok ok htk hk he hf (w := w)
              cases hs2
              refine ⟨ι, _, _, ?_, hu, Stp.setMap R hg hl hob (ms' := ms) (c' := clock) he⟩
              simp only [Builtin.delete_, h0, ha0, ha1, Sem.run_bind, ty_mp ok ht hti, Result.andThen_ok, hgo, hck, hs1, run_setObj_map hob, Sem.run_pure]
            · rename_i i k' v' hf
              injection h with h; subst h
              obtain ⟨s, hs1, hs2⟩ := findA_ok ok htk hk he hf (w := w)
              cases hs2 with
              | some i2 _ _ _ e hj' hm' hk' hv' =>
                have hij : i = i2 := by omega
                subst hij
                refine ⟨ι, _, _, ?_, hu, Stp.setMap R hg hl hob (ms' := ms.eraseIdxIfInBounds i) (c' := clock) ?_⟩
                · simp only [Builtin.delete_, h0, ha0, ha1, Sem.run_bind, ty_mp ok ht hti, Result.andThen_ok, hgo, hck, hs1, run_setObj_map hob, Sem.run_pure]
                · rw [Array.toList_eraseIdxIfInBounds]
                  exact he.erase i
        · simp at h
      · simp at h
    · rename_i kt vt hti
      rw [cond_eq_ite] at h
      split at h
      · rename_i hkey
        injection h with h; subst h
        cases hm
        have hck := keyOk_ok ok (em := true) 60 10000 (by decide) kt k kv hkey hk (w := w)
        refine ⟨ι, w, _, ?_, hu, Stp.refl R⟩
        simp only [Builtin.delete_, h0, ha0, ha1, Sem.run_bind, ty_mp ok ht hti, Result.andThen_ok, hck, Sem.run_pure]
      · simp at h
    · simp at h

theorem evMakeMap_ok {P : Program} {t : TypeId} {ι : Inj} {M : Mem} {w : World} (R : Rel ι M w) : VS P ι M w (Instr.makeMap t none) (.map M.next) (M.new (.map [])) := by
  have hs := Stp.alloc R (.map []) (.map #[] 0) ⟨w.heap.size, 0, 0⟩ rfl .nil
  refine ⟨_, _, .map (some w.heap.size), ?_, .map M.next ⟨w.heap.size, 0, 0⟩ (by simp), hs⟩
  simp [Instr.makeMap]

end Go.AM
