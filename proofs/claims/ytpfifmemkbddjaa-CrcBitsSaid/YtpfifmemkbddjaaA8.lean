/- The abstract machine, part 8: append whole, copy, clear, lengths, conversions. -/
import Derived.Test.YtpfifmemkbddjaaA7
set_option linter.unusedVariables false
set_option linter.unusedSimpArgs false
namespace Go.AM

theorem evAppend_ok {T : Tab} (ok : T.Ok) {t1 t2 : TypeId} {ts : Array TypeId} {args : Array Value} {ty : TypeId} (h0 : ts[0]? = some t1) (h1 : ts[1]? = some t2)
    {sv xv : Value} (ha0 : args[0]? = some sv) (ha1 : args[1]? = some xv) {ι : Inj} {M M' : Mem} {w : World} (R : Rel ι M w) {s x z : AV} (hs : VR ι s sv) (hx : VR ι x xv)
    (h : evAppend T t1 t2 s x M = some (z, M')) : VS T.P ι M w (Builtin.append_ ts ty args) z M' := by
  unfold evAppend at h
  split at h
  · rename_i ti ht hI
    split at h
    · rename_i e hk
      split at h
      · simp at h
      · rename_i te hte
        split at h
        · simp at h
        · rename_i n hn
          split at h
          · simp at h
          · rename_i new hnew
            rw [cond_eq_ite] at h
            split at h
            · rename_i hnl
              have hnl : new.length = n * te.size := Nat.eq_of_beq_eq_true hnl
              obtain ⟨newV, hv1, hv2⟩ := evFirst_ok (P := T.P) R hx hnew
              split at h
              · rename_i len cap
                have hs' := hs
                cases hs
                rw [cond_eq_ite] at h
                split at h
                · rename_i hle
                  have hle : len + n ≤ cap := Nat.le_of_ble_eq_true hle
                  injection h with h; injection h with h2 h3; subst h2; subst h3
                  have hrun := run_append ok ht hk hte hI (ty := ty) h0 h1 ha0 ha1 (w := w) (evLen_ok hx hn) (.inr hle)
                  rw [if_pos hle] at hrun
                  exact ⟨ι, w, .slice none (len + n) cap, by rw [hrun]; simp [hv2], .val _ rfl, Stp.refl R⟩
                · rename_i hle
                  have hle : ¬ len + n ≤ cap := fun h => hle (by rw [Nat.ble_eq]; exact h)
                  exact evGrow_ok ok ht hk hte hI h0 h1 ha0 ha1 R hs' hx hn hnew hnl (fun _ => hle) (fun se h => by simp at h) h
              · rename_i b o len cap ex
                rw [cond_eq_ite] at h
                split at h
                · rename_i hle
                  have hle : len + n ≤ cap := Nat.le_of_ble_eq_true hle
                  -- the value and its capacity
                  have hval : ∃ a c', sv = .slice (some a) len c' ∧ cap ≤ c' := by
                    cases hs with
                    | slE => exact ⟨_, _, rfl, Nat.le_refl _⟩
                    | slI _ _ _ _ _ _ _ _ hc _ => exact ⟨_, _, rfl, hc⟩
                    | slZ => exact ⟨_, _, rfl, Nat.le_refl _⟩
                  obtain ⟨a, c', hsv, hcc⟩ := hval
                  have hrun := run_append ok ht hk hte hI (ty := ty) h0 h1 (hsv ▸ ha0) ha1 (w := w) (evLen_ok hx hn) (.inr (by omega))
                  rw [if_pos (by omega)] at hrun
                  rw [cond_eq_ite] at h
                  split at h
                  · rename_i hn0
                    have hn0 : n = 0 := Nat.eq_of_beq_eq_true hn0
                    injection h with h; injection h with h2 h3; subst h2; subst h3
                    subst hn0
                    have hemp : newV.toList = [] := by
                      have := hv1.length
                      rw [hnl, Nat.zero_mul] at this
                      exact List.eq_nil_of_length_eq_zero this.symm
                    refine ⟨ι, w, sv, ?_, hs, Stp.refl R⟩
                    rw [hrun, hsv]
                    simp [hv2, hemp, storeCells]
                  · rename_i hn0
                    have hn0 : ¬ n = 0 := fun he => hn0 (by rw [Nat.beq_eq]; exact he)
                    obtain ⟨M1, hM1, he⟩ := Option.map_eq_some_iff.1 h
                    injection he with h2 h3; subst h2; subst h3
                    cases hs with
                    | slE _ _ _ _ lc hl =>
                      injection hsv with hsv1 hsv2 hsv3
                      injection hsv1 with hsv1; subst hsv1; subst hsv3
                      obtain ⟨w', hr1, hr2⟩ := R.store (P := T.P) hM1 hl hv1
                      refine ⟨ι, w', _, ?_, .slE b o (len + n) cap lc hl, hr2⟩
                      rw [hrun]
                      simp only [Sem.run_bind, hv2, Result.andThen_ok, add_none, Nat.add_assoc, hr1, Sem.run_pure]
                    | slI _ _ _ _ se _ lc hl hc hsz =>
                      injection hsv with hsv1 hsv2 hsv3
                      injection hsv1 with hsv1; subst hsv1; subst hsv3
                      obtain ⟨w', hr1, hr2⟩ := R.store (P := T.P) hM1 hl hv1
                      refine ⟨ι, w', _, ?_, .slI b o (len + n) cap se _ lc hl hc hsz, hr2⟩
                      rw [hrun]
                      simp only [Sem.run_bind, hv2, Result.andThen_ok, add_none, Nat.add_assoc, hr1, Sem.run_pure]
                    | slZ => omega
                · rename_i hle
                  have hle : ¬ len + n ≤ cap := fun h => hle (by rw [Nat.ble_eq]; exact h)
                  have hval : ∃ a c', sv = .slice (some a) len c' ∧ (ex = none → c' = cap) := by
                    cases hs with
                    | slE => exact ⟨_, _, rfl, fun _ => rfl⟩
                    | slI => exact ⟨_, _, rfl, fun h => by simp at h⟩
                    | slZ => exact ⟨_, _, rfl, fun h => by simp at h⟩
                  obtain ⟨a, c', hsv, hcc⟩ := hval
                  subst hsv
                  exact evGrow_ok ok ht hk hte hI h0 h1 ha0 ha1 R hs hx hn hnew hnl (fun he => by rw [hcc he]; exact hle) (fun se he => ⟨o, cap, by rw [he], hle⟩) h
              · simp at h
            · simp at h
    · simp at h
  · simp at h

/-! ## copy, clear -/

def evCopy (T : Tab) (t1 : TypeId) (d s : AV) (M : Mem) : Option (AV × Mem) :=
  match T.ty.get t1 with
  | none => none
  | some ti =>
    match ti.k with
    | .sli e =>
      match T.ty.get e with
      | none => none
      | some te =>
        match evLen d, evLen s with
        | some n, some m =>
          match evFirst te.size (Nat.min m n) s M with
          | none => none
          | some xs =>
            match d with
            | .sl b o _ _ _ => cond (Nat.beq (Nat.min m n) 0) (some (.val (.int .i64 0), M)) ((M.storeAt b o xs).map fun M' => (.val (.int .i64 (Nat.min m n)), M'))
            | .val (.slice none _ _) => some (.val (.int .i64 (Nat.min m n)), M)
            | _ => none
        | _, _ => none
    | _ => none

theorem evFirst_zero {size : Nat} {x : AV} {M : Mem} {xs : List AV} (h : evFirst size 0 x M = some xs) : xs = [] := by
  unfold evFirst at h
  split at h
  · simp only [cond_eq_ite] at h
    split at h
    · simp [Nat.beq] at h; exact h
    · simp at h
  · injection h with h; exact h.symm
  · injection h with h
    subst h
    unfold bytesA
    simp
  · simp at h

theorem evCopy_ok {T : Tab} (ok : T.Ok) {t1 : TypeId} {ts : Array TypeId} {args : Array Value} {ty : TypeId} (h0 : ts[0]? = some t1)
    {dv xv : Value} (ha0 : args[0]? = some dv) (ha1 : args[1]? = some xv) {ι : Inj} {M M' : Mem} {w : World} (R : Rel ι M w) {d x z : AV} (hd : VR ι d dv) (hx : VR ι x xv)
    (h : evCopy T t1 d x M = some (z, M')) : VS T.P ι M w (Builtin.copy_ ts ty args) z M' := by
  unfold evCopy at h
  split at h
  · simp at h
  · rename_i ti ht
    split at h
    · rename_i e hk
      split at h
      · simp at h
      · rename_i te hte
        split at h
        · rename_i n m hn hm
          split at h
          · simp at h
          · rename_i xs hxs
            obtain ⟨xv', hv1, hv2⟩ := evFirst_ok (P := T.P) R hx hxs
            have hlen := evLen_ok (P := T.P) (w := w) hx hm
            split at h
            · rename_i b o dn dc dex
              have hval : ∃ a c', dv = .slice (some a) dn c' := by
                cases hd <;> exact ⟨_, _, rfl⟩
              simp only [evLen, Option.some.injEq] at hn
              subst hn
              rw [cond_eq_ite] at h
              split at h
              · rename_i hz
                have hz : Nat.min m dn = 0 := Nat.eq_of_beq_eq_true hz
                injection h with h; injection h with h2 h3; subst h2; subst h3
                obtain ⟨a, c', rfl⟩ := hval
                rw [hz] at hxs hv2
                have hnil := evFirst_zero hxs
                subst hnil
                have hemp : xv'.toList = [] := by
                  have := hv1.length
                  exact List.eq_nil_of_length_eq_zero this.symm
                refine ⟨ι, w, .int .i64 0, ?_, .val _ rfl, Stp.refl R⟩
                simp only [Builtin.copy_, h0, ha0, ha1, Sem.run_bind, ty_sli ok ht hk, Result.andThen_ok, hlen, ty_size ok hte, hz, hv2, hemp, storeCells, Sem.run_pure, goInt]
                rfl
              · rename_i hz
                have hz : ¬ Nat.min m dn = 0 := fun he => hz (by rw [Nat.beq_eq]; exact he)
                obtain ⟨M1, hM1, he⟩ := Option.map_eq_some_iff.1 h
                injection he with h2 h3; subst h2; subst h3
                have hl : ∃ lc, ι b = some lc ∧ ∃ c', dv = .slice (some ⟨lc.blk, lc.base + o, none⟩) dn c' := by
                  cases hd with
                  | slE _ _ _ _ lc hl => exact ⟨lc, hl, _, rfl⟩
                  | slI _ _ _ _ _ _ lc hl _ _ => exact ⟨lc, hl, _, rfl⟩
                  | slZ => exact absurd (Nat.min_zero _) hz
                obtain ⟨lc, hl, c', rfl⟩ := hl
                obtain ⟨w', hr1, hr2⟩ := R.store (P := T.P) hM1 hl hv1
                refine ⟨ι, w', .int .i64 (Nat.min m dn), ?_, .val _ rfl, hr2⟩
                simp only [Builtin.copy_, h0, ha0, ha1, Sem.run_bind, ty_sli ok ht hk, Result.andThen_ok, hlen, ty_size ok hte, hv2, hr1, Sem.run_pure, goInt]
            · rename_i dn dc
              injection h with h; injection h with h2 h3; subst h2; subst h3
              cases hd
              simp only [evLen, Option.some.injEq] at hn
              subst hn
              refine ⟨ι, w, .int .i64 (Nat.min m dn), ?_, .val _ rfl, Stp.refl R⟩
              simp only [Builtin.copy_, h0, ha0, ha1, Sem.run_bind, ty_sli ok ht hk, Result.andThen_ok, hlen, ty_size ok hte, hv2, Sem.run_pure, goInt]
            · simp at h
        · simp at h
    · simp at h

def evClear (T : Tab) (t : TypeId) (x : AV) (M : Mem) : Option Mem :=
  match T.ty.get t with
  | none => none
  | some ti =>
    match x with
    | .map b =>
      match M.get b with
      | some (.map _) => some (M.put b (.map []))
      | _ => none
    | .val (.map none) => some M
    | .val (.slice none _ _) => some M
    | .sl b o n _ _ =>
      match ti.k with
      | .sli e =>
        match T.ty.get e with
        | none => none
        | some te => cond (Nat.beq n 0) (some M) (M.storeAt b o (repA n (ofVs te.zero)))
      | _ => none
    | _ => none

theorem Rel.obj {ι : Inj} {M : Mem} {w : World} (R : Rel ι M w) {b : Nat} {es : List (AV × AV)} {l : Loc} (h : M.get b = some (.map es)) (hl : ι b = some l) :
    ∃ ms clock, w.heap[l.blk]? = some (.map ms clock) ∧ EntR ι es ms.toList := by
  obtain ⟨l', h1, h2⟩ := R.live b _ h
  rw [hl] at h1; injection h1 with h1; subst h1
  generalize w.heap[l.blk]? = o at h2
  cases o with
  | none => exact h2.elim
  | some o => cases o <;> first | exact h2.elim | exact ⟨_, _, rfl, h2⟩

theorem run_getObj_map {P : Program} {w : World} {k : Nat} {ms : Array MapEntry} {c : Nat} (h : w.heap[k]? = some (.map ms c)) : (getObj k).run P w = .ok (.map ms c) w := by
  simp [getObj, Sem.run, h]

theorem run_setObj_map {P : Program} {w : World} {k : Nat} {ms : Array MapEntry} {c : Nat} (h : w.heap[k]? = some (.map ms c)) (o : Obj) :
    (setObj k o).run P w = .ok () { w with heap := w.heap.setIfInBounds k o } := by
  simp [setObj, Sem.run, h]

theorem Stp.setMap {ι : Inj} {M : Mem} {w : World} (R : Rel ι M w) {b : Nat} {es es' : List (AV × AV)} {l : Loc} (h : M.get b = some (.map es)) (hl : ι b = some l)
    {ms ms' : Array MapEntry} {c c' : Nat} (hk : w.heap[l.blk]? = some (.map ms c)) (he : EntR ι es' ms'.toList) :
    Stp ι M w ι (M.put b (.map es')) { w with heap := w.heap.setIfInBounds l.blk (.map ms' c') } := by
  have hlt : l.blk < w.heap.size := by
    rcases Nat.lt_or_ge l.blk w.heap.size with h' | h'
    · exact h'
    · rw [Array.getElem?_eq_none h'] at hk; simp at hk
  refine Stp.write R h rfl hl (by simp) ?_ ?_ rfl rfl rfl
  · intro k hk'
    simp only
    rw [Array.getElem?_setIfInBounds_ne (fun h => hk' h.symm)]
  · simp only [Array.getElem?_setIfInBounds_self_of_lt hlt]
    exact he

theorem evClear_ok {T : Tab} (ok : T.Ok) {t : TypeId} {ts : Array TypeId} {args : Array Value} {ty : TypeId} (h0 : ts[0]? = some t)
    {xv : Value} (ha0 : args[0]? = some xv) {ι : Inj} {M M' : Mem} {w : World} (R : Rel ι M w) {x : AV} (hx : VR ι x xv)
    (h : evClear T t x M = some M') : VS T.P ι M w (Builtin.clear_ ts ty args) (.tup []) M' := by
  unfold evClear at h
  split at h
  · simp at h
  · rename_i ti ht
    obtain ⟨d, hd, hdr, hdk⟩ := ty_under ok ht (w := w)
    have hu : VR ι (.tup []) (.tuple #[]) := .tup [] #[] .nil
    split at h
    · rename_i b
      split at h
      · rename_i es hg
        injection h with h; subst h
        cases hx with
        | map _ l hl =>
          obtain ⟨ms, clock, hk, he⟩ := R.obj hg hl
          refine ⟨ι, _, .tuple #[], ?_, hu, Stp.setMap R hg hl hk (ms' := #[]) (c' := clock) .nil⟩
          simp only [Builtin.clear_, h0, ha0, Sem.run_bind, hdr, Result.andThen_ok, run_getObj_map hk, run_setObj_map hk, Sem.run_pure]
      · simp at h
    · injection h with h; subst h
      cases hx
      refine ⟨ι, w, .tuple #[], ?_, hu, Stp.refl R⟩
      simp [Builtin.clear_, h0, ha0, hdr]
    · injection h with h; subst h
      cases hx
      refine ⟨ι, w, .tuple #[], ?_, hu, Stp.refl R⟩
      simp [Builtin.clear_, h0, ha0, hdr]
    · rename_i b o n c ex
      split at h
      · rename_i e hk
        split at h
        · simp at h
        · rename_i te hte
          obtain ⟨zv, hzr, hzv⟩ := ty_zero ok hte (w := w)
          rw [cond_eq_ite] at h
          split at h
          · rename_i hn
            have hn : n = 0 := Nat.eq_of_beq_eq_true hn
            injection h with h; subst h
            refine ⟨ι, w, .tuple #[], ?_, hu, Stp.refl R⟩
            subst hn
            cases hx <;> simp [Builtin.clear_, h0, ha0, hdr]
          · rename_i hn
            have hn : ¬ n = 0 := fun he => hn (by rw [Nat.beq_eq]; exact he)
            have hl : ∃ lc, ι b = some lc ∧ ∃ c', xv = .slice (some ⟨lc.blk, lc.base + o, none⟩) n c' := by
              cases hx with
              | slE _ _ _ _ lc hl => exact ⟨lc, hl, _, rfl⟩
              | slI _ _ _ _ _ _ lc hl _ _ => exact ⟨lc, hl, _, rfl⟩
              | slZ => exact absurd rfl hn
            obtain ⟨lc, hl, c', rfl⟩ := hl
            obtain ⟨w', hr1, hr2⟩ := R.store (P := T.P) (vs := (Builtin.zeroCells zv.cells n).toList) h hl (by rw [zeroCells_toList, hzv]; exact (VRs.ofVs ι te.zero).repA n)
            refine ⟨ι, w', .tuple #[], ?_, hu, hr2⟩
            cases n with
            | zero => exact absurd rfl hn
            | succ n =>
              simp only [Builtin.clear_, h0, ha0, Sem.run_bind, ty_sli ok ht hk, Result.andThen_ok, hzr, hr1, Sem.run_pure]
      · simp at h
    · simp at h

end Go.AM
