/- The abstract machine, part 4: composite values, slices, what is made of them. -/
import Derived.Test.YtpfifmemkbddjaaA3
set_option linter.unusedVariables false
set_option linter.unusedSimpArgs false
namespace Go.AM

/-! ## Slice expressions -/

def bndV (x : AV) (hi : Nat) : Option Nat :=
  match x with
  | .val (.int _ n) => cond (decide (0 ≤ n)) (cond (Nat.ble n.toNat hi) (some n.toNat) none) none
  | _ => none

inductive OVR (ι : Inj) : Option AV → Option Value → Prop
  | none : OVR ι none none
  | some (x : AV) (v : Value) (h : VR ι x v) : OVR ι (some x) (some v)

theorem bndV_run {P : Program} {ι : Inj} {w : World} {x : AV} {v : Value} (hx : VR ι x v) {hi hi' n : Nat} (hle : hi ≤ hi') (h : bndV x hi = some n) (c : BoundsCode) :
    (Instr.sliceBound v hi' c).run P w = .ok n w ∧ n ≤ hi := by
  unfold bndV at h
  split at h
  · rename_i k m
    cases hx
    simp only [cond_eq_ite, decide_eq_true_eq] at h
    split at h
    · rename_i h0
      split at h
      · rename_i h1
        have h1 : m.toNat ≤ hi := Nat.le_of_ble_eq_true h1
        injection h with h; subst h
        have hc : 0 ≤ m ∧ m ≤ (hi' : Int) := ⟨h0, by omega⟩
        exact ⟨by simp [Instr.sliceBound, asIntOf, hc], h1⟩
      · simp at h
    · simp at h
  · simp at h

def sliceB (len cap : Nat) (lo hi mx : Option AV) : Option (Nat × Nat × Nat) :=
  match (match mx with | some v => bndV v cap | none => some cap) with
  | none => none
  | some m =>
    match (match hi with | some v => bndV v m | none => (match mx with | none => some len | some _ => none)) with
    | none => none
    | some h =>
      match (match lo with | some v => bndV v h | none => some 0) with
      | none => none
      | some l => some (l, h, m)

theorem sliceB_run {P : Program} {ι : Inj} {w : World} {lo hi mx : Option AV} {lov hiv mxv : Option Value} (h1 : OVR ι lo lov) (h2 : OVR ι hi hiv) (h3 : OVR ι mx mxv)
    {len cap cap' l h m : Nat} (hc : cap ≤ cap') (e : sliceB len cap lo hi mx = some (l, h, m)) (b : Bool) :
    (Instr.sliceBounds b len cap' lov hiv mxv).run P w = .ok (l, h, if mx.isSome then m else cap') w ∧ (mx.isSome = false → m = cap) ∧ (mx.isSome = true → m ≤ cap) ∧
      (hi.isSome = true → h ≤ m) := by
  unfold sliceB at e
  cases h3 with
  | none =>
    simp only at e
    cases h2 with
    | none =>
      simp only at e
      cases h1 with
      | none =>
        simp only [Option.some.injEq, Prod.mk.injEq] at e
        obtain ⟨rfl, rfl, rfl⟩ := e
        exact ⟨by simp [Instr.sliceBounds], fun _ => rfl, fun h => by simp at h, fun h => by simp at h⟩
      | some x v hx =>
        simp only at e
        split at e
        · simp at e
        · rename_i l' hl
          simp only [Option.some.injEq, Prod.mk.injEq] at e
          obtain ⟨rfl, rfl, rfl⟩ := e
          have := bndV_run (P := P) (w := w) hx (Nat.le_refl _) hl .sliceB
          exact ⟨by simp [Instr.sliceBounds, this.1], fun _ => rfl, fun h => by simp at h, fun h => by simp at h⟩
    | some y u hy =>
      simp only at e
      split at e
      · simp at e
      · rename_i h' hh
        have hb := fun c => bndV_run (P := P) (w := w) hy hc hh c
        cases h1 with
        | none =>
          simp only [Option.some.injEq, Prod.mk.injEq] at e
          obtain ⟨rfl, rfl, rfl⟩ := e
          exact ⟨by simp [Instr.sliceBounds, (hb _).1], fun _ => rfl, fun h => by simp at h, fun _ => (hb .index).2⟩
        | some x v hx =>
          simp only at e
          split at e
          · simp at e
          · rename_i l' hl
            simp only [Option.some.injEq, Prod.mk.injEq] at e
            obtain ⟨rfl, rfl, rfl⟩ := e
            have := bndV_run (P := P) (w := w) hx (Nat.le_refl _) hl .sliceB
            exact ⟨by simp [Instr.sliceBounds, this.1, (hb _).1], fun _ => rfl, fun h => by simp at h, fun _ => (hb .index).2⟩
  | some z s hz =>
    simp only at e
    split at e
    · simp at e
    · rename_i m' hm
      have hbm := fun c => bndV_run (P := P) (w := w) hz hc hm c
      cases h2 with
      | none => simp at e
      | some y u hy =>
        simp only at e
        split at e
        · simp at e
        · rename_i h' hh
          have hb := fun c => bndV_run (P := P) (w := w) hy (Nat.le_refl _) hh c
          cases h1 with
          | none =>
            simp only [Option.some.injEq, Prod.mk.injEq] at e
            obtain ⟨rfl, rfl, rfl⟩ := e
            exact ⟨by simp [Instr.sliceBounds, (hb _).1, (hbm _).1], fun h => by simp at h, fun _ => (hbm .index).2, fun _ => (hb .index).2⟩
          | some x v hx =>
            simp only at e
            split at e
            · simp at e
            · rename_i l' hl
              simp only [Option.some.injEq, Prod.mk.injEq] at e
              obtain ⟨rfl, rfl, rfl⟩ := e
              have := bndV_run (P := P) (w := w) hx (Nat.le_refl _) hl .slice3C
              exact ⟨by simp [Instr.sliceBounds, this.1, (hb _).1, (hbm _).1], fun h => by simp at h, fun _ => (hbm .index).2, fun _ => (hb .index).2⟩

def evSlice (T : Tab) (t : TypeId) (x : AV) (lo hi mx : Option AV) : Option AV :=
  match T.ty.get t with
  | none => none
  | some ti =>
    match ti.k, x with
    | .sli e, .sl b o n c ex =>
      match T.ty.get e with
      | none => none
      | some te =>
        match sliceB n c lo hi mx with
        | none => none
        | some (l, h, m) =>
          match ex, mx with
          | none, _ => some (.sl b (cond (Nat.beq m l) o (o + l * te.size)) (h - l) (m - l) none)
          | some s, none => cond (Nat.beq s te.size) (cond (Nat.ble h c) (some (.sl b (o + l * te.size) (h - l) (m - l) (some s))) none) none
          | some _, some _ => cond (Nat.blt 0 c) (some (.sl b (cond (Nat.beq m l) o (o + l * te.size)) (h - l) (m - l) none)) none
    | .sli e, .val (.slice none n c) =>
      match T.ty.get e with
      | none => none
      | some _ =>
        match sliceB n c lo hi mx with
        | none => none
        | some (l, h, m) => some (.val (.slice none (h - l) (m - l)))
    | .str, .val (.string s) =>
      match mx with
      | some _ => none
      | none =>
        match sliceB s.size s.size lo hi none with
        | none => none
        | some (l, h, _) => some (.val (.string (s.extract l h)))
    | .pt a, .ptr b o =>
      match T.ty.get a with
      | none => none
      | some ta =>
        match ta.k with
        | .ar n e =>
          match T.ty.get e with
          | none => none
          | some te =>
            match sliceB n n lo hi mx with
            | none => none
            | some (l, h, m) => some (.sl b (cond (Nat.beq m l) o (o + l * te.size)) (h - l) (m - l) none)
        | _ => none
    | _, _ => none

theorem cond_beq {α : Type} (m l : Nat) (x y : α) : cond (Nat.beq m l) x y = if m = l then x else y := by
  simp only [cond_eq_ite, Nat.beq_eq]

theorem evSlice_ok {T : Tab} (ok : T.Ok) {t : TypeId} {ι : Inj} {M : Mem} {w : World} {x y : AV} {v : Value} {lo hi mx : Option AV} {lov hiv mxv : Option Value}
    (R : Rel ι M w) (hx : VR ι x v) (h1 : OVR ι lo lov) (h2 : OVR ι hi hiv) (h3 : OVR ι mx mxv) (h : evSlice T t x lo hi mx = some y) :
    VS T.P ι M w (Instr.slice t v lov hiv mxv) y M := by
  unfold evSlice at h
  split at h
  · simp at h
  · rename_i ti ht
    split at h
    · rename_i e b o n c ex hk
      split at h
      · simp at h
      · rename_i te hte
        split at h
        · simp at h
        · rename_i l hh m hB
          cases hx with
          | slE _ _ _ _ lc hl =>
            simp only [Option.some.injEq] at h
            subst h
            obtain ⟨hr, hm, _⟩ := sliceB_run (P := T.P) (w := w) h1 h2 h3 (Nat.le_refl c) hB true
            have hm' : (if mx.isSome then m else c) = m := by
              cases hs : mx.isSome with
              | true => rfl
              | false => exact (hm hs).symm
            rw [hm'] at hr
            rw [cond_beq]
            by_cases hml : m = l
            · rw [if_pos hml]
              refine ⟨ι, w, _, ?_, .slE b o (hh - l) (m - l) lc hl, Stp.refl R⟩
              simp [Instr.slice, ty_sli ok ht hk, hr, ty_size ok hte, hml]
            · rw [if_neg hml]
              refine ⟨ι, w, _, ?_, .slE b (o + l * te.size) (hh - l) (m - l) lc hl, Stp.refl R⟩
              simp [Instr.slice, ty_sli ok ht hk, hr, ty_size ok hte, hml, add_none, Nat.add_assoc]
          | slI _ _ _ _ s c' lc hl hc hs =>
            obtain ⟨hr, hm, hmc, hhm⟩ := sliceB_run (P := T.P) (w := w) h1 h2 h3 hc hB true
            cases h3 with
            | none =>
              simp only [cond_eq_ite] at h
              split at h
              · rename_i hse
                have hse : s = te.size := Nat.eq_of_beq_eq_true hse
                split at h
                · rename_i hhc
                  have hhc : hh ≤ c := Nat.le_of_ble_eq_true hhc
                  injection h with h; subst h
                  have hmm : m = c := hm rfl
                  subst hmm
                  simp only [Option.isSome_none, Bool.false_eq_true, if_false] at hr
                  have hlh : l ≤ hh ∨ hh < l := by omega
                  by_cases hcl : c' = l
                  · subst hcl
                    have hz : m - c' = 0 := by omega
                    have hz2 : hh - c' = 0 := by omega
                    refine ⟨ι, w, .slice (some ⟨lc.blk, lc.base + o, none⟩) (hh - c') (c' - c'), ?_, ?_, Stp.refl R⟩
                    · simp [Instr.slice, ty_sli ok ht hk, hr, ty_size ok hte]
                    · rw [hz, hz2, show c' - c' = 0 by omega]
                      exact .slZ b _ s _ lc hl
                  · refine ⟨ι, w, .slice (some ⟨lc.blk, lc.base + o + l * te.size, none⟩) (hh - l) (c' - l), ?_, ?_, Stp.refl R⟩
                    · simp [Instr.slice, ty_sli ok ht hk, hr, ty_size ok hte, hcl, add_none]
                    · rw [Nat.add_assoc]
                      by_cases hlc : l ≤ c'
                      · refine .slI b (o + l * te.size) (hh - l) (m - l) s (c' - l) lc hl (by omega) ?_
                        rw [Nat.sub_mul, hse]
                        have : l * te.size ≤ c' * te.size := Nat.mul_le_mul_right _ hlc
                        subst hse
                        omega
                      · exfalso
                        cases h1 with
                        | none =>
                          unfold sliceB at hB
                          simp only at hB
                          cases h2 with
                          | none => simp only [Option.some.injEq, Prod.mk.injEq] at hB; omega
                          | some y u hy =>
                            simp only at hB
                            split at hB
                            · simp at hB
                            · simp only [Option.some.injEq, Prod.mk.injEq] at hB; omega
                        | some z q hz =>
                          unfold sliceB at hB
                          simp only at hB
                          cases h2 with
                          | none =>
                            simp only at hB
                            split at hB
                            · simp at hB
                            · rename_i l' hl'
                              simp only [Option.some.injEq, Prod.mk.injEq] at hB
                              have := (bndV_run (P := T.P) (w := w) hz (Nat.le_refl _) hl' .sliceB).2
                              omega
                          | some y u hy =>
                            simp only at hB
                            split at hB
                            · simp at hB
                            · split at hB
                              · simp at hB
                              · rename_i l' hl'
                                simp only [Option.some.injEq, Prod.mk.injEq] at hB
                                have := (bndV_run (P := T.P) (w := w) hz (Nat.le_refl _) hl' .sliceB).2
                                omega
                · simp at h
              · simp at h
            | some zx zv hz =>
              simp only [cond_eq_ite] at h
              split at h
              · rename_i hc0
                injection h with h; subst h
                simp only [Option.isSome_some, if_true] at hr
                simp only [Nat.beq_eq]
                by_cases hml : m = l
                · rw [if_pos hml]
                  refine ⟨ι, w, _, ?_, .slE b o (hh - l) (m - l) lc hl, Stp.refl R⟩
                  simp [Instr.slice, ty_sli ok ht hk, hr, ty_size ok hte, hml]
                · rw [if_neg hml]
                  refine ⟨ι, w, _, ?_, .slE b (o + l * te.size) (hh - l) (m - l) lc hl, Stp.refl R⟩
                  simp [Instr.slice, ty_sli ok ht hk, hr, ty_size ok hte, hml, add_none, Nat.add_assoc]
              · simp at h
          | slZ _ _ s xx lc hl =>
            cases h3 with
            | none =>
              simp only [cond_eq_ite] at h
              split at h
              · split at h
                · rename_i hhc
                  have hhc : hh ≤ 0 := Nat.le_of_ble_eq_true hhc
                  injection h with h; subst h
                  obtain ⟨hr, hm, hmc, hhm⟩ := sliceB_run (P := T.P) (w := w) h1 h2 (OVR.none (ι := ι)) (Nat.le_refl 0) hB true
                  have hmm : m = 0 := hm rfl
                  simp only [Option.isSome_none, Bool.false_eq_true, if_false] at hr
                  subst hmm
                  have hz2 : hh - l = 0 := by omega
                  rw [hz2, Nat.zero_sub]
                  by_cases hl0 : 0 = l
                  · refine ⟨ι, w, .slice (some ⟨lc.blk, xx, none⟩) 0 0, ?_, .slZ b _ s xx lc hl, Stp.refl R⟩
                    subst hl0
                    have : hh = 0 := by omega
                    subst this
                    simp [Instr.slice, ty_sli ok ht hk, hr, ty_size ok hte]
                  · refine ⟨ι, w, .slice (some ⟨lc.blk, xx + l * te.size, none⟩) 0 0, ?_, .slZ b _ s _ lc hl, Stp.refl R⟩
                    simp [Instr.slice, ty_sli ok ht hk, hr, ty_size ok hte, hl0, add_none, hz2]
                · simp at h
              · simp at h
            | some zx zv hz =>
              simp [Nat.blt, Nat.ble] at h
    · rename_i e n c hk
      cases hx
      split at h
      · simp at h
      · rename_i te hte
        split at h
        · simp at h
        · rename_i l hh m hB
          injection h with h; subst h
          obtain ⟨hr, hm, _⟩ := sliceB_run (P := T.P) (w := w) h1 h2 h3 (Nat.le_refl c) hB true
          have hm' : (if mx.isSome then m else c) = m := by
            cases hs : mx.isSome with
            | true => rfl
            | false => exact (hm hs).symm
          rw [hm'] at hr
          refine ⟨ι, w, .slice none (hh - l) (m - l), ?_, .val _ rfl, Stp.refl R⟩
          simp [Instr.slice, ty_sli ok ht hk, hr, ty_size ok hte]
    · rename_i s hk
      cases hx
      cases h3 with
      | some => simp at h
      | none =>
        simp only at h
        split at h
        · simp at h
        · rename_i l hh m hB
          injection h with h; subst h
          obtain ⟨hr, hm, _⟩ := sliceB_run (P := T.P) (w := w) h1 h2 (OVR.none (ι := ι)) (Nat.le_refl s.size) hB false
          refine ⟨ι, w, .string (s.extract l hh), ?_, .val _ rfl, Stp.refl R⟩
          simp [Instr.slice, ty_str ok ht hk, hr]
    · rename_i a b o hk
      split at h
      · simp at h
      · rename_i ta hta
        split at h
        · rename_i n e hka
          split at h
          · simp at h
          · rename_i te hte
            split at h
            · simp at h
            · rename_i l hh m hB
              injection h with h; subst h
              cases hx with
              | ptr _ _ lc hl =>
                obtain ⟨hr, hm, _⟩ := sliceB_run (P := T.P) (w := w) h1 h2 h3 (Nat.le_refl n) hB false
                have hm' : (if mx.isSome then m else n) = m := by
                  cases hs : mx.isSome with
                  | true => rfl
                  | false => exact (hm hs).symm
                rw [hm'] at hr
                rw [cond_beq]
                by_cases hml : m = l
                · rw [if_pos hml]
                  refine ⟨ι, w, _, ?_, .slE b o (hh - l) (m - l) lc hl, Stp.refl R⟩
                  simp [Instr.slice, ty_pt ok ht hk, asAddr, ty_ar ok hta hka, hr, ty_size ok hte, hml]
                · rw [if_neg hml]
                  refine ⟨ι, w, _, ?_, .slE b (o + l * te.size) (hh - l) (m - l) lc hl, Stp.refl R⟩
                  simp [Instr.slice, ty_pt ok ht hk, asAddr, ty_ar ok hta hka, hr, ty_size ok hte, hml, add_none, Nat.add_assoc]
        · simp at h
    · simp at h

end Go.AM
