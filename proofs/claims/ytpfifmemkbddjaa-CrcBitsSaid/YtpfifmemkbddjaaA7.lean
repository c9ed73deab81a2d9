/- The abstract machine, part 7: append. -/
import Derived.Test.YtpfifmemkbddjaaA6
set_option linter.unusedVariables false
set_option linter.unusedSimpArgs false
namespace Go.AM

theorem roomy_spec {need bytes : Nat} (h : roomy need bytes = true) : (3 * need + 4096) * bytes ≤ 281474976710656 ∧ need ≤ 1152921504606846976 := by
  unfold roomy at h
  rw [cond_eq_ite] at h
  split at h
  · rename_i h1
    exact ⟨Nat.le_of_ble_eq_true h1, Nat.le_of_ble_eq_true h⟩
  · simp at h

/-- append, behind the look at its types. -/
theorem run_append {T : Tab} (ok : T.Ok) {t1 t2 e : TypeId} {ti te : TI} (ht : T.ty.get t1 = some ti) (hk : ti.k = .sli e) (hte : T.ty.get e = some te) (hI : isInt T t2 = some false)
    {ts : Array TypeId} {args : Array Value} {ty : TypeId} (h0 : ts[0]? = some t1) (h1 : ts[1]? = some t2) {base : Option Addr} {len cap : Nat} {xv : Value}
    (ha0 : args[0]? = some (.slice base len cap)) (ha1 : args[1]? = some xv) {n : Nat} {w : World} (hn : (Builtin.lenOf xv).run T.P w = .ok n w) (hroom : roomy (len + n) te.bytes = true ∨ len + n ≤ cap) :
    (Builtin.append_ ts ty args).run T.P w =
      if len + n ≤ cap then
        (do let new ← Builtin.firstCells te.size n xv
            if let some a := base then storeCells (a.add (len * te.size)) new.toList
            pure (.slice base (len + n) cap) : Sem Value).run T.P w
      else
        (do
          let newCap ← choose (.appendCap (len + n) cap e)
          askRoom (newCap * (← typeInfo e).bytes)
          let old ← Builtin.firstCells te.size len (.slice base len cap)
          let new ← Builtin.firstCells te.size n xv
          let rest := Builtin.zeroCells (← zeroValue e).cells (newCap - (len + n))
          pure (.slice (some (← newRow e (old ++ new ++ rest))) (len + n) newCap) : Sem Value).run T.P w := by
  obtain ⟨d, hd, hmat⟩ := isInt_ok ok hI w
  have key : ∀ (hc : ¬ len + n ≤ cap), (∃ i, (typeInfo e).run T.P w = .ok i w ∧ i.bytes = te.bytes) ∧ ¬ (Builtin.nextslicecap (len + n) cap * te.bytes > 2 ^ 48) ∧ ¬ (((len + n : Nat) : Int) > IntKind.i64.max) := by
    intro hc
    obtain ⟨r1, r2⟩ := roomy_spec (hroom.resolve_right hc)
    obtain ⟨i, hi, hsz, hby, _⟩ := ty_typeInfo ok hte (w := w)
    have hle := nextslicecap_le (len + n) cap (by omega)
    refine ⟨⟨i, hi, hby⟩, ?_, ?_⟩
    · have : Builtin.nextslicecap (len + n) cap * te.bytes ≤ (3 * (len + n) + 4096) * te.bytes := Nat.mul_le_mul_right _ hle
      have h48 : 2 ^ 48 = 281474976710656 := by decide
      omega
    · have : IntKind.i64.max = 9223372036854775807 := by decide
      omega
  unfold Builtin.append_
  simp only [h0, h1, ha0, ha1, Sem.run_bind, ty_sli ok ht hk, Result.andThen_ok, ty_size ok hte, hd, Sem.run_pure]
  cases d <;> try (simp at hmat; done)
  all_goals
    simp only [Bool.false_eq_true, if_false, Sem.run_bind, hn, Result.andThen_ok, Bool.not_false, if_true]
    by_cases hc : len + n ≤ cap
    · simp only [hc, if_true]
      cases base <;> simp only [Sem.run_bind]
    · obtain ⟨⟨i, hi, hby⟩, hb, hm⟩ := key hc
      simp only [hc, if_false, Sem.run_bind, hi, Result.andThen_ok, hm, false_and, hby, hb]
      rfl

theorem setAt_end {α : Type} : ∀ (vs X : List α) (m : Nat), X.length = m + vs.length → setAt X m vs = X.take m ++ vs
  | [], X, m, h => by simp [setAt, List.take_of_length_le (show X.length ≤ m by simpa using Nat.le_of_eq h)]
  | v :: vs, X, m, h => by
    simp only [List.length_cons] at h
    rw [setAt, setAt_end vs (X.set m v) (m + 1) (by simp; omega)]
    rw [List.take_succ_eq_append_getElem (by simp; omega)]
    simp [List.take_set_of_le]

/-- A row for what is appended to a slice whose array is this call's own. -/
theorem append_place {P : Program} {ι : Inj} {M : Mem} {w : World} (R : Rel ι M w) {b o len n size c' : Nat} {row : List AV} {lc : Loc} (hg : M.get b = some (.cells row true)) (hl : ι b = some lc)
    {oldA newA : List AV} {new : Array Value} (hold : oldA.length = len * size ∧ oldA = (row.drop o).take (len * size)) (hn : VRs ι newA new.toList) (h1 : ones newA = true)
    (hnl : newA.length = n * size) (hle : len + n ≤ c') (hs : lc.base + o + c' * size ≤ lc.size) :
    ∃ ι' w', (storeCells ⟨lc.blk, lc.base + o + len * size, none⟩ new.toList).run P w = .ok () w' ∧ VR ι' (.sl M.next 0 (len + n) (len + n) (some size)) (.slice (some ⟨lc.blk, lc.base + o, none⟩) (len + n) c') ∧
      Stp ι M w ι' ((M.kill b).new (.cells (oldA ++ newA) true)) w' := by
  obtain ⟨c, e, fr, hk, hsz, hb, hv, hfr⟩ := R.row hg hl
  have hlen := hn.length
  simp only [Array.length_toList] at hlen
  have hmul : (len + n) * size ≤ c' * size := Nat.mul_le_mul_right _ hle
  rw [Nat.add_mul] at hmul
  obtain ⟨w', d, hrun, hsw, hoth, hk', hl', hcs, r1, r2, r3⟩ := run_storeCells (P := P) (lc.base + o + len * size) new.toList 0 w c hk
    (by simp only [Array.length_toList]; omega) (fun j _ hj => hfr rfl j (by simp only [Array.length_toList] at hj; omega)) (hn.uno h1)
  refine ⟨_, w', hrun, ?_, Stp.reuse R (l' := ⟨lc.blk, lc.base + o, lc.size⟩) hg rfl hl rfl hsw hoth ?_ r1 r2 r3⟩
  · exact VR.slI M.next 0 (len + n) (len + n) size c' ⟨lc.blk, lc.base + o, lc.size⟩ (by simp) hle (by simp only; omega)
  · rw [hk']
    have hext : Ext ι (fun c => if c = M.next then some ⟨lc.blk, lc.base + o, lc.size⟩ else ι c) := fun b l' h => by
      have := R.dom b l' h
      have hne : ¬ (b = M.next) := by omega
      simp [hne, h]
    have holdl : oldA.length = len * size := hold.1
    refine ⟨by simp only; omega, by simp only [List.length_append]; omega, ?_, fun _ k hk2 => hfr rfl k (by omega)⟩
    refine VRs.mono hext ?_
    have hw : ((d.toList.drop (lc.base + o)).take (oldA ++ newA).length) = ((c.toList.drop (lc.base + o)).take (len * size)) ++ new.toList := by
      have hol : (oldA ++ newA).length = len * size + new.toList.length := by simp only [List.length_append, Array.length_toList]; omega
      have hcl : c.toList.length = c.size := by simp
      rw [hl', Nat.add_zero, hol, setAt_window new.toList c.toList (lc.base + o) (len * size + new.toList.length) (len * size) (by omega)]
      rw [setAt_end _ _ _ (by simp only [List.length_take, List.length_drop]; simp only [Array.length_toList]; omega)]
      rw [List.take_take, Nat.min_eq_left (by omega)]
    rw [hw]
    refine VRs.append ?_ hn
    have := (hv.drop o).take (len * size)
    have hmin : len * size ≤ row.length - o := by
      have h1 := hold.1
      rw [hold.2, List.length_take, List.length_drop] at h1
      omega
    rw [hold.2]
    rw [List.drop_take, List.drop_drop, List.take_take, Nat.min_eq_left (by omega)] at this
    exact this

theorem cellsAt_length {M : Mem} {b o n : Nat} {xs : List AV} (h : M.cellsAt b o n = some xs) : xs.length = n := by
  unfold Mem.cellsAt at h
  split at h
  · rw [cond_eq_ite] at h
    split at h
    · rename_i hle
      have hle := Nat.le_of_ble_eq_true hle
      injection h with h; subst h
      simp; omega
    · simp at h
  · simp at h

theorem evGrow_ok {T : Tab} (ok : T.Ok) {t1 t2 e : TypeId} {ti te : TI} (ht : T.ty.get t1 = some ti) (hk : ti.k = .sli e) (hte : T.ty.get e = some te) (hI : isInt T t2 = some false)
    {ts : Array TypeId} {args : Array Value} {ty : TypeId} (h0 : ts[0]? = some t1) (h1 : ts[1]? = some t2) {base : Option Addr} {len cap' : Nat} {xv : Value}
    (ha0 : args[0]? = some (.slice base len cap')) (ha1 : args[1]? = some xv) {n : Nat} {ι : Inj} {M M' : Mem} {w : World} (R : Rel ι M w) {s x z : AV} (hs : VR ι s (.slice base len cap')) (hx : VR ι x xv)
    (hn : evLen x = some n) {new : List AV} (hnew : evFirst te.size n x M = some new) (hnl : new.length = n * te.size) {b : Nat} {ex : Option Nat}
    (hex : ex = none → ¬ len + n ≤ cap') (hsx : ∀ se, ex = some se → ∃ o cap, s = .sl b o len cap (some se) ∧ ¬ len + n ≤ cap)
    (h : evGrow te.size te.bytes n len b ex s new M = some (z, M')) : VS T.P ι M w (Builtin.append_ ts ty args) z M' := by
  unfold evGrow at h
  rw [cond_eq_ite] at h
  split at h
  · rename_i hroom
    split at h
    · simp at h
    · rename_i old hold
      rw [cond_eq_ite] at h
      split at h
      · rename_i hol
        have hol : old.length = len * te.size := Nat.eq_of_beq_eq_true hol
        have hrun := run_append ok ht hk hte hI (ty := ty) h0 h1 ha0 ha1 (w := w) (evLen_ok hx hn) (.inl hroom)
        obtain ⟨newV, hv1, hv2⟩ := evFirst_ok (P := T.P) R hx hnew
        obtain ⟨newV1, hv11, hv21⟩ := evFirst_ok (P := T.P) (w := { w with drawn := w.drawn + 1 }) (R.of_heap rfl) hx hnew
        obtain ⟨oldV, hv3, hv4⟩ := evFirst_ok (P := T.P) (w := { w with drawn := w.drawn + 1 }) (R.of_heap rfl) hs hold
        have hsum : old.length + new.length = (len + n) * te.size := by rw [hol, hnl, Nat.add_mul]
        by_cases hc : len + n ≤ cap'
        · cases ex with
          | none => exact absurd hc (hex rfl)
          | some se =>
            obtain ⟨o, cap, rfl, hncap⟩ := hsx se rfl
            simp only at h
            split at h
            · rename_i row hg
              simp only [cond_eq_ite] at h
              split at h
              · rename_i hse
                have hse : se = te.size := Nat.eq_of_beq_eq_true hse
                split at h
                · rename_i hones
                  injection h with h; injection h with h2 h3; subst h2; subst h3
                  rw [if_pos hc] at hrun
                  cases hs with
                  | slI _ _ _ _ _ _ lc hl hcc hsz =>
                    have hlen0 : len ≤ cap' := by omega
                    -- what is old lies in the row
                    have holdrow : old.length = len * te.size ∧ old = (row.drop o).take (len * te.size) := by
                      refine ⟨hol, ?_⟩
                      simp only [evFirst] at hold
                      rw [show (len.ble len) = true from by rw [Nat.ble_eq]; exact Nat.le_refl _] at hold
                      simp only [cond_eq_ite, if_true] at hold
                      split at hold
                      · rename_i hl0
                        have hl0 : len = 0 := Nat.eq_of_beq_eq_true hl0
                        injection hold with hold
                        subst hl0; subst hold
                        simp
                      · unfold Mem.cellsAt at hold
                        rw [hg] at hold
                        simp only [cond_eq_ite] at hold
                        split at hold
                        · rename_i hle
                          have hle := Nat.le_of_ble_eq_true hle
                          injection hold with hold
                          exact hold.symm
                        · simp at hold
                    subst hse
                    obtain ⟨ι', w', hr1, hr2, hr3⟩ := append_place (P := T.P) R hg hl holdrow hv1 hones hnl hc hsz
                    refine ⟨ι', w', _, ?_, hr2, hr3⟩
                    rw [hrun]
                    simp only [Sem.run_bind, hv2, Result.andThen_ok, add_none, hr1, Sem.run_pure]
                  | slZ _ _ _ _ lc hl =>
                    omega
                · simp at h
              · simp at h
            · simp at h
        · rw [if_neg hc] at hrun
          obtain ⟨ι', w', v, hr1, hr2, hr3⟩ := append_grow ok hte R (sCap := cap') hv3 hv11 hv4 hv21 hsum
          cases ex with
          | none =>
            injection h with h; injection h with h2 h3; subst h2; subst h3
            exact ⟨ι', w', v, by rw [hrun]; exact hr1, hr2, hr3⟩
          | some se =>
            simp only at h
            split at h
            · simp only [cond_eq_ite] at h
              split at h
              · split at h
                · injection h with h; injection h with h2 h3; subst h2; subst h3
                  refine ⟨ι', w', v, by rw [hrun]; exact hr1, hr2, hr3.forget (by simp) ?_⟩
                  intro c r hcr
                  rw [Mem.get_new, Mem.next_kill, Mem.get_kill] at hcr
                  rw [Mem.get_new]
                  by_cases h1 : c = M.next
                  · rw [if_pos h1] at hcr ⊢; exact hcr
                  · rw [if_neg h1] at hcr ⊢
                    by_cases h2 : c = b
                    · simp [h2] at hcr
                    · rw [if_neg h2] at hcr; exact hcr
                · simp at h
              · simp at h
            · simp at h
      · simp at h
  · simp at h

end Go.AM
