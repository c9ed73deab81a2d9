/- The abstract machine, part 20: what was reckoned out bears the rule for open regions. -/
import Derived.Test.YtpfifmemkbddjaaA19
set_option linter.unusedVariables false
set_option linter.unusedSimpArgs false
namespace Go.AM

def CallsOk (T : Tab) (call : CallF) : Prop := ∀ (g : FuncId) (F : Func) (args : List AV) (M : Mem) (x : AV) (M' : Mem), T.fn.get g = some F → call g args M = some (x, M') → CallA T.P g args M (fun y N => y = x ∧ N = M')

def frAt (r : PA) (j : Nat) : Tr AV := ((r.recs[j]?).map Rec.fr).getD r.fr

def RecOk (T : Tab) (ops : Array Oper) (h nid top : Nat) (o : Oper) (rec : Rec) : Prop :=
  match cls T o with
  | .eff => rec.flo = none
  | .flt => (wantedA ops rec.fr o = some false ∧ rec.x = undefA ∧ rec.flo = none) ∨
      (wantedA ops rec.fr o = some true ∧ ∃ id row, rec.flo = some ⟨h, id, row⟩ ∧ evFl T rec.fr o id = some (rec.x, row) ∧ nid ≤ id ∧ id < top)
  | _ => rec.flo = none ∧ ((wantedA ops rec.fr o = some false ∧ rec.x = undefA) ∨ (wantedA ops rec.fr o = some true ∧ ∃ M M', evalOp T rec.fr o M = some (rec.x, M')))

theorem RecOk.wider {T : Tab} {ops : Array Oper} {h nid nid' top top' : Nat} {o : Oper} {rec : Rec} (hn : nid' ≤ nid) (ht : top ≤ top') (H : RecOk T ops h nid top o rec) : RecOk T ops h nid' top' o rec := by
  unfold RecOk at H ⊢
  cases hc : cls T o <;> rw [hc] at H <;> simp only at H ⊢
  · exact H
  · exact H
  · exact H
  · rcases H with H | ⟨h1, id, row, h2, h3, h4, h5⟩
    · exact .inl H
    · exact .inr ⟨h1, id, row, h2, h3, by omega, by omega⟩

theorem RecOk.flo {T : Tab} {ops : Array Oper} {h nid top : Nat} {o : Oper} {rec : Rec} (H : RecOk T ops h nid top o rec) {f : Flo} (hf : rec.flo = some f) : cls T o = .flt ∧ f.hi = h ∧ nid ≤ f.id ∧ f.id < top := by
  unfold RecOk at H
  split at H
  · rw [H] at hf; cases hf
  · rename_i hc
    rcases H with ⟨_, _, H⟩ | ⟨h1, id, row, h2, h3, h4, h5⟩
    · rw [H] at hf; cases hf
    · rw [h2] at hf; injection hf with hf; subst hf
      exact ⟨hc, rfl, h4, h5⟩
  · rw [H.1] at hf; cases hf

structure PAOk (T : Tab) (ops : Array Oper) (ms eff : List Nat) (todo : List Oper) (i k : Nat) (fr : Tr AV) (M : Mem) (fl : List Flo) (nid : Nat) (r : PA) : Prop where
  len : r.recs.length = todo.length
  lenm : r.mems.length = (effOf T todo i).length + 1
  lena : r.ads.length = (effOf T todo i).length + 1
  fr0 : frAt r 0 = fr
  m0 : r.mems[0]? = some M
  frS : ∀ (j : Nat) (o : Oper), todo[j]? = some o → ∃ rec, r.recs[j]? = some rec ∧ frAt r (j + 1) = setd rec.fr o.dst rec.x ∧ RecOk T ops (hi ms eff (i + j)) nid (nid + countFlt T todo) o rec
  uniq : ∀ (j j' : Nat) (ra rb : Rec) (f g : Flo), r.recs[j]? = some ra → r.recs[j']? = some rb → ra.flo = some f → rb.flo = some g → f.id = g.id → j = j'
  ads : ∀ (q : Nat) (A : Mem), r.ads[q]? = some A → ∃ N, r.mems[q]? = some N ∧ A.next = N.next ∧
    (∀ b, (∀ f ∈ fl, f.hi = k + q → f.id ≠ b) → (∀ (j : Nat) (rec : Rec) (f : Flo), r.recs[j]? = some rec → rec.flo = some f → f.hi = k + q → f.id ≠ b) → A.get b = N.get b) ∧
    (∀ f ∈ fl, f.hi = k + q → A.get f.id = some f.row) ∧
    (∀ (j : Nat) (rec : Rec) (f : Flo), r.recs[j]? = some rec → rec.flo = some f → f.hi = k + q → (∀ e, (effOf T todo i)[q]? = some e → i + j < e) → A.get f.id = some f.row)
  effk : ∀ (q e : Nat) (o : Oper), (effOf T todo i)[q]? = some e → todo[e - i]? = some o → ∃ rec A M', r.recs[e - i]? = some rec ∧ r.ads[q]? = some A ∧ r.mems[q + 1]? = some M' ∧ EffOk T ops rec.fr o A rec.x M'

theorem effOf_ge {T : Tab} : ∀ {todo : List Oper} {i e : Nat}, e ∈ effOf T todo i → i ≤ e
  | [], _, _, h => by simp [effOf] at h
  | o :: todo, i, e, h => by
    unfold effOf at h
    split at h
    · simp only [List.mem_cons] at h
      rcases h with rfl | h
      · omega
      · have := effOf_ge h; omega
    · have := effOf_ge h; omega

theorem effOf_mem {T : Tab} : ∀ {todo : List Oper} {i e : Nat}, e ∈ effOf T todo i ↔ ∃ j o, e = i + j ∧ todo[j]? = some o ∧ cls T o = .eff
  | [], i, e => by simp [effOf]
  | o :: todo, i, e => by
    have ih := @effOf_mem T todo (i + 1) e
    unfold effOf
    split
    · rename_i hc
      simp only [List.mem_cons, ih]
      constructor
      · rintro (rfl | ⟨j, o', rfl, h2, h3⟩)
        · exact ⟨0, o, rfl, by simp, hc⟩
        · exact ⟨j + 1, o', by omega, by simpa using h2, h3⟩
      · rintro ⟨j, o', rfl, h2, h3⟩
        cases j with
        | zero => exact .inl rfl
        | succ j => exact .inr ⟨j, o', by omega, by simpa using h2, h3⟩
    · rename_i hc
      simp only [ih]
      constructor
      · rintro ⟨j, o', rfl, h2, h3⟩
        exact ⟨j + 1, o', by omega, by simpa using h2, h3⟩
      · rintro ⟨j, o', rfl, h2, h3⟩
        cases j with
        | zero => simp at h2; subst h2; exact absurd h3 hc
        | succ j => exact ⟨j, o', by omega, by simpa using h2, h3⟩

theorem effOf_sorted {T : Tab} : ∀ {todo : List Oper} {i : Nat}, (effOf T todo i).Pairwise (· < ·)
  | [], _ => by simp [effOf]
  | o :: todo, i => by
    unfold effOf
    split
    · refine List.pairwise_cons.2 ⟨fun e he => ?_, effOf_sorted⟩
      have := effOf_ge he
      omega
    · exact effOf_sorted

/-- Ids below 'n', no two alike. -/
def FlOk (fl : List Flo) (n : Nat) : Prop := (∀ f ∈ fl, f.id < n) ∧ ∀ f ∈ fl, ∀ g ∈ fl, g.id = f.id → g.row = f.row

theorem adopt_ok {k n : Nat} {fl : List Flo} (h : FlOk fl n) {M : Mem} {f : Flo} (hf : f ∈ fl) (hk : f.hi = k) : (adopt k fl M).get f.id = some f.row :=
  adopt_in k fl M f hf hk fun g hg _ hgi => h.2 f hf g hg hgi

/-- An operation that makes nothing and acts on nothing, ahead of others. -/
theorem PAOk.more {T : Tab} {ops : Array Oper} {ms eff : List Nat} {o : Oper} {todo : List Oper} {i k : Nat} {fr : Tr AV} {M : Mem} {fl : List Flo} {nid : Nat} {x : AV} {r : PA}
    (H : PAOk T ops ms eff todo (i + 1) k (setd fr o.dst x) M fl nid r) (hc : cls T o ≠ .eff) (hr : RecOk T ops (hi ms eff i) nid (nid + countFlt T (o :: todo)) o ⟨fr, x, none, M⟩)
    : PAOk T ops ms eff (o :: todo) i k fr M fl nid { r with recs := ⟨fr, x, none, M⟩ :: r.recs } := by
  have heff : effOf T (o :: todo) i = effOf T todo (i + 1) := by
    unfold effOf
    split
    · rename_i h; exact absurd h hc
    · cases todo <;> rfl
  have hcnt : countFlt T todo ≤ countFlt T (o :: todo) := by
    conv => rhs; unfold countFlt
    split <;> omega
  have hge : ∀ q e, (effOf T todo (i + 1))[q]? = some e → i + 1 ≤ e := fun q e h => effOf_ge (List.mem_of_getElem? h)
  refine ⟨by simp [H.len], by rw [heff]; exact H.lenm, by rw [heff]; exact H.lena, rfl, H.m0, fun j o' hj => ?_, fun j j' ra rb f g h1 h2 h3 h4 h5 => ?_, fun q A hA => ?_, fun q e o' he ho' => ?_⟩
  · cases j with
    | zero =>
      simp only [List.getElem?_cons_zero, Option.some.injEq] at hj
      subst hj
      exact ⟨_, rfl, H.fr0, hr⟩
    | succ j =>
      simp only [List.getElem?_cons_succ] at hj
      obtain ⟨rec, h1, h2, h3⟩ := H.frS j o' hj
      refine ⟨rec, by simpa using h1, h2, ?_⟩
      rw [show i + (j + 1) = i + 1 + j by omega]
      exact h3.wider (Nat.le_refl _) (by omega)
  · cases j with
    | zero => simp at h1; subst h1; cases h3
    | succ j =>
      cases j' with
      | zero => simp at h2; subst h2; cases h4
      | succ j' =>
        simp only [List.getElem?_cons_succ] at h1 h2
        rw [H.uniq j j' ra rb f g h1 h2 h3 h4 h5]
  · obtain ⟨N, g1, g2, g3, g4, g5⟩ := H.ads q A hA
    refine ⟨N, g1, g2, fun b hb1 hb2 => g3 b hb1 fun j rec f h1 h2 h3 => hb2 (j + 1) rec f (by simpa using h1) h2 h3, g4, fun j rec f h1 h2 h3 h4 => ?_⟩
    cases j with
    | zero => simp at h1; subst h1; cases h2
    | succ j =>
      simp only [List.getElem?_cons_succ] at h1
      refine g5 j rec f h1 h2 h3 fun e he => ?_
      rw [heff] at h4
      have := h4 e he
      omega
  · rw [heff] at he
    have h1 := hge q e he
    rw [show e - i = (e - (i + 1)) + 1 by omega] at ho' ⊢
    simp only [List.getElem?_cons_succ] at ho' ⊢
    exact H.effk q e o' he ho'

/-- One order of the operations, as a relation. -/
def Pass (T : Tab) (ops : Array Oper) (ms eff : List Nat) : List Oper → (i k : Nat) → Tr AV → Mem → List Flo → (nid : Nat) → PA → Prop
  | [], _, k, fr, M, fl, _, r => r = { recs := [], mems := [M], ads := [adopt k fl M], fr }
  | o :: todo, i, k, fr, M, fl, nid, r =>
    match cls T o with
    | .eff => ∃ x M' r', EffOk T ops fr o (adopt k fl M) x M' ∧ Pass T ops ms eff todo (i + 1) (k + 1) (setd fr o.dst x) M' fl nid r' ∧
        r = { recs := ⟨fr, x, none, M⟩ :: r'.recs, mems := M :: r'.mems, ads := adopt k fl M :: r'.ads, fr := r'.fr }
    | .flt => (wantedA ops fr o = some true ∧ ∃ x row r', evFl T fr o nid = some (x, row) ∧ Pass T ops ms eff todo (i + 1) k (setd fr o.dst x) M (⟨hi ms eff i, nid, row⟩ :: fl) (nid + 1) r' ∧
          r = { r' with recs := ⟨fr, x, some ⟨hi ms eff i, nid, row⟩, M⟩ :: r'.recs }) ∨
        (wantedA ops fr o = some false ∧ ∃ r', Pass T ops ms eff todo (i + 1) k (setd fr o.dst undefA) M fl nid r' ∧ r = { r' with recs := ⟨fr, undefA, none, M⟩ :: r'.recs })
    | _ => ∃ x r', ((wantedA ops fr o = some false ∧ x = undefA) ∨ (wantedA ops fr o = some true ∧ ∃ M', evalOp T fr o M = some (x, M'))) ∧
        Pass T ops ms eff todo (i + 1) k (setd fr o.dst x) M fl nid r' ∧ r = { r' with recs := ⟨fr, x, none, M⟩ :: r'.recs }

theorem passA_pass {T : Tab} {call : CallF} (hcall : CallsOk T call) {ops : Array Oper} {ms eff : List Nat} :
    ∀ {todo : List Oper} {i k : Nat} {fr : Tr AV} {M : Mem} {fl : List Flo} {nid : Nat} {r : PA}, passA T call ops ms eff todo i k fr M fl nid = some r → Pass T ops ms eff todo i k fr M fl nid r
  | [], i, k, fr, M, fl, nid, r, h => by
    simp only [passA, Option.some.injEq] at h
    exact h.symm
  | o :: todo, i, k, fr, M, fl, nid, r, h => by
    unfold passA at h
    unfold Pass
    cases hw : wantedA ops fr o with
    | none => rw [hw] at h; simp at h
    | some wnt =>
      rw [hw] at h
      simp only at h
      have other : (match (cond wnt ((evalOp T fr o M).map (·.1)) (some undefA)) with
          | none => none
          | some x => (passA T call ops ms eff todo (i + 1) k (setd fr o.dst x) M fl nid).map fun r => { r with recs := ⟨fr, x, none, M⟩ :: r.recs }) = some r →
          ∃ x r', ((some wnt = some false ∧ x = undefA) ∨ (some wnt = some true ∧ ∃ M', evalOp T fr o M = some (x, M'))) ∧
            Pass T ops ms eff todo (i + 1) k (setd fr o.dst x) M fl nid r' ∧ r = { r' with recs := ⟨fr, x, none, M⟩ :: r'.recs } := by
        intro h
        split at h
        · cases h
        · rename_i x hx
          obtain ⟨r', hr', rfl⟩ := Option.map_eq_some_iff.1 h
          refine ⟨x, r', ?_, passA_pass hcall hr', rfl⟩
          cases wnt with
          | true =>
            rw [cond_true] at hx
            obtain ⟨⟨y, M'⟩, hy, rfl⟩ := Option.map_eq_some_iff.1 hx
            exact .inr ⟨rfl, M', hy⟩
          | false =>
            rw [cond_false] at hx
            injection hx with hx
            exact .inl ⟨rfl, hx.symm⟩
      cases hc : cls T o with
      | pure => rw [hc] at h; exact other h
      | read => rw [hc] at h; exact other h
      | flt =>
        rw [hc] at h
        simp only at h ⊢
        cases wnt with
        | false =>
          rw [cond_false] at h
          obtain ⟨r', hr', rfl⟩ := Option.map_eq_some_iff.1 h
          exact .inr ⟨rfl, r', passA_pass hcall hr', rfl⟩
        | true =>
          rw [cond_true] at h
          split at h
          · cases h
          · rename_i x row hx
            obtain ⟨r', hr', rfl⟩ := Option.map_eq_some_iff.1 h
            exact .inl ⟨rfl, x, row, r', hx, passA_pass hcall hr', rfl⟩
      | eff =>
        rw [hc] at h
        simp only at h ⊢
        split at h
        · cases h
        · rename_i x M' hx
          obtain ⟨r', hr', rfl⟩ := Option.map_eq_some_iff.1 h
          refine ⟨x, M', r', ?_, passA_pass hcall hr', rfl⟩
          cases wnt with
          | false =>
            rw [cond_false] at hx
            injection hx with hx
            injection hx with hx1 hx2
            exact .inl ⟨hw, hx1.symm, hx2.symm⟩
          | true =>
            rw [cond_true] at hx
            refine .inr ⟨hw, ?_⟩
            unfold evEff at hx
            split at hx
            · rename_i g args hcal
              split at hx
              · rename_i F hF
                exact .inr ⟨g, args, F, hcal, hF, hcall g F args _ x M' hF hx⟩
              · cases hx
            · exact .inl hx

theorem pass_ok {T : Tab} {ops : Array Oper} {ms eff : List Nat} :
    ∀ {todo : List Oper} {i k : Nat} {fr : Tr AV} {M : Mem} {fl : List Flo} {nid : Nat} {r : PA}, FlOk fl nid → (∀ f ∈ fl, True) →
      Pass T ops ms eff todo i k fr M fl nid r → PAOk T ops ms eff todo i k fr M fl nid r
  | [], i, k, fr, M, fl, nid, r, hfl, _, h => by
    unfold Pass at h
    subst h
    refine ⟨rfl, rfl, rfl, rfl, rfl, fun j o hj => by simp at hj, fun j j' ra rb f g h1 => by simp at h1, fun q A hA => ?_, fun q e o he => by simp [effOf] at he⟩
    cases q with
    | succ q => simp at hA
    | zero =>
      simp only [List.getElem?_cons_zero, Option.some.injEq] at hA
      subst hA
      exact ⟨M, rfl, adopt_next _ _ _, fun b hb _ => adopt_out _ _ _ _ hb, fun f hf hk => adopt_ok hfl hf hk, fun j rec f h1 => by simp at h1⟩
  | o :: todo, i, k, fr, M, fl, nid, r, hfl, _, h => by
    unfold Pass at h
    have other : cls T o ≠ .eff → cls T o ≠ .flt → (∃ x r', ((wantedA ops fr o = some false ∧ x = undefA) ∨ (wantedA ops fr o = some true ∧ ∃ M', evalOp T fr o M = some (x, M'))) ∧
        Pass T ops ms eff todo (i + 1) k (setd fr o.dst x) M fl nid r' ∧ r = { r' with recs := ⟨fr, x, none, M⟩ :: r'.recs }) →
        PAOk T ops ms eff (o :: todo) i k fr M fl nid r := by
      rintro hc1 hc2 ⟨x, r', hx, hr', rfl⟩
      refine (pass_ok hfl (fun _ _ => trivial) hr').more hc1 ?_
      unfold RecOk
      split
      · rename_i q; exact absurd q hc1
      · rename_i q; exact absurd q hc2
      · refine ⟨rfl, ?_⟩
        rcases hx with hx | ⟨hx1, M', hx2⟩
        · exact .inl hx
        · exact .inr ⟨hx1, M, M', hx2⟩
    cases hc : cls T o with
    | pure => rw [hc] at h other; exact other (by simp) (by simp) h
    | read => rw [hc] at h other; exact other (by simp) (by simp) h
    | flt =>
      rw [hc] at h
      simp only at h
      have hcnt : countFlt T (o :: todo) = countFlt T todo + 1 := by
        conv => lhs; unfold countFlt
        rw [hc]
      rcases h with ⟨hw, x, row, r', hx, hr', rfl⟩ | ⟨hw, r', hr', rfl⟩
      rotate_left
      · refine (pass_ok hfl (fun _ _ => trivial) hr').more (by rw [hc]; simp) ?_
        unfold RecOk
        rw [hc]
        exact .inl ⟨hw, rfl, rfl⟩
      have hfl' : FlOk (⟨hi ms eff i, nid, row⟩ :: fl) (nid + 1) := by
        refine ⟨fun f hf => ?_, fun f hf g hg he => ?_⟩
        · simp only [List.mem_cons] at hf
          rcases hf with rfl | hf
          · simp
          · have := hfl.1 f hf; omega
        · simp only [List.mem_cons] at hf hg
          rcases hf with rfl | hf <;> rcases hg with rfl | hg
          · rfl
          · have := hfl.1 g hg; simp only at he; omega
          · have := hfl.1 f hf; simp only at he; omega
          · exact hfl.2 f hf g hg he
      have H := pass_ok hfl' (fun _ _ => trivial) hr'
      have heff : effOf T (o :: todo) i = effOf T todo (i + 1) := by
        conv => lhs; unfold effOf
        rw [hc]
      have hge : ∀ q e, (effOf T todo (i + 1))[q]? = some e → i + 1 ≤ e := fun q e h => effOf_ge (List.mem_of_getElem? h)
      refine ⟨by simp [H.len], by rw [heff]; exact H.lenm, by rw [heff]; exact H.lena, rfl, H.m0, fun j o' hj => ?_, fun j j' ra rb f g h1 h2 h3 h4 h5 => ?_, fun q A hA => ?_, fun q e o' he ho' => ?_⟩
      · cases j with
        | zero =>
          simp only [List.getElem?_cons_zero, Option.some.injEq] at hj
          subst hj
          refine ⟨_, rfl, H.fr0, ?_⟩
          unfold RecOk
          rw [hc]
          exact .inr ⟨hw, nid, row, rfl, hx, Nat.le_refl _, by omega⟩
        | succ j =>
          simp only [List.getElem?_cons_succ] at hj
          obtain ⟨rec, h1, h2, h3⟩ := H.frS j o' hj
          refine ⟨rec, by simpa using h1, h2, ?_⟩
          rw [show i + (j + 1) = i + 1 + j by omega]
          exact h3.wider (by omega) (by omega)
      · have hnew : ∀ (j : Nat) (rec : Rec) (f : Flo), r'.recs[j]? = some rec → rec.flo = some f → nid + 1 ≤ f.id := fun j rec f h1 h2 => by
          have hlt : j < todo.length := by
            rw [← H.len]
            rcases Nat.lt_or_ge j r'.recs.length with h | h
            · exact h
            · rw [List.getElem?_eq_none h] at h1; cases h1
          obtain ⟨rec', g1, _, g3⟩ := H.frS j todo[j] (by simp [hlt])
          rw [h1] at g1; injection g1 with g1; subst g1
          exact (g3.flo h2).2.2.1
        cases j with
        | zero =>
          simp at h1; subst h1
          simp only [Option.some.injEq] at h3
          subst h3
          cases j' with
          | zero => rfl
          | succ j' =>
            simp only [List.getElem?_cons_succ] at h2
            have := hnew j' rb g h2 h4
            simp only at h5
            omega
        | succ j =>
          simp only [List.getElem?_cons_succ] at h1
          cases j' with
          | zero =>
            simp at h2; subst h2
            simp only [Option.some.injEq] at h4
            subst h4
            have := hnew j ra f h1 h3
            simp only at h5
            omega
          | succ j' =>
            simp only [List.getElem?_cons_succ] at h2
            rw [H.uniq j j' ra rb f g h1 h2 h3 h4 h5]
      · obtain ⟨N, g1, g2, g3, g4, g5⟩ := H.ads q A hA
        refine ⟨N, g1, g2, fun b hb1 hb2 => g3 b (fun f hf hk => ?_) fun j rec f h1 h2 h3 => hb2 (j + 1) rec f (by simpa using h1) h2 h3, fun f hf hk => g4 f (by simp [hf]) hk, fun j rec f h1 h2 h3 h4 => ?_⟩
        · simp only [List.mem_cons] at hf
          rcases hf with rfl | hf
          · exact hb2 0 _ _ rfl rfl hk
          · exact hb1 f hf hk
        · cases j with
          | zero =>
            simp at h1; subst h1
            simp only [Option.some.injEq] at h2
            subst h2
            exact g4 _ (by simp) h3
          | succ j =>
            simp only [List.getElem?_cons_succ] at h1
            refine g5 j rec f h1 h2 h3 fun e he => ?_
            rw [heff] at h4
            have := h4 e he
            omega
      · rw [heff] at he
        have h1 := hge q e he
        rw [show e - i = (e - (i + 1)) + 1 by omega] at ho' ⊢
        simp only [List.getElem?_cons_succ] at ho' ⊢
        exact H.effk q e o' he ho'
    | eff =>
      rw [hc] at h
      simp only at h
      obtain ⟨x, M', r', hx, hr', rfl⟩ := h
      have H := pass_ok hfl (fun _ _ => trivial) hr'
      have heff : effOf T (o :: todo) i = i :: effOf T todo (i + 1) := by
        conv => lhs; unfold effOf
        rw [hc]
      have hcnt : countFlt T (o :: todo) = countFlt T todo := by
        conv => lhs; unfold countFlt
        rw [hc]
      have hge : ∀ q e, (effOf T todo (i + 1))[q]? = some e → i + 1 ≤ e := fun q e h => effOf_ge (List.mem_of_getElem? h)
      refine ⟨by simp [H.len], by rw [heff]; simp [H.lenm], by rw [heff]; simp [H.lena], rfl, rfl, fun j o' hj => ?_, fun j j' ra rb f g h1 h2 h3 h4 h5 => ?_, fun q A hA => ?_, fun q e o' he ho' => ?_⟩
      · cases j with
        | zero =>
          simp only [List.getElem?_cons_zero, Option.some.injEq] at hj
          subst hj
          refine ⟨_, rfl, H.fr0, ?_⟩
          unfold RecOk
          rw [hc]
        | succ j =>
          simp only [List.getElem?_cons_succ] at hj
          obtain ⟨rec, h1, h2, h3⟩ := H.frS j o' hj
          refine ⟨rec, by simpa using h1, h2, ?_⟩
          rw [show i + (j + 1) = i + 1 + j by omega]
          exact h3.wider (Nat.le_refl _) (by omega)
      · cases j with
        | zero => simp at h1; subst h1; cases h3
        | succ j =>
          cases j' with
          | zero => simp at h2; subst h2; cases h4
          | succ j' =>
            simp only [List.getElem?_cons_succ] at h1 h2
            rw [H.uniq j j' ra rb f g h1 h2 h3 h4 h5]
      · cases q with
        | zero =>
          simp only [List.getElem?_cons_zero, Option.some.injEq] at hA
          subst hA
          refine ⟨M, rfl, adopt_next _ _ _, fun b hb _ => adopt_out _ _ _ _ hb, fun f hf hk => adopt_ok hfl hf hk, fun j rec f h1 h2 h3 h4 => ?_⟩
          have := h4 i (by rw [heff]; rfl)
          omega
        | succ q =>
          simp only [List.getElem?_cons_succ] at hA
          obtain ⟨N, g1, g2, g3, g4, g5⟩ := H.ads q A hA
          have hkq : k + (q + 1) = k + 1 + q := by omega
          rw [hkq]
          refine ⟨N, by simpa using g1, g2, fun b hb1 hb2 => g3 b hb1 fun j rec f h1 h2 h3 => hb2 (j + 1) rec f (by simpa using h1) h2 h3, g4, fun j rec f h1 h2 h3 h4 => ?_⟩
          cases j with
          | zero => simp at h1; subst h1; cases h2
          | succ j =>
            simp only [List.getElem?_cons_succ] at h1
            refine g5 j rec f h1 h2 h3 fun e he => ?_
            rw [heff] at h4
            have := h4 e (by simpa using he)
            omega
      · rw [heff] at he
        cases q with
        | zero =>
          simp only [List.getElem?_cons_zero, Option.some.injEq] at he
          subst he
          rw [Nat.sub_self] at ho' ⊢
          simp only [List.getElem?_cons_zero, Option.some.injEq] at ho'
          subst ho'
          exact ⟨_, _, M', rfl, rfl, by simpa using H.m0, hx⟩
        | succ q =>
          simp only [List.getElem?_cons_succ] at he
          have h1 := hge q e he
          rw [show e - i = (e - (i + 1)) + 1 by omega] at ho' ⊢
          simp only [List.getElem?_cons_succ] at ho' ⊢
          exact H.effk q e o' he ho'

end Go.AM
