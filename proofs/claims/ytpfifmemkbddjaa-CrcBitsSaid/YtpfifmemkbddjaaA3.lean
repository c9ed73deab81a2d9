/- The abstract machine, part 3: the operations, one by one, and that the model does what they say. -/
import Derived.Test.YtpfifmemkbddjaaA2
import Derived.Laws.Entries
set_option linter.unusedVariables false
set_option linter.unusedSimpArgs false
namespace Go.AM

/-- An effect of the model comes to an abstract value and a step of the memory. -/
def VS (P : Program) (ι : Inj) (M : Mem) (w : World) (s : Sem Value) (x : AV) (M' : Mem) : Prop :=
  ∃ ι' w' v, s.run P w = .ok v w' ∧ VR ι' x v ∧ Stp ι M w ι' M' w'

section types
variable {T : Tab} (ok : T.Ok) {t : TypeId} {ti : TI} (h : T.ty.get t = some ti) {w : World}
include ok h

theorem ty_zcells : ti.zv.cells.toList = ti.zero := by
  have h2 := (ok.ty t ti h).2.1.2
  cases hg : ti.isAgg with
  | true => simp [TI.zv, hg, Value.cells]
  | false =>
    obtain ⟨h3, h4⟩ := h2 hg
    obtain ⟨z, hz⟩ := List.length_eq_one_iff.1 h3
    unfold TI.zv at h4 ⊢
    rw [hg, hz] at h4 ⊢
    simp only at h4 ⊢
    cases z <;> first | rfl | (simp [Value.uno] at h4)

theorem ty_info : ∃ i, T.P.info? t = some i ∧ i.size = ti.size ∧ i.bytes = ti.bytes ∧ ∃ z, i.zero = some z ∧ z.cells.toList = ti.zero ∧ z = ti.zv := by
  obtain ⟨i, hi, he⟩ := Option.map_eq_some_iff.1 (ok.ty t ti h).1
  injection he with h1 h2
  injection h2 with h2 h3
  exact ⟨i, hi, h1, h2, _, h3, ty_zcells ok h, rfl⟩

theorem ty_len : ti.zero.length = ti.size := (ok.ty t ti h).2.1.1

theorem ty_under : ∃ d, T.P.underlying t = some d ∧ (underlying t).run T.P w = .ok d w ∧ KindOk T.P d ti.k := by
  obtain ⟨d, hd, hk⟩ := (ok.ty t ti h).2.2.1
  exact ⟨d, hd, run_underlying hd w, hk⟩

theorem ty_typeInfo : ∃ i, (typeInfo t).run T.P w = .ok i w ∧ i.size = ti.size ∧ i.bytes = ti.bytes ∧ ∃ z, i.zero = some z ∧ z.cells.toList = ti.zero ∧ z = ti.zv := by
  obtain ⟨i, hi, r⟩ := ty_info ok h
  exact ⟨i, by simp [typeInfo, hi], r⟩

theorem ty_size : (sizeOf t).run T.P w = .ok ti.size w := by
  obtain ⟨i, hi, hs, _⟩ := ty_typeInfo ok h (w := w)
  simp [sizeOf, hi, hs]

theorem ty_zv : (zeroValue t).run T.P w = .ok ti.zv w := by
  obtain ⟨i, hi, _, _, z, hz, hz2, hz3⟩ := ty_typeInfo ok h (w := w)
  subst hz3
  simp [zeroValue, hi, hz]

theorem ty_zero : ∃ z, (zeroValue t).run T.P w = .ok z w ∧ z.cells.toList = ti.zero := ⟨_, ty_zv ok h, ty_zcells ok h⟩

theorem ty_isAgg : (isAgg t).run T.P w = .ok ti.isAgg w := by
  obtain ⟨d, hd, hr, hk⟩ := ty_under ok h (w := w)
  unfold isAgg
  simp only [Sem.run_bind, hr, Result.andThen_ok]
  unfold TI.isAgg
  revert hk
  generalize ti.k = k
  intro hk
  cases d <;> cases k <;> first | rfl | exact hk.elim

theorem ty_sli {e : Nat} (hk : ti.k = .sli e) : (underlying t).run T.P w = .ok (.slice e) w := by
  obtain ⟨d, hd, hr, hk2⟩ := ty_under ok h (w := w)
  rw [hk] at hk2
  cases d <;> first | exact hk2.elim | (have : _ = _ := hk2; subst this; exact hr)

theorem ty_ar {n e : Nat} (hk : ti.k = .ar n e) : (underlying t).run T.P w = .ok (.array n e) w := by
  obtain ⟨d, hd, hr, hk2⟩ := ty_under ok h (w := w)
  rw [hk] at hk2
  cases d <;> first | exact hk2.elim | (obtain ⟨h1, h2⟩ := hk2; subst h1; subst h2; exact hr)

theorem ty_mp {n e : Nat} (hk : ti.k = .mp n e) : (underlying t).run T.P w = .ok (.map n e) w := by
  obtain ⟨d, hd, hr, hk2⟩ := ty_under ok h (w := w)
  rw [hk] at hk2
  cases d <;> first | exact hk2.elim | (obtain ⟨h1, h2⟩ := hk2; subst h1; subst h2; exact hr)

theorem ty_pt {e : Nat} (hk : ti.k = .pt e) : (underlying t).run T.P w = .ok (.pointer e) w := by
  obtain ⟨d, hd, hr, hk2⟩ := ty_under ok h (w := w)
  rw [hk] at hk2
  cases d <;> first | exact hk2.elim | (have : _ = _ := hk2; subst this; exact hr)

theorem ty_str (hk : ti.k = .str) : (underlying t).run T.P w = .ok .string w := by
  obtain ⟨d, hd, hr, hk2⟩ := ty_under ok h (w := w)
  rw [hk] at hk2
  cases d <;> first | exact hk2.elim | exact hr

theorem ty_bool (hk : ti.k = .bool) : (underlying t).run T.P w = .ok .bool w := by
  obtain ⟨d, hd, hr, hk2⟩ := ty_under ok h (w := w)
  rw [hk] at hk2
  cases d <;> first | exact hk2.elim | exact hr

theorem ty_int {k : IntKind} (hk : ti.k = .int k) : (underlying t).run T.P w = .ok (.int k) w := by
  obtain ⟨d, hd, hr, hk2⟩ := ty_under ok h (w := w)
  rw [hk] at hk2
  cases d <;> first | exact hk2.elim | (have : _ = _ := hk2; subst this; exact hr)

theorem ty_st {l : List (Nat × Nat × Bool)} (hk : ti.k = .st l) : ∃ fs, (underlying t).run T.P w = .ok (.struct fs) w ∧ FieldsOk T.P fs.toList l := by
  obtain ⟨d, hd, hr, hk2⟩ := ty_under ok h (w := w)
  rw [hk] at hk2
  cases d <;> first | exact hk2.elim | exact ⟨_, hr, hk2⟩
end types

theorem FieldsOk.get {P : Program} : ∀ {fs : List Field} {l : List (Nat × Nat × Bool)}, FieldsOk P fs l → ∀ (i : Nat) (o s : Nat) (a : Bool), l[i]? = some (o, s, a) →
    ∃ f, fs[i]? = some f ∧ f.offset = o ∧ (∀ w, (sizeOf f.type).run P w = .ok s w) ∧ (∀ w, (isAgg f.type).run P w = .ok a w)
  | [], [], _, i, o, s, a, h => by simp at h
  | f :: fs, (o', s', a') :: l, ⟨h1, ⟨b, h2⟩, ⟨d, hd, ha⟩, hr⟩, 0, o, s, a, h => by
    simp only [List.getElem?_cons_zero, Option.some.injEq, Prod.mk.injEq] at h
    obtain ⟨rfl, rfl, rfl⟩ := h
    unfold infoOf at h2
    obtain ⟨i, hi, he⟩ := Option.map_eq_some_iff.1 h2
    injection he with h3 _
    refine ⟨f, by simp, h1, fun w => by simp [sizeOf, typeInfo, hi, h3], fun w => ?_⟩
    unfold isAgg
    simp only [Sem.run_bind, run_underlying hd w, Result.andThen_ok]
    subst ha
    cases d <;> rfl
  | f :: fs, (o', s', a') :: l, ⟨_, _, _, hr⟩, i + 1, o, s, a, h => by
    simp only [List.getElem?_cons_succ] at h
    simpa using FieldsOk.get hr i o s a h
  | [], _ :: _, h, _, _, _, _, _ => h.elim
  | _ :: _, [], h, _, _, _, _, _ => h.elim

/-! ## What makes a block -/

theorem VS.newRow {P : Program} {ι : Inj} {M : Mem} {w : World} (R : Rel ι M w) {e : TypeId} {cs : List AV} {vs : Array Value} (h : VRs ι cs vs.toList) :
    ∃ ι' w', (newRow e vs).run P w = .ok ⟨w.heap.size, 0, none⟩ w' ∧ ι' M.next = some ⟨w.heap.size, 0, vs.size⟩ ∧ Stp ι M w ι' (M.new (.cells cs true)) w' := by
  have hs := Stp.alloc R (.cells cs true) (.cells vs e (0, 0)) ⟨w.heap.size, 0, vs.size⟩ rfl (by
    refine ⟨rfl, ?_, ?_, fun _ k _ => by omega⟩
    · have := h.length; simp at this; simp; omega
    · have hext : Ext ι (fun b => if b = M.next then some ⟨w.heap.size, 0, vs.size⟩ else ι b) := fun b l' hb => by
        have := R.dom b l' hb
        have hne : ¬ (b = M.next) := by omega
        simp [hne, hb]
      have := h.length
      rw [List.drop_zero, List.take_of_length_le (by omega)]
      exact h.mono hext)
  exact ⟨_, _, by simp [Go.newRow], by simp, hs⟩

def evAlloc (T : Tab) (t : TypeId) (M : Mem) : Option (AV × Mem) :=
  match T.ty.get t with
  | some ti => some (.ptr M.next 0, M.new (.cells (ofVs ti.zero) true))
  | none => none

theorem evAlloc_ok {T : Tab} (ok : T.Ok) {t : TypeId} {ι : Inj} {M M' : Mem} {w : World} {x : AV} (R : Rel ι M w) (h : evAlloc T t M = some (x, M')) :
    VS T.P ι M w (Instr.alloc t true (.tuple #[])) x M' := by
  unfold evAlloc at h
  split at h
  · rename_i ti ht
    injection h with h; injection h with h1 h2; subst h1; subst h2
    obtain ⟨z, hz, hz2⟩ := ty_zero ok ht (w := w)
    obtain ⟨ι', w', hr, hl, hs⟩ := VS.newRow (P := T.P) R (e := t) (cs := ofVs ti.zero) (vs := z.cells) (by rw [hz2]; exact VRs.ofVs ι _)
    refine ⟨ι', w', _, ?_, .ptr M.next 0 _ hl, hs⟩
    simp [Instr.alloc, hz, newVar, hr]
  · simp at h

theorem evBox_ok {P : Program} {t : TypeId} {ι : Inj} {M : Mem} {w : World} {x : AV} {v : Value} (R : Rel ι M w) (hx : VR ι x v) :
    VS P ι M w (Instr.box t v) (.ptr M.next 0) (M.new (.cells x.cells true)) := by
  obtain ⟨ι', w', hr, hl, hs⟩ := VS.newRow (P := P) R (e := t) hx.cells
  exact ⟨ι', w', _, by simp [Instr.box, newVar, hr], .ptr M.next 0 _ hl, hs⟩

/-! ## Loads and stores -/

def evLoad (T : Tab) (t : TypeId) (a : AV) (M : Mem) : Option AV :=
  match a with
  | .ptr b o =>
    match T.ty.get t with
    | some ti => cond ti.isAgg ((M.cellsAt b o ti.size).map .agg) (M.cellAt b o)
    | none => none
  | _ => none

theorem evLoad_ok {T : Tab} (ok : T.Ok) {t : TypeId} {ι : Inj} {M : Mem} {w : World} {a x : AV} {v : Value} (R : Rel ι M w) (ha : VR ι a v) (h : evLoad T t a M = some x) :
    VS T.P ι M w (Instr.loadAt t v) x M := by
  unfold evLoad at h
  split at h
  · rename_i b o
    cases ha with
    | ptr _ _ l hl =>
      split at h
      · rename_i ti ht
        cases hagg : ti.isAgg with
        | true =>
          rw [hagg] at h
          obtain ⟨xs, hx, rfl⟩ := Option.map_eq_some_iff.1 h
          obtain ⟨vs, h1, h2, h3⟩ := R.loadCells (P := T.P) hx hl
          exact ⟨ι, w, _, by simp [Instr.loadAt, Instr.sureAddr, loadVar, ty_isAgg ok ht, hagg, ty_size ok ht, h3], .agg _ _ h1, Stp.refl R⟩
        | false =>
          rw [hagg] at h
          obtain ⟨u, h1, h2⟩ := R.cell h hl
          exact ⟨ι, w, u, by simp [Instr.loadAt, Instr.sureAddr, loadVar, ty_isAgg ok ht, hagg, h1], h2, Stp.refl R⟩
      · simp at h
  · simp at h

def evStore (T : Tab) (t : TypeId) (a x : AV) (M : Mem) : Option Mem :=
  match a with
  | .ptr b o =>
    match T.ty.get t with
    | some ti => cond (Nat.beq x.cells.length ti.size) (M.storeAt b o x.cells) none
    | none => none
  | _ => none

theorem evStore_ok {T : Tab} (ok : T.Ok) {t : TypeId} {ι : Inj} {M M' : Mem} {w : World} {a x : AV} {v u : Value} (R : Rel ι M w) (ha : VR ι a v) (hx : VR ι x u) (h : evStore T t a x M = some M') :
    ∃ w', (Instr.storeAt t v u).run T.P w = .ok () w' ∧ Stp ι M w ι M' w' := by
  unfold evStore at h
  split at h
  · rename_i b o
    cases ha with
    | ptr _ _ l hl =>
      split at h
      · rename_i ti ht
        rw [cond_eq_ite] at h
        split at h
        · rename_i hs
          have hs : x.cells.length = ti.size := Nat.eq_of_beq_eq_true hs
          obtain ⟨w', h1, h2⟩ := R.store (P := T.P) h hl hx.cells
          have hlen := hx.cells.length
          have hne : ¬ (u.cells.size ≠ ti.size) := by
            simp only [Array.length_toList] at hlen
            omega
          refine ⟨w', ?_, h2⟩
          simp only [Instr.storeAt, Instr.sureAddr, storeVar, Sem.run_bind, Sem.run_pure, Result.andThen_ok, ty_size ok ht, if_neg hne]
          exact h1
        · simp at h
      · simp at h
  · simp at h

/-! ## Addresses and parts -/

def evFieldAddr (T : Tab) (t : TypeId) (a : AV) (f : Nat) : Option AV :=
  match a with
  | .ptr b o =>
    match T.ty.get t with
    | some ti =>
      match ti.k with
      | .st fs =>
        match fs[f]? with
        | some (off, s, _) => cond (Nat.beq s 0) none (some (.ptr b (o + off)))
        | none => none
      | _ => none
    | none => none
  | _ => none

theorem evFieldAddr_ok {T : Tab} (ok : T.Ok) {t : TypeId} {ι : Inj} {M : Mem} {w : World} {a x : AV} {v : Value} {f : Nat} (R : Rel ι M w) (ha : VR ι a v) (h : evFieldAddr T t a f = some x) :
    VS T.P ι M w (Instr.fieldAt t v f) x M := by
  unfold evFieldAddr at h
  split at h
  · rename_i b o
    cases ha with
    | ptr _ _ l hl =>
      split at h
      · rename_i ti ht
        split at h
        · rename_i fs hk
          split at h
          · rename_i off s ag hf
            rw [cond_eq_ite] at h
            split at h
            · simp at h
            · rename_i hs
              injection h with h; subst h
              have hs : ¬ s = 0 := fun he => hs (by rw [he]; rfl)
              obtain ⟨fields, hr, hfo⟩ := ty_st ok ht hk (w := w)
              obtain ⟨g, hg, ho, hsz, _⟩ := hfo.get f off s ag hf
              refine ⟨ι, w, _, ?_, .ptr b (o + off) l hl, Stp.refl R⟩
              have hg' : fields[f]? = some g := by simpa using hg
              simp [Instr.fieldAt, hr, hg', Instr.sureAddr, fieldPlace, hsz, hs, add_none, ho, Nat.add_assoc]
          · simp at h
        · simp at h
      · simp at h
  · simp at h

def evField (T : Tab) (t : TypeId) (x : AV) (f : Nat) : Option AV :=
  match x with
  | .agg cs =>
    match T.ty.get t with
    | some ti =>
      match ti.k with
      | .st fs =>
        match fs[f]? with
        | some (off, s, a) => cond a (some (.agg ((cs.drop off).take s))) cs[off]?
        | none => none
      | _ => none
    | none => none
  | _ => none

theorem extract_list {α : Type} (a : Array α) (i j : Nat) : (a.extract i j).toList = (a.toList.drop i).take (j - i) := by
  simp [List.extract_eq_take_drop]

theorem evField_ok {T : Tab} (ok : T.Ok) {t : TypeId} {ι : Inj} {M : Mem} {w : World} {x y : AV} {v : Value} {f : Nat} (R : Rel ι M w) (hx : VR ι x v) (h : evField T t x f = some y) :
    VS T.P ι M w (Instr.field t v f) y M := by
  unfold evField at h
  split at h
  · rename_i cs
    cases hx with
    | agg _ vs hvs =>
      split at h
      · rename_i ti ht
        split at h
        · rename_i fs hk
          split at h
          · rename_i off s ag hf
            obtain ⟨fields, hr, hfo⟩ := ty_st ok ht hk (w := w)
            obtain ⟨g, hg, ho, hsz, hag⟩ := hfo.get f off s ag hf
            have hg' : fields[f]? = some g := by simpa using hg
            cases ag with
            | true =>
              injection h with h; subst h
              refine ⟨ι, w, .agg (vs.extract off (off + s)), ?_, .agg _ _ ?_, Stp.refl R⟩
              · simp [Instr.field, hr, hg', asAgg, part, hag, hsz, ho]
              · rw [extract_list, show off + s - off = s by omega]
                exact (hvs.drop off).take s
            | false =>
              obtain ⟨u, hu, hvu⟩ := hvs.get off y h
              refine ⟨ι, w, u, ?_, hvu, Stp.refl R⟩
              have hu' : vs[off]? = some u := by simpa using hu
              simp [Instr.field, hr, hg', asAgg, part, hag, ho, hu']
          · simp at h
        · simp at h
      · simp at h
  · simp at h

def evIndexAddr (T : Tab) (t : TypeId) (x i : AV) : Option AV :=
  match T.ty.get t, i with
  | some ti, .val (.int _ n) =>
    match ti.k, x with
    | .sli e, .sl b o len _ _ =>
      match T.ty.get e with
      | some te => cond (decide (0 ≤ n)) (cond (Nat.blt n.toNat len) (some (.ptr b (o + n.toNat * te.size))) none) none
      | none => none
    | .ar k e, .ptr b o =>
      match T.ty.get e with
      | some te => cond (decide (0 ≤ n)) (cond (Nat.blt n.toNat k) (some (.ptr b (o + n.toNat * te.size))) none) none
      | none => none
    | _, _ => none
  | _, _ => none

theorem evIndexAddr_ok {T : Tab} (ok : T.Ok) {t : TypeId} {ι : Inj} {M : Mem} {w : World} {x i y : AV} {v u : Value} (R : Rel ι M w) (hx : VR ι x v) (hi : VR ι i u) (h : evIndexAddr T t x i = some y) :
    VS T.P ι M w (Instr.indexAt t v u) y M := by
  unfold evIndexAddr at h
  split at h
  · rename_i ti k n ht
    cases hi
    split at h
    · rename_i e b o len c ex hk
      split at h
      · rename_i te hte
        simp only [cond_eq_ite, decide_eq_true_eq] at h
        split at h
        · rename_i h0
          split at h
          · rename_i h1
            have h1 : n.toNat < len := Nat.le_of_ble_eq_true h1
            injection h with h; subst h
            have hcond : 0 ≤ n ∧ n < (len : Int) := ⟨h0, by omega⟩
            cases hx with
            | slE _ _ _ _ l hl =>
              exact ⟨ι, w, _, by simp [Instr.indexAt, asIntOf, ty_sli ok ht hk, hcond, ty_size ok hte, add_none, Nat.add_assoc], .ptr b _ l hl, Stp.refl R⟩
            | slI _ _ _ _ _ _ l hl hc hs =>
              exact ⟨ι, w, _, by simp [Instr.indexAt, asIntOf, ty_sli ok ht hk, hcond, ty_size ok hte, add_none, Nat.add_assoc], .ptr b _ l hl, Stp.refl R⟩
            | slZ => omega
          · simp at h
        · simp at h
      · simp at h
    · rename_i m e b o hk
      split at h
      · rename_i te hte
        simp only [cond_eq_ite, decide_eq_true_eq] at h
        split at h
        · rename_i h0
          split at h
          · rename_i h1
            have h1 : n.toNat < m := Nat.le_of_ble_eq_true h1
            injection h with h; subst h
            have hcond : 0 ≤ n ∧ n < (m : Int) := ⟨h0, by omega⟩
            cases hx with
            | ptr _ _ l hl =>
              exact ⟨ι, w, _, by simp [Instr.indexAt, Instr.sureAddr, asIntOf, ty_ar ok ht hk, hcond, ty_size ok hte, add_none, Nat.add_assoc], .ptr b _ l hl, Stp.refl R⟩
          · simp at h
        · simp at h
      · simp at h
    · simp at h
  · simp at h

def evIndex (T : Tab) (t : TypeId) (x i : AV) : Option AV :=
  match T.ty.get t, i with
  | some ti, .val (.int _ n) =>
    cond (decide (0 ≤ n))
      (match ti.k, x with
      | .str, .val (.string s) => (s[n.toNat]?).map fun b => .val (.int .u8 b.toNat)
      | .ar k e, .agg cs =>
        match T.ty.get e with
        | some te => cond (Nat.blt n.toNat k) (cond te.isAgg (some (.agg ((cs.drop (n.toNat * te.size)).take te.size))) cs[n.toNat * te.size]?) none
        | none => none
      | _, _ => none) none
  | _, _ => none

theorem evIndex_ok {T : Tab} (ok : T.Ok) {t : TypeId} {ι : Inj} {M : Mem} {w : World} {x i y : AV} {v u : Value} (R : Rel ι M w) (hx : VR ι x v) (hi : VR ι i u) (h : evIndex T t x i = some y) :
    VS T.P ι M w (Instr.index t v u) y M := by
  unfold evIndex at h
  split at h
  · rename_i ti k n ht
    cases hi
    rw [cond_eq_ite] at h
    simp only [decide_eq_true_eq] at h
    split at h
    · rename_i h0
      split at h
      · rename_i s hk
        cases hx
        obtain ⟨b, hb, rfl⟩ := Option.map_eq_some_iff.1 h
        exact ⟨ι, w, .int .u8 b.toNat, by simp [Instr.index, asIntOf, ty_str ok ht hk, h0, hb], .val _ rfl, Stp.refl R⟩
      · rename_i m e cs hk
        cases hx with
        | agg _ vs hvs =>
          split at h
          · rename_i te hte
            simp only [cond_eq_ite] at h
            split at h
            · rename_i h1
              have h1 : n.toNat < m := Nat.le_of_ble_eq_true h1
              have hcond : 0 ≤ n ∧ n < (m : Int) := ⟨h0, by omega⟩
              split at h
              · rename_i hag
                injection h with h; subst h
                refine ⟨ι, w, .agg (vs.extract (n.toNat * te.size) (n.toNat * te.size + te.size)), ?_, .agg _ _ ?_, Stp.refl R⟩
                · simp [Instr.index, asIntOf, ty_ar ok ht hk, hcond, ty_size ok hte, part, ty_isAgg ok hte, hag]
                · rw [extract_list, show n.toNat * te.size + te.size - n.toNat * te.size = te.size by omega]
                  exact (hvs.drop _).take _
              · rename_i hag
                obtain ⟨z, hz, hvz⟩ := hvs.get _ y h
                have hz' : vs[n.toNat * te.size]? = some z := by simpa using hz
                refine ⟨ι, w, z, ?_, hvz, Stp.refl R⟩
                simp [Instr.index, asIntOf, ty_ar ok ht hk, hcond, ty_size ok hte, part, ty_isAgg ok hte, hag, hz']
            · simp at h
          · simp at h
      · simp at h
    · simp at h
  · simp at h

end Go.AM
