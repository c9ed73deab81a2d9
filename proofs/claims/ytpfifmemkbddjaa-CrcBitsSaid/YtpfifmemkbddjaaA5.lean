/- The abstract machine, part 5: slices that are made, appended to and copied; composite values. -/
import Derived.Test.YtpfifmemkbddjaaA4
import Derived.Laws.BytesString
set_option linter.unusedVariables false
set_option linter.unusedSimpArgs false
namespace Go.AM

def repA {α : Type} (n : Nat) (zs : List α) : List α := (List.replicate n zs).flatten

theorem repA_succ {α : Type} (n : Nat) (zs : List α) : repA (n + 1) zs = zs ++ repA n zs := by simp [repA, List.replicate_succ]
theorem repA_succ' {α : Type} (n : Nat) (zs : List α) : repA (n + 1) zs = repA n zs ++ zs := by simp [repA, List.replicate_succ']
theorem repA_length {α : Type} (n : Nat) (zs : List α) : (repA n zs).length = n * zs.length := by simp [repA]

theorem VRs.repA {ι : Inj} {xs : List AV} {vs : List Value} (h : VRs ι xs vs) : ∀ n, VRs ι (repA n xs) (AM.repA n vs)
  | 0 => .nil
  | n + 1 => by rw [repA_succ, repA_succ]; exact h.append (VRs.repA h n)

theorem range_zero (z : Array Value) (hz : 0 < z.size) : ∀ n, ((List.range (n * z.size)).map fun i => z[i % z.size]!) = repA n z.toList
  | 0 => by simp [repA]
  | n + 1 => by
    rw [repA_succ', Nat.succ_mul, List.range_add, List.map_append, range_zero z hz n, List.map_map]
    congr 1
    apply List.ext_getElem?
    intro i
    simp only [List.getElem?_map]
    by_cases hi : i < z.size
    · rw [List.getElem?_range hi]
      simp only [Option.map_some, Function.comp]
      rw [Nat.add_comm, Nat.add_mul_mod_self_right, Nat.mod_eq_of_lt hi]
      simp [hi]
    · rw [List.getElem?_eq_none (by simp; omega), List.getElem?_eq_none (by simp; omega)]
      rfl

theorem range_zero' (z : Array Value) (s n : Nat) (hs : z.size = s) : ((Array.range (n * s)).map fun i => z[i % z.size]!).toList = repA n z.toList := by
  subst hs
  by_cases hz : 0 < z.size
  · simp only [Array.toList_map, Array.toList_range]
    exact range_zero z hz n
  · have h0 : z.size = 0 := by omega
    have : z.toList = [] := by simpa using h0
    simp [this, h0, repA]

theorem uno_of_size {z : Value} {zs : List Value} (h : z.cells.toList = zs) : z.cells.size = zs.length := by rw [← h]; simp

/-! ## make([]T, n, c) -/

def evMakeSlice (T : Tab) (t : TypeId) (len cap : AV) (M : Mem) : Option (AV × Mem) :=
  match T.ty.get t with
  | none => none
  | some ti =>
    match ti.k, len, cap with
    | .sli e, .val (.int _ l), .val (.int _ c) =>
      match T.ty.get e with
      | none => none
      | some te =>
        cond (decide (0 ≤ l)) (cond (decide (l ≤ c)) (cond (decide (te.bytes * c ≤ 281474976710656)) (cond (decide (c < 4611686018427387904))
          (some (.sl M.next 0 l.toNat c.toNat none, M.new (.cells (repA c.toNat (ofVs te.zero)) true))) none) none) none) none
    | _, _, _ => none

theorem wrap_i64 {n : Int} (h0 : 0 ≤ n) (h : n < 4611686018427387904) : IntKind.i64.wrap n = n := by
  have e : IntKind.i64.wrap n = if (true && decide (n % 18446744073709551616 ≥ 9223372036854775808)) = true then n % 18446744073709551616 - 18446744073709551616 else n % 18446744073709551616 := rfl
  rw [e]
  have h1 : n % 18446744073709551616 = n := Int.emod_eq_of_lt h0 (by omega)
  simp only [h1]
  rw [if_neg]
  simp
  omega

theorem evMakeSlice_ok {T : Tab} (ok : T.Ok) {t : TypeId} {ι : Inj} {M M' : Mem} {w : World} {x y : AV} {v u : Value} {z : AV} (R : Rel ι M w) (hx : VR ι x v) (hy : VR ι y u)
    (h : evMakeSlice T t x y M = some (z, M')) : VS T.P ι M w (Instr.makeSlice t v u) z M' := by
  unfold evMakeSlice at h
  split at h
  · simp at h
  · rename_i ti ht
    split at h
    · rename_i e k1 l k2 c hk
      cases hx; cases hy
      split at h
      · simp at h
      · rename_i te hte
        simp only [cond_eq_ite, decide_eq_true_eq] at h
        split at h
        · rename_i h0
          split at h
          · rename_i h1
            split at h
            · rename_i h2
              split at h
              · rename_i h3
                injection h with h; injection h with h4 h5; subst h4; subst h5
                obtain ⟨i, hi, hsz, hby, _⟩ := ty_typeInfo ok hte (w := w)
                obtain ⟨zv, hzr, hzv⟩ := ty_zero ok hte (w := w)
                have hlen := ty_len ok hte
                have hw1 := wrap_i64 h0 (by omega : l < 4611686018427387904)
                have hw2 := wrap_i64 (by omega : 0 ≤ c) h3
                have hzs : zv.cells.size = te.size := by rw [uno_of_size hzv, hlen]
                have hrow : ∃ zs : Array Value, (c.toNat * te.size = 0 → zs = #[]) ∧ (¬ c.toNat * te.size = 0 → zs = zv.cells) ∧
                    ((Array.range (c.toNat * te.size)).map fun i => zs[i % zs.size]!).toList = repA c.toNat te.zero := by
                  by_cases hn : c.toNat * te.size = 0
                  · refine ⟨#[], fun _ => rfl, fun h => absurd hn h, ?_⟩
                    rw [hn]
                    simp only [Array.toList_map, Array.toList_range, List.range_zero, List.map_nil]
                    have : (repA c.toNat te.zero).length = 0 := by rw [repA_length, hlen, hn]
                    exact (List.eq_nil_of_length_eq_zero this).symm
                  · refine ⟨zv.cells, fun h => absurd h hn, fun _ => rfl, ?_⟩
                    rw [range_zero' zv.cells te.size c.toNat hzs, hzv]
                obtain ⟨zs, hzs1, hzs2, hzs3⟩ := hrow
                obtain ⟨ι', w', hr, hl, hs⟩ := VS.newRow (P := T.P) R (e := e) (cs := repA c.toNat (ofVs te.zero)) (vs := (Array.range (c.toNat * te.size)).map fun i => zs[i % zs.size]!)
                  (by rw [hzs3]; exact (VRs.ofVs ι te.zero).repA _)
                refine ⟨ι', w', .slice (some ⟨w.heap.size, 0, none⟩) l.toNat c.toNat, ?_, ?_, hs⟩
                · have hb1 : ¬ (c < 0) := by omega
                  have hb2 : ¬ ((i.bytes : Int) * c > 2 ^ 48) := by
                    rw [hby]
                    have : (2 ^ 48 : Int) = 281474976710656 := by decide
                    omega
                  have hb3 : ¬ (l < 0) := by omega
                  have hb4 : ¬ (l > c) := by omega
                  simp only [Instr.makeSlice, Sem.run_bind, ty_sli ok ht hk, Result.andThen_ok, asInt, asIntOf, Sem.run_pure, hi, hw1, hw2]
                  simp only [hb1, hb2, hb3, hb4, decide_false, Bool.or_self, Bool.false_eq_true, if_false]
                  simp only [Sem.run_bind, run_askRoom, Result.andThen_ok, ty_size ok hte]
                  by_cases hn : c.toNat * te.size = 0
                  · rw [if_pos hn]
                    have := hzs1 hn; subst this
                    simp only [Sem.run_bind, Sem.run_pure, Result.andThen_ok, hr]
                  · rw [if_neg hn]
                    have := hzs2 hn; subst this
                    simp only [Sem.run_bind, Sem.run_pure, Result.andThen_ok, hzr, hr]
                · exact VR.slE M.next 0 l.toNat c.toNat ⟨w.heap.size, 0, _⟩ hl
              · simp at h
            · simp at h
          · simp at h
        · simp at h
    · simp at h

/-! ## Composite values -/

def fillA (place : Nat → Option (Nat × Nat)) (cells : List AV) : List (Nat × AV) → Option (List AV)
  | [] => some cells
  | (i, v) :: rest =>
    match place i with
    | none => none
    | some (off, size) =>
      cond (Nat.beq v.cells.length size) (cond (Nat.ble (off + v.cells.length) cells.length) (fillA place (setAt cells off v.cells) rest) none) none

inductive PVR (ι : Inj) : List (Nat × AV) → List (Nat × Value) → Prop
  | nil : PVR ι [] []
  | cons (i : Nat) (x : AV) (v : Value) (xs : List (Nat × AV)) (vs : List (Nat × Value)) (h : VR ι x v) (hs : PVR ι xs vs) : PVR ι ((i, x) :: xs) ((i, v) :: vs)

theorem foldl_setAt (off : Nat) : ∀ (vs : List Value) (k : Nat) (cells : Array Value),
    ((vs.zipIdx k).foldl (fun cs (x : Value × Nat) => cs.setIfInBounds (off + x.2) x.1) cells).toList = setAt cells.toList (off + k) vs
  | [], k, cells => rfl
  | v :: vs, k, cells => by
    simp only [List.zipIdx_cons, List.foldl_cons]
    rw [foldl_setAt off vs (k + 1)]
    simp only [setAt, Array.toList_setIfInBounds]
    rfl

theorem fillA_ok {ι : Inj} (place : Nat → Option (Nat × Nat)) : ∀ {ps : List (Nat × AV)} {qs : List (Nat × Value)}, PVR ι ps qs → ∀ {cells cells' : List AV} {vs : Array Value},
    VRs ι cells vs.toList → fillA place cells ps = some cells' → ∃ vs', Instr.fill place vs qs = some vs' ∧ VRs ι cells' vs'.toList
  | _, _, .nil, cells, cells', vs, h, e => by
    simp only [fillA, Option.some.injEq] at e
    subst e
    exact ⟨vs, rfl, h⟩
  | _, _, .cons i x v xs qs hx hs, cells, cells', vs, h, e => by
    simp only [fillA] at e
    split at e
    · simp at e
    · rename_i off size hp
      simp only [cond_eq_ite] at e
      split at e
      · rename_i h1
        have h1 : x.cells.length = size := Nat.eq_of_beq_eq_true h1
        split at e
        · rename_i h2
          have h2 : off + x.cells.length ≤ cells.length := Nat.le_of_ble_eq_true h2
          have hl1 := hx.cells.length
          have hl2 := h.length
          simp only [Array.length_toList] at hl1 hl2
          have hf : (v.cells.zipIdx.foldl (fun cs (x : Value × Nat) => cs.setIfInBounds (off + x.2) x.1) vs).toList = setAt vs.toList off v.cells.toList := by
            rw [← Array.foldl_toList, Array.toList_zipIdx]
            exact foldl_setAt off v.cells.toList 0 vs
          obtain ⟨vs', h3, h4⟩ := fillA_ok place hs (cells := setAt cells off x.cells) (vs := v.cells.zipIdx.foldl (fun cs (x : Value × Nat) => cs.setIfInBounds (off + x.2) x.1) vs)
            (by rw [hf]; exact h.setAt off hx.cells) e
          refine ⟨vs', ?_, h4⟩
          have hne : ¬ (v.cells.size ≠ size || off + v.cells.size > vs.size) = true := by
            simp; omega
          simp only [Instr.fill, hp]
          rw [if_neg (by simpa using hne)]
          exact h3
        · simp at e
      · simp at e

def placeSt (fs : List (Nat × Nat × Bool)) (i : Nat) : Option (Nat × Nat) := (fs[i]?).map fun f => (f.1, f.2.1)

def evBuild (T : Tab) (t : TypeId) (ps : List (Nat × AV)) : Option AV :=
  match T.ty.get t with
  | none => none
  | some ti =>
    match ti.k with
    | .st fs => (fillA (placeSt fs) (ofVs ti.zero) ps).map .agg
    | .ar _ e =>
      match T.ty.get e with
      | none => none
      | some te => (fillA (fun i => some (i * te.size, te.size)) (ofVs ti.zero) ps).map .agg
    | _ => none

theorem mapM_list {α β : Type} {P : Program} {w : World} (f : α → Sem β) (g : α → β) : ∀ (l : List α), (∀ x ∈ l, (f x).run P w = .ok (g x) w) → (l.mapM f).run P w = .ok (l.map g) w
  | [], _ => by simp
  | x :: l, h => by
    have h1 := h x (by simp)
    have h2 := mapM_list f g l (fun y hy => h y (by simp [hy]))
    simp [List.mapM_cons, h1, h2]

theorem FieldsOk.places {P : Program} {w : World} : ∀ {fs : List Field} {l : List (Nat × Nat × Bool)}, FieldsOk P fs l →
    (fs.mapM fun f => (do pure (f.offset, ← sizeOf f.type) : Sem (Nat × Nat))).run P w = .ok (l.map fun f => (f.1, f.2.1)) w
  | [], [], _ => by simp
  | f :: fs, (o, s, a) :: l, h => by
    have hg := FieldsOk.get h 0 o s a (by simp)
    obtain ⟨f', hf', ho, hs, _⟩ := hg
    simp only [List.getElem?_cons_zero, Option.some.injEq] at hf'
    subst hf'
    have ih := FieldsOk.places (P := P) (w := w) h.2.2.2
    rw [List.mapM_cons]
    simp only [Sem.run_bind, hs, ho, Result.andThen_ok, Sem.run_pure, ih, List.map_cons]
  | [], _ :: _, h => h.elim
  | _ :: _, [], h => h.elim

theorem evBuild_ok {T : Tab} (ok : T.Ok) {t : TypeId} {ι : Inj} {M : Mem} {w : World} {ps : List (Nat × AV)} {qs : Array (Nat × Value)} {x : AV} (R : Rel ι M w) (hp : PVR ι ps qs.toList)
    (h : evBuild T t ps = some x) : VS T.P ι M w (Instr.build t qs) x M := by
  unfold evBuild at h
  split at h
  · simp at h
  · rename_i ti ht
    obtain ⟨z, hz, hz2⟩ := ty_zero ok ht (w := w)
    have hzv : VRs ι (ofVs ti.zero) z.cells.toList := by rw [hz2]; exact VRs.ofVs ι _
    split at h
    · rename_i fs hk
      obtain ⟨cs, hc, rfl⟩ := Option.map_eq_some_iff.1 h
      obtain ⟨vs, h1, h2⟩ := fillA_ok (placeSt fs) hp hzv hc
      obtain ⟨fields, hr, hfo⟩ := ty_st ok ht hk (w := w)
      refine ⟨ι, w, .agg vs, ?_, .agg _ _ h2, Stp.refl R⟩
      have hm : (fields.mapM fun f => (do pure (f.offset, ← sizeOf f.type) : Sem (Nat × Nat))).run T.P w = .ok (fs.map fun f => (f.1, f.2.1)).toArray w := by
        rw [Array.mapM_eq_mapM_toList]
        simp only [Sem.run_map]
        rw [FieldsOk.places hfo]
        rfl
      have hpl : (fun i => ((fs.map fun f => (f.1, f.2.1)).toArray)[i]?) = placeSt fs := by
        funext i; simp [placeSt]
      simp only [Instr.build, Sem.run_bind, hz, Result.andThen_ok, hr, hm, hpl, h1, Sem.run_pure]
    · rename_i n e hk
      split at h
      · simp at h
      · rename_i te hte
        obtain ⟨cs, hc, rfl⟩ := Option.map_eq_some_iff.1 h
        obtain ⟨vs, h1, h2⟩ := fillA_ok _ hp hzv hc
        refine ⟨ι, w, .agg vs, ?_, .agg _ _ h2, Stp.refl R⟩
        simp only [Instr.build, Sem.run_bind, hz, Result.andThen_ok, ty_ar ok ht hk, ty_size ok hte, h1, Sem.run_pure]
    · simp at h

def evBuildSlice (T : Tab) (t : TypeId) (len : Nat) (ps : List (Nat × AV)) (M : Mem) : Option (AV × Mem) :=
  match T.ty.get t with
  | none => none
  | some ti =>
    match ti.k with
    | .sli e =>
      match T.ty.get e with
      | none => none
      | some te =>
        cond (Nat.ble (len * te.size) 16777216)
          (match fillA (fun i => some (i * te.size, te.size)) (repA len (ofVs te.zero)) ps with
          | none => none
          | some cs => some (.sl M.next 0 len len none, M.new (.cells cs true))) none
    | _ => none

theorem evBuildSlice_ok {T : Tab} (ok : T.Ok) {t : TypeId} {len : Nat} {ι : Inj} {M M' : Mem} {w : World} {ps : List (Nat × AV)} {qs : Array (Nat × Value)} {x : AV} (R : Rel ι M w)
    (hp : PVR ι ps qs.toList) (h : evBuildSlice T t len ps M = some (x, M')) : VS T.P ι M w (Instr.buildSlice t len qs) x M' := by
  unfold evBuildSlice at h
  split at h
  · simp at h
  · rename_i ti ht
    split at h
    · rename_i e hk
      split at h
      · simp at h
      · rename_i te hte
        rw [cond_eq_ite] at h
        split at h
        · rename_i hle
          have hle : len * te.size ≤ 16777216 := Nat.le_of_ble_eq_true hle
          split at h
          · simp at h
          · rename_i cs hcs
            injection h with h; injection h with h1 h2; subst h1; subst h2
            obtain ⟨zv, hzr, hzv⟩ := ty_zero ok hte (w := w)
            have hlen := ty_len ok hte
            have hzs : zv.cells.size = te.size := by rw [uno_of_size hzv, hlen]
            have hrow : ∃ zs : Array Value, (len * te.size = 0 → zs = #[]) ∧ (¬ len * te.size = 0 → zs = zv.cells) ∧
                ((Array.range (len * te.size)).map fun i => zs[i % zs.size]!).toList = repA len te.zero := by
              by_cases hn : len * te.size = 0
              · refine ⟨#[], fun _ => rfl, fun h => absurd hn h, ?_⟩
                rw [hn]
                simp only [Array.toList_map, Array.toList_range, List.range_zero, List.map_nil]
                have : (repA len te.zero).length = 0 := by rw [repA_length, hlen, hn]
                exact (List.eq_nil_of_length_eq_zero this).symm
              · refine ⟨zv.cells, fun h => absurd h hn, fun _ => rfl, ?_⟩
                rw [range_zero' zv.cells te.size len hzs, hzv]
            obtain ⟨zs, hzs1, hzs2, hzs3⟩ := hrow
            obtain ⟨vs, h3, h4⟩ := fillA_ok (ι := ι) _ hp (vs := (Array.range (len * te.size)).map fun i => zs[i % zs.size]!) (by rw [hzs3]; exact (VRs.ofVs ι te.zero).repA len) hcs
            obtain ⟨ι', w', hr, hl, hs⟩ := VS.newRow (P := T.P) R (e := e) h4
            refine ⟨ι', w', .slice (some ⟨w.heap.size, 0, none⟩) len len, ?_, VR.slE M.next 0 len len ⟨w.heap.size, 0, _⟩ hl, hs⟩
            have hng : ¬ (len * te.size > 2 ^ 24) := by
              have : 2 ^ 24 = 16777216 := by decide
              omega
            simp only [Instr.buildSlice, Sem.run_bind, ty_sli ok ht hk, Result.andThen_ok, ty_size ok hte]
            rw [if_neg hng]
            by_cases hn : len * te.size = 0
            · rw [if_pos hn]
              have := hzs1 hn; subst this
              simp only [Sem.run_bind, Sem.run_pure, Result.andThen_ok, h3, hr]
            · rw [if_neg hn]
              have := hzs2 hn; subst this
              simp only [Sem.run_bind, Sem.run_pure, Result.andThen_ok, hzr, h3, hr]
        · simp at h
    · simp at h

end Go.AM
