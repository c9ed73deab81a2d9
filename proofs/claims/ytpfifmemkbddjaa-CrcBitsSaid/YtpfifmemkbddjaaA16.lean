/- The abstract machine, part 16: a region whose order is open comes to what one order gives. -/
import Derived.Test.YtpfifmemkbddjaaA15
set_option linter.unusedVariables false
set_option linter.unusedSimpArgs false
namespace Go.AM

inductive Cls where
  | pure | read | eff | flt
  deriving DecidableEq

/-- Does an operation look at memory; does it write; does it make one block and no more? -/
def cls (T : Tab) (o : Oper) : Cls :=
  match o.op with
  | .move _ | .assign _ | .pick .. | .build .. | .nilCheck _ | .binOp .. | .unOp .. | .slice .. | .fieldAddr .. | .field .. | .indexAddr .. | .index .. | .extract .. => .pure
  | .makeFunc (.func _) _ _ => .pure
  | .convert _ d _ => match T.ty.get d with
    | some td => match td.k with
      | .int _ => .pure
      | _ => .eff
    | none => .eff
  | .load .. | .lookup .. => .read
  | .call c => match c.callee with
    | .builtin .len | .builtin .cap => .read
    | .builtin .min | .builtin .max | .builtin .real | .builtin .imag | .builtin .complex => .pure
    | _ => .eff
  | .alloc _ | .box .. | .buildSlice .. | .makeSlice .. => .flt
  | .makeMap _ none => .flt
  | _ => .eff

theorem pure_ok {T : Tab} {fr : Tr AV} {o : Oper} (hc : cls T o = .pure) {M M' : Mem} {x : AV} (h : evalOp T fr o M = some (x, M')) : ∀ M2, evalOp T fr o M2 = some (x, M2) := by
  intro M2
  obtain ⟨dst, op, type, pos, after, guard⟩ := o
  unfold evalOp at h ⊢
  unfold cls at hc
  cases op <;> simp only at hc h ⊢ <;> try (cases hc; done)
  case move => injection h with h; injection h with h1 h2; rw [h1]
  case assign => injection h with h; injection h with h1 h2; rw [h1]
  case pick c a b =>
    split at h
    · rename_i b hb
      injection h with h; injection h with h1 h2; rw [h1]
    · simp at h
  case nilCheck y =>
    split at h
    · injection h with h; injection h with h1 h2; rw [h1]
    · injection h with h; injection h with h1 h2; rw [h1]
    · simp at h
  case unOp op t y =>
    split at h
    · obtain ⟨u, hu, he⟩ := Option.map_eq_some_iff.1 h
      injection he with h1 h2
      rw [hu]; simp [h1]
    · simp at h
  case extract y i =>
    split at h
    · obtain ⟨u, hu, he⟩ := Option.map_eq_some_iff.1 h
      injection he with h1 h2
      rw [hu]; simp [h1]
    · simp at h
  case makeFunc fn a b =>
    cases fn <;> simp only at hc h ⊢ <;> try (cases hc; done)
    injection h with h; injection h with h1 h2; rw [h1]
  case makeMap t r => cases r <;> simp only at hc <;> cases hc
  case convert s d y =>
    split at hc
    · rename_i td htd
      split at hc
      · rename_i k hk
        unfold evConv at h ⊢
        cases hts : T.ty.get s with
        | none => rw [hts] at h; simp at h
        | some ts =>
          rw [hts, htd] at h
          rw [htd]
          simp only [hk] at h ⊢
          obtain ⟨u, hu, he⟩ := Option.map_eq_some_iff.1 h
          injection he with h1 h2
          rw [hu]; simp [h1]
      · cases hc
    · cases hc
  case call c =>
    split at hc
    · cases hc
    · cases hc
    all_goals try (cases hc; done)
    all_goals
      rename_i hcal
      rw [hcal] at h ⊢
      simp only [evBuiltin] at h ⊢
      split at h
      · obtain ⟨u, hu, he⟩ := Option.map_eq_some_iff.1 h
        injection he with h1 h2
        rw [hu]; simp [h1]
      · simp at h
  all_goals
    obtain ⟨u, hu, he⟩ := Option.map_eq_some_iff.1 h
    injection he with h1 h2
    rw [hu]; simp [h1]

theorem lenB_ok {T : Tab} {c : Bool} {ts : Array TypeId} {ty : TypeId} {args : List AV} {M M' : Mem} {x : AV} (h : evBuiltin T (cond c .len .cap) ts ty args M = some (x, M')) : M' = M := by
  have hm : ∀ {b : Option Nat}, (b.map fun (n : Nat) => (AV.val (.int .i64 n), M)) = some (x, M') → M' = M := fun {b} hb => by
    obtain ⟨u, hu, he⟩ := Option.map_eq_some_iff.1 hb
    injection he with h1 h2; exact h2.symm
  cases c with
  | true =>
    cases args with
    | nil => simp [evBuiltin] at h
    | cons y ys =>
      cases ys with
      | nil =>
        simp only [evBuiltin, cond_true] at h
        split at h
        · exact hm h
        · simp at h
      | cons z zs => simp [evBuiltin] at h
  | false =>
    cases args with
    | nil => simp [evBuiltin] at h
    | cons y ys =>
      cases ys with
      | nil =>
        simp only [evBuiltin, cond_false] at h
        split at h
        · exact hm h
        · simp at h
      | cons z zs => simp [evBuiltin] at h

theorem read_ok {T : Tab} {fr : Tr AV} {o : Oper} (hc : cls T o = .read) {M M' : Mem} {x : AV} (h : evalOp T fr o M = some (x, M')) : M' = M := by
  obtain ⟨dst, op, type, pos, after, guard⟩ := o
  unfold evalOp at h
  unfold cls at hc
  cases op <;> simp only at hc h <;> try (cases hc; done)
  case makeFunc fn a b => cases fn <;> simp only at hc <;> cases hc
  case makeMap t r => cases r <;> simp only at hc <;> cases hc
  case convert s d y =>
    split at hc
    · split at hc <;> cases hc
    · cases hc
  case load =>
    obtain ⟨u, hu, he⟩ := Option.map_eq_some_iff.1 h
    injection he with h1 h2; exact h2.symm
  case lookup =>
    obtain ⟨u, hu, he⟩ := Option.map_eq_some_iff.1 h
    injection he with h1 h2; exact h2.symm
  case call c =>
    split at hc
    · rename_i hcal
      rw [hcal] at h
      exact lenB_ok (c := true) h
    · rename_i hcal
      rw [hcal] at h
      exact lenB_ok (c := false) h
    all_goals cases hc

/-! ## What makes one block -/

def evMakeFl (T : Tab) (t : TypeId) (len cap : AV) (id : Nat) : Option (AV × Row) :=
  match T.ty.get t with
  | none => none
  | some ti =>
    match ti.k, len, cap with
    | .sli e, .val (.int _ l), .val (.int _ c) =>
      match T.ty.get e with
      | none => none
      | some te =>
        cond (decide (0 ≤ l)) (cond (decide (l ≤ c)) (cond (decide (te.bytes * c ≤ 281474976710656)) (cond (decide (c < 4611686018427387904))
          (some (.sl id 0 l.toNat c.toNat none, .cells (repA c.toNat (ofVs te.zero)) true)) none) none) none) none
    | _, _, _ => none

def evFl (T : Tab) (fr : Tr AV) (o : Oper) (id : Nat) : Option (AV × Row) :=
  match o.op with
  | .alloc t => match T.ty.get t with
    | some ti => some (.ptr id 0, .cells (ofVs ti.zero) true)
    | none => none
  | .box _ x => some (.ptr id 0, .cells (opnd fr x).cells true)
  | .buildSlice t len ps =>
    match T.ty.get t with
    | none => none
    | some ti =>
      match ti.k with
      | .sli e =>
        match T.ty.get e with
        | none => none
        | some te =>
          cond (Nat.ble (len * te.size) 16777216)
            (match fillA (fun i => some (i * te.size, te.size)) (repA len (ofVs te.zero)) (ps.toList.map fun p => (p.1, opnd fr p.2)) with
            | none => none
            | some cs => some (.sl id 0 len len none, .cells cs true)) none
      | _ => none
  | .makeMap _ none => some (.map id, .map [])
  | .makeSlice t l c => evMakeFl T t (opnd fr l) (opnd fr c) id
  | _ => none

theorem evFl_congr (T : Tab) {fr fr' : Tr AV} {o : Oper} (h : ∀ x ∈ o.op.operands.toList, opnd fr x = opnd fr' x) (id : Nat) : evFl T fr o id = evFl T fr' o id := by
  obtain ⟨dst, op, type, pos, after, guard⟩ := o
  simp only at h
  unfold evFl
  simp only
  have pairs : ∀ ps : Array (Nat × Operand), (∀ x ∈ ps.toList.map (·.2), opnd fr x = opnd fr' x) → (ps.toList.map fun p => (p.1, opnd fr p.2)) = (ps.toList.map fun p => (p.1, opnd fr' p.2)) := fun ps hp =>
    List.map_congr_left fun p hm => by rw [hp p.2 (List.mem_map.2 ⟨p, hm, rfl⟩)]
  cases op <;> simp only [Op.operands] at h <;> (try simp only) <;> try rfl
  case box t x => rw [h x (by simp)]
  case makeSlice t l c => rw [h l (by simp), h c (by simp)]
  case buildSlice t n ps => rw [pairs ps (by simpa using h)]
  case makeMap t r => cases r <;> rfl

def upd (ι : Inj) (n : Nat) (l : Loc) : Inj := fun b => if b = n then some l else ι b

theorem upd_ext {ι : Inj} {n : Nat} {l : Loc} (h : ι n = none) : Ext ι (upd ι n l) := fun b l' hb => by
  unfold upd
  split
  · rename_i he; subst he; rw [h] at hb; cases hb
  · exact hb

theorem rowR_new {ι : Inj} {cs : List AV} {vs : Array Value} {e : TypeId} {b : Nat} (h : VRs ι cs vs.toList) : RowR ι ⟨b, 0, vs.size⟩ (.cells cs true) (some (.cells vs e (0, 0))) := by
  have hl := h.length
  simp only [Array.length_toList] at hl
  refine ⟨rfl, by simp only; omega, ?_, fun _ k _ => by simp only; omega⟩
  simp only
  rw [List.drop_zero, List.take_of_length_le (by simp; omega)]
  exact h

theorem evFl_ok {T : Tab} (ok : T.Ok) {fr : Tr AV} {a : Act} {o : Oper} {id : Nat} {x : AV} {row : Row} {ι : Inj} {w : World} (hf : FrR ι fr a) (hn : ι id = none) (h : evFl T fr o id = some (x, row)) :
    ∃ v obj size, (execOp a.eval o).run T.P w = .ok (.value v) { w with heap := w.heap.push obj } ∧ VR (upd ι id ⟨w.heap.size, 0, size⟩) x v ∧
      RowR (upd ι id ⟨w.heap.size, 0, size⟩) ⟨w.heap.size, 0, size⟩ row (some obj) := by
  have hup : ∀ size, (upd ι id ⟨w.heap.size, 0, size⟩) id = some ⟨w.heap.size, 0, size⟩ := fun size => by simp [upd]
  obtain ⟨dst, op, type, pos, after, guard⟩ := o
  unfold evFl at h
  unfold execOp
  cases op <;> simp only at h ⊢ <;> try (simp at h; done)
  case alloc t =>
    split at h
    · rename_i ti ht
      injection h with h; injection h with h1 h2; subst h1; subst h2
      obtain ⟨z, hz, hz2⟩ := ty_zero ok ht (w := w)
      refine ⟨.pointer (some ⟨w.heap.size, 0, none⟩), .cells z.cells t (0, 0), z.cells.size, ?_, .ptr id 0 _ (hup _), ?_⟩
      · simp [Instr.alloc, hz, newVar, newRow]
      · exact rowR_new (VRs.mono (upd_ext hn) (by rw [hz2]; exact VRs.ofVs ι _))
    · simp at h
  case box t y =>
    injection h with h; injection h with h1 h2; subst h1; subst h2
    refine ⟨.pointer (some ⟨w.heap.size, 0, none⟩), .cells (a.eval y).cells t (0, 0), (a.eval y).cells.size, ?_, .ptr id 0 _ (hup _), ?_⟩
    · simp [Instr.box, newVar, newRow]
    · exact rowR_new (VRs.mono (upd_ext hn) (opnd_ok hf y).cells)
  case buildSlice t len ps =>
    split at h
    · simp at h
    · rename_i ti ht
      split at h
      · rename_i e hk
        split at h
        · simp at h
        · rename_i te hte
          rw [cond_eq_ite] at h
          split at h
          · rename_i hle
            have hle : len * te.size ≤ 16777216 := Nat.le_of_ble_eq_true hle
            split at h
            · simp at h
            · rename_i cs hcs
              injection h with h; injection h with h1 h2; subst h1; subst h2
              obtain ⟨zv, hzr, hzv⟩ := ty_zero ok hte (w := w)
              have hlen := ty_len ok hte
              have hzs : zv.cells.size = te.size := by rw [uno_of_size hzv, hlen]
              have hrow : ∃ zs : Array Value, (len * te.size = 0 → zs = #[]) ∧ (¬ len * te.size = 0 → zs = zv.cells) ∧
                  ((Array.range (len * te.size)).map fun i => zs[i % zs.size]!).toList = repA len te.zero := by
                by_cases hn : len * te.size = 0
                · refine ⟨#[], fun _ => rfl, fun h => absurd hn h, ?_⟩
                  rw [hn]
                  simp only [Array.toList_map, Array.toList_range, List.range_zero, List.map_nil]
                  have : (repA len te.zero).length = 0 := by rw [repA_length, hlen, hn]
                  exact (List.eq_nil_of_length_eq_zero this).symm
                · refine ⟨zv.cells, fun h => absurd h hn, fun _ => rfl, ?_⟩
                  rw [range_zero' zv.cells te.size len hzs, hzv]
              obtain ⟨zs, hzs1, hzs2, hzs3⟩ := hrow
              obtain ⟨vs, h3, h4⟩ := fillA_ok (ι := ι) _ (qs := (ps.map fun (i, x) => (i, a.eval x)).toList) (by rw [Array.toList_map]; exact opair_ok hf ps.toList)
                (vs := (Array.range (len * te.size)).map fun i => zs[i % zs.size]!) (by rw [hzs3]; exact (VRs.ofVs ι te.zero).repA len) hcs
              have hng : ¬ (len * te.size > 2 ^ 24) := by
                have : 2 ^ 24 = 16777216 := by decide
                omega
              refine ⟨.slice (some ⟨w.heap.size, 0, none⟩) len len, .cells vs e (0, 0), vs.size, ?_, VR.slE id 0 len len ⟨w.heap.size, 0, vs.size⟩ (hup _), rowR_new (VRs.mono (upd_ext hn) h4)⟩
              simp only [Instr.buildSlice, Sem.run_bind, ty_sli ok ht hk, Result.andThen_ok, ty_size ok hte]
              rw [if_neg hng]
              by_cases hn0 : len * te.size = 0
              · rw [if_pos hn0]
                have := hzs1 hn0; subst this
                simp only [Sem.run_bind, Sem.run_pure, Result.andThen_ok, h3, newRow, run_newObj]
              · rw [if_neg hn0]
                have := hzs2 hn0; subst this
                simp only [Sem.run_bind, Sem.run_pure, Result.andThen_ok, hzr, h3, newRow, run_newObj]
          · simp at h
      · simp at h
  case makeMap t r =>
    cases r <;> simp only at h <;> try (simp at h; done)
    injection h with h; injection h with h1 h2; subst h1; subst h2
    refine ⟨.map (some w.heap.size), .map #[] 0, 0, ?_, .map id ⟨w.heap.size, 0, 0⟩ (hup _), .nil⟩
    simp [Instr.makeMap]
  case makeSlice t lo co =>
    have hx := opnd_ok hf lo
    have hy := opnd_ok hf co
    unfold evMakeFl at h
    split at h
    · simp at h
    · rename_i ti ht
      split at h
      · rename_i e k1 l k2 c hk hlo hco
        rw [hlo] at hx; rw [hco] at hy
        generalize a.eval lo = v at hx
        generalize a.eval co = u at hy
        cases hx; cases hy
        split at h
        · simp at h
        · rename_i te hte
          simp only [cond_eq_ite, decide_eq_true_eq] at h
          split at h
          · rename_i h0
            split at h
            · rename_i h1
              split at h
              · rename_i h2
                split at h
                · rename_i h3
                  injection h with h; injection h with h4 h5; subst h4; subst h5
                  obtain ⟨i, hi, hsz, hby, _⟩ := ty_typeInfo ok hte (w := w)
                  obtain ⟨zv, hzr, hzv⟩ := ty_zero ok hte (w := w)
                  have hlen := ty_len ok hte
                  have hw1 := wrap_i64 h0 (by omega : l < 4611686018427387904)
                  have hw2 := wrap_i64 (by omega : 0 ≤ c) h3
                  have hzs : zv.cells.size = te.size := by rw [uno_of_size hzv, hlen]
                  have hrow : ∃ zs : Array Value, (c.toNat * te.size = 0 → zs = #[]) ∧ (¬ c.toNat * te.size = 0 → zs = zv.cells) ∧
                      ((Array.range (c.toNat * te.size)).map fun i => zs[i % zs.size]!).toList = repA c.toNat te.zero := by
                    by_cases hn : c.toNat * te.size = 0
                    · refine ⟨#[], fun _ => rfl, fun h => absurd hn h, ?_⟩
                      rw [hn]
                      simp only [Array.toList_map, Array.toList_range, List.range_zero, List.map_nil]
                      have : (repA c.toNat te.zero).length = 0 := by rw [repA_length, hlen, hn]
                      exact (List.eq_nil_of_length_eq_zero this).symm
                    · refine ⟨zv.cells, fun h => absurd h hn, fun _ => rfl, ?_⟩
                      rw [range_zero' zv.cells te.size c.toNat hzs, hzv]
                  obtain ⟨zs, hzs1, hzs2, hzs3⟩ := hrow
                  refine ⟨.slice (some ⟨w.heap.size, 0, none⟩) l.toNat c.toNat, .cells ((Array.range (c.toNat * te.size)).map fun i => zs[i % zs.size]!) e (0, 0), _, ?_,
                    VR.slE id 0 l.toNat c.toNat ⟨w.heap.size, 0, _⟩ (hup _), rowR_new (VRs.mono (upd_ext hn) (by rw [hzs3]; exact (VRs.ofVs ι te.zero).repA _))⟩
                  have hb1 : ¬ (c < 0) := by omega
                  have hb2 : ¬ ((i.bytes : Int) * c > 2 ^ 48) := by
                    rw [hby]
                    have : (2 ^ 48 : Int) = 281474976710656 := by decide
                    omega
                  have hb3 : ¬ (l < 0) := by omega
                  have hb4 : ¬ (l > c) := by omega
                  simp only [Instr.makeSlice, Sem.run_bind, ty_sli ok ht hk, Result.andThen_ok, asInt, asIntOf, Sem.run_pure, hi, hw1, hw2]
                  simp only [hb1, hb2, hb3, hb4, decide_false, Bool.or_self, Bool.false_eq_true, if_false]
                  simp only [Sem.run_bind, run_askRoom, Result.andThen_ok, ty_size ok hte]
                  by_cases hn : c.toNat * te.size = 0
                  · rw [if_pos hn]
                    have := hzs1 hn; subst this
                    simp only [Sem.run_bind, Sem.run_pure, Result.andThen_ok, newRow, run_newObj]
                  · rw [if_neg hn]
                    have := hzs2 hn; subst this
                    simp only [Sem.run_bind, Sem.run_pure, Result.andThen_ok, hzr, newRow, run_newObj]
                · simp at h
              · simp at h
            · simp at h
          · simp at h
      · simp at h

end Go.AM
