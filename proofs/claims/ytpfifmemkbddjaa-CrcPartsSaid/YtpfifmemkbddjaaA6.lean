/- The abstract machine, part 6: append, copy, clear, conversions, lengths. -/
import Derived.Test.YtpfifmemkbddjaaA5
set_option linter.unusedVariables false
set_option linter.unusedSimpArgs false
namespace Go.AM

/-- Block b's row is given up; its block of the heap bears a new row. -/
theorem Stp.reuse {ι : Inj} {M : Mem} {w w' : World} (R : Rel ι M w) {b : Nat} {r r' : Row} {l l' : Loc} (hg : M.get b = some r) (hrw : r.rw = true) (hl : ι b = some l) (hbl : l'.blk = l.blk)
    (hs : w'.heap.size = w.heap.size) (hother : ∀ k, k ≠ l.blk → w'.heap[k]? = w.heap[k]?)
    (hrow : RowR (fun c => if c = M.next then some l' else ι c) l' r' w'.heap[l.blk]?)
    (ho : w'.os = w.os) (ht : w'.tape = w.tape) (hu : w'.output = w.output) : Stp ι M w (fun c => if c = M.next then some l' else ι c) ((M.kill b).new r') w' := by
  have hext : Ext ι (fun b => if b = M.next then some l' else ι b) := fun b l' h => by
    have := R.dom b l' h
    have hne : ¬ (b = M.next) := by omega
    simp [hne, h]
  have hgn : ∀ c, ((M.kill b).new r').get c = if c = M.next then some r' else if c = b then none else M.get c := fun c => by
    rw [Mem.get_new, Mem.next_kill, Mem.get_kill]
  refine ⟨⟨?_, ?_, ?_⟩, hext, by simp, new_upd, by omega, ?_, ?_, ?_, ho, ht, hu⟩
  · intro c lc h
    by_cases hc : c = M.next
    · simp [hc]
    · simp only [hc, if_false] at h
      have := R.dom c lc h
      simp; omega
  · intro c s h
    rw [hgn] at h
    by_cases hc : c = M.next
    · simp only [hc, if_true, Option.some.injEq] at h
      subst h
      refine ⟨l', by simp [hc], ?_⟩
      rw [hbl]; exact hrow
    · simp only [hc, if_false] at h
      by_cases hcb : c = b
      · simp [hcb] at h
      · simp only [hcb, if_false] at h
        obtain ⟨lc, hlc, hr⟩ := R.live c s h
        refine ⟨lc, by simp [hc, hlc], ?_⟩
        rw [hother lc.blk (fun he => hcb (R.inj c b s r lc l h hg hlc hl he))]
        exact hr.mono hext
  · intro c c' s s' l1 l2 h1 h2 hl1 hl2 he
    rw [hgn] at h1 h2
    by_cases hc : c = M.next <;> by_cases hc' : c' = M.next
    · omega
    · exfalso
      simp only [hc, if_true, Option.some.injEq] at hl1
      simp only [hc', if_false] at h2 hl2
      subst hl1
      by_cases hcb : c' = b
      · simp [hcb] at h2
      · simp only [hcb, if_false] at h2
        exact hcb (R.inj c' b s' r l2 l h2 hg hl2 hl (by omega))
    · exfalso
      simp only [hc', if_true, Option.some.injEq] at hl2
      simp only [hc, if_false] at h1 hl1
      subst hl2
      by_cases hcb : c = b
      · simp [hcb] at h1
      · simp only [hcb, if_false] at h1
        exact hcb (R.inj c b s r l1 l h1 hg hl1 hl (by omega))
    · simp only [hc, if_false] at h1 hl1
      simp only [hc', if_false] at h2 hl2
      by_cases hcb : c = b
      · simp [hcb] at h1
      · by_cases hcb' : c' = b
        · simp [hcb'] at h2
        · simp only [hcb, if_false] at h1
          simp only [hcb', if_false] at h2
          exact R.inj c c' s s' l1 l2 h1 h2 hl1 hl2 he
  · intro k _ hn
    apply hother
    intro he
    exact hn ⟨b, r, l, hg, hrw, hl, he.symm⟩
  · rintro k ⟨c, s, lc, h1, h2, h3, h4⟩
    rw [hgn] at h1
    by_cases hc : c = M.next
    · simp only [hc, if_true, Option.some.injEq] at h3
      subst h3
      exact .inr ⟨b, r, l, hg, hrw, hl, by omega⟩
    · simp only [hc, if_false] at h1 h3
      by_cases hcb : c = b
      · simp [hcb] at h1
      · simp only [hcb, if_false] at h1
        exact .inr ⟨c, s, lc, h1, h2, h3, h4⟩
  · rintro k ⟨c, s, lc, h1, h3, h4⟩
    rw [hgn] at h1
    by_cases hc : c = M.next
    · simp only [hc, if_true, Option.some.injEq] at h3
      subst h3
      exact .inr ⟨b, r, l, hg, hl, by omega⟩
    · simp only [hc, if_false] at h1 h3
      by_cases hcb : c = b
      · simp [hcb] at h1
      · simp only [hcb, if_false] at h1
        exact .inr ⟨c, s, lc, h1, h3, h4⟩

def bytesA (s : ByteArray) : List AV := s.data.toList.map fun b => .val (.int .u8 b.toNat)

def evLen (x : AV) : Option Nat :=
  match x with
  | .sl _ _ n _ _ => some n
  | .val (.slice none n _) => some n
  | .val (.string s) => some s.size
  | _ => none

theorem evLen_ok {P : Program} {ι : Inj} {w : World} {x : AV} {v : Value} {n : Nat} (hx : VR ι x v) (h : evLen x = some n) : (Builtin.lenOf v).run P w = .ok n w := by
  cases hx <;> simp only [evLen] at h
  case val =>
    split at h <;> first | (injection h with h; subst h; rfl) | (simp at h; done) | skip
    all_goals simp_all [Builtin.lenOf]
  all_goals first | (injection h with h; subst h; rfl) | (simp at h; done)

def evFirst (size k : Nat) (x : AV) (M : Mem) : Option (List AV) :=
  match x with
  | .sl b o n _ _ => cond (Nat.ble k n) (cond (Nat.beq k 0) (some []) (M.cellsAt b o (k * size))) none
  | .val (.slice none _ _) => some []
  | .val (.string s) => some (bytesA (s.extract 0 k))
  | _ => none

theorem VRs.bytesA {ι : Inj} (s : ByteArray) : VRs ι (AM.bytesA s) (s.data.toList.map fun b => Value.int .u8 b.toNat) := by
  have := VRs.vals (ι := ι) (s.data.toList.map fun b => Value.int .u8 b.toNat) (by intro v hv; obtain ⟨b, _, rfl⟩ := List.mem_map.1 hv; rfl)
  rw [List.map_map] at this
  exact this

theorem evFirst_ok {P : Program} {ι : Inj} {M : Mem} {w : World} {x : AV} {v : Value} {size k : Nat} {xs : List AV} (R : Rel ι M w) (hx : VR ι x v) (h : evFirst size k x M = some xs) :
    ∃ vs : Array Value, VRs ι xs vs.toList ∧ (Builtin.firstCells size k v).run P w = .ok vs w := by
  have h0 : ∀ a : Addr, (loadCells a (0 * size)).run P w = .ok #[] w := fun a => by simp [loadCells, loadCellsFrom]
  cases hx <;> simp only [evFirst] at h <;> try (simp at h; done)
  case val =>
    split at h <;> first | (simp at h; done) | skip
    · rename_i he
      cases he
    · rename_i he
      injection he with he; subst he
      injection h with h; subst h
      exact ⟨#[], .nil, rfl⟩
    · rename_i s he
      injection he with he; subst he
      injection h with h; subst h
      refine ⟨(s.extract 0 k).data.map fun b => .int .u8 b.toNat, ?_, rfl⟩
      rw [Array.toList_map]
      exact VRs.bytesA _
  case slE b o n c l hl =>
    simp only [cond_eq_ite] at h
    split at h
    · split at h
      · rename_i hk
        have hk : k = 0 := Nat.eq_of_beq_eq_true hk
        injection h with h; subst h; subst hk
        exact ⟨#[], .nil, h0 _⟩
      · obtain ⟨vs, h1, h2, h3⟩ := R.loadCells (P := P) h hl
        exact ⟨vs.toArray, h1, h3⟩
    · simp at h
  case slI b o n c e c' l hl hc hs =>
    simp only [cond_eq_ite] at h
    split at h
    · split at h
      · rename_i hk
        have hk : k = 0 := Nat.eq_of_beq_eq_true hk
        injection h with h; subst h; subst hk
        exact ⟨#[], .nil, h0 _⟩
      · obtain ⟨vs, h1, h2, h3⟩ := R.loadCells (P := P) h hl
        exact ⟨vs.toArray, h1, h3⟩
    · simp at h
  case slZ b o e x l hl =>
    simp only [cond_eq_ite] at h
    split at h
    · rename_i hk0
      have hk0 : k ≤ 0 := Nat.le_of_ble_eq_true hk0
      split at h
      · injection h with h; subst h
        have : k = 0 := by omega
        subst this
        exact ⟨#[], .nil, h0 _⟩
      · rename_i hk
        exact absurd (by rw [Nat.beq_eq]; omega) hk
    · simp at h

theorem growBy_le (need : Nat) : ∀ (r c : Nat), c ≤ 2 * need + 1000 → Builtin.growBy need r c ≤ 2 * need + 1000
  | 0, c, h => h
  | r + 1, c, h => by
    unfold Builtin.growBy
    split
    · exact h
    · exact growBy_le need r _ (by omega)

theorem nextslicecap_le (need c : Nat) (h : c < need) : Builtin.nextslicecap need c ≤ 3 * need + 4096 := by
  unfold Builtin.nextslicecap
  split
  · omega
  · split
    · omega
    · have := growBy_le need 4 c (by omega)
      omega

def isInt (T : Tab) (t : TypeId) : Option Bool :=
  match T.ty.get t with
  | none => none
  | some ti => match ti.k with
    | .int _ => some true
    | _ => some false

theorem isInt_ok {T : Tab} (ok : T.Ok) {t : TypeId} {b : Bool} (h : isInt T t = some b) (w : World) : ∃ d, (underlying t).run T.P w = .ok d w ∧ (d matches .int _) = b := by
  unfold isInt at h
  split at h
  · simp at h
  · rename_i ti ht
    obtain ⟨d, hd, hr, hk⟩ := ty_under ok ht (w := w)
    refine ⟨d, hr, ?_⟩
    split at h <;> injection h with h <;> subst h
    · rename_i k hti
      rw [hti] at hk
      cases d <;> first | exact hk.elim | rfl
    · rename_i hti
      cases d <;> try rfl
      exfalso
      rename_i k
      generalize hkk : ti.k = kk at hk
      cases kk <;> first | exact hk | exact hti _ hkk

/-- Is there room for so many elements, whatever the capacity turns out to be? -/
def roomy (need bytes : Nat) : Bool := cond (Nat.ble ((3 * need + 4096) * bytes) 281474976710656) (Nat.ble need 1152921504606846976) false

def evGrow (size bytes n len b : Nat) (ex : Option Nat) (s : AV) (new : List AV) (M : Mem) : Option (AV × Mem) :=
  cond (roomy (len + n) bytes)
    (match evFirst size len s M with
    | none => none
    | some old =>
      cond (Nat.beq old.length (len * size))
        (match ex with
        | none => some (.sl M.next 0 (len + n) (len + n) (some size), M.new (.cells (old ++ new) true))
        | some se =>
          match M.get b with
          | some (.cells _ true) =>
            cond (Nat.beq se size) (cond (ones new) (some (.sl M.next 0 (len + n) (len + n) (some size), (M.kill b).new (.cells (old ++ new) true))) none) none
          | _ => none) none) none

def evAppend (T : Tab) (t1 t2 : TypeId) (s x : AV) (M : Mem) : Option (AV × Mem) :=
  match T.ty.get t1, isInt T t2 with
  | some ti, some false =>
    match ti.k with
    | .sli e =>
      match T.ty.get e with
      | none => none
      | some te =>
        match evLen x with
        | none => none
        | some n =>
          match evFirst te.size n x M with
          | none => none
          | some new =>
            cond (Nat.beq new.length (n * te.size))
              (match s with
              | .val (.slice none len cap) =>
                cond (Nat.ble (len + n) cap) (some (.val (.slice none (len + n) cap), M)) (evGrow te.size te.bytes n len 0 none s new M)
              | .sl b o len cap ex =>
                cond (Nat.ble (len + n) cap)
                  (cond (Nat.beq n 0) (some (.sl b o len cap ex, M))
                    ((M.storeAt b (o + len * te.size) new).map fun M' => (.sl b o (len + n) cap ex, M')))
                  (evGrow te.size te.bytes n len b ex s new M)
              | _ => none) none
    | _ => none
  | _, _ => none

theorem zeroCells_toList (z : Array Value) (n : Nat) : (Builtin.zeroCells z n).toList = repA n z.toList := by
  unfold Builtin.zeroCells
  exact range_zero' z z.size n rfl

/-- The part of append that makes a greater array. -/
theorem append_grow {T : Tab} (ok : T.Ok) {e : TypeId} {te : TI} (hte : T.ty.get e = some te) {ι : Inj} {M : Mem} {w : World} (R : Rel ι M w) {sv xv : Value} {len n : Nat}
    {old new : Array Value} {oldA newA : List AV} (ho : VRs ι oldA old.toList) (hn : VRs ι newA new.toList)
    (hold : (Builtin.firstCells te.size len sv).run T.P { w with drawn := w.drawn + 1 } = .ok old { w with drawn := w.drawn + 1 })
    (hnew : (Builtin.firstCells te.size n xv).run T.P { w with drawn := w.drawn + 1 } = .ok new { w with drawn := w.drawn + 1 })
    (hol : oldA.length + newA.length = (len + n) * te.size) {sCap : Nat} :
    ∃ ι' w' v, (do
      let newCap ← choose (.appendCap (len + n) sCap e)
      askRoom (newCap * (← typeInfo e).bytes)
      let old ← Builtin.firstCells te.size len sv
      let new ← Builtin.firstCells te.size n xv
      let rest := Builtin.zeroCells (← zeroValue e).cells (newCap - (len + n))
      pure (.slice (some (← newRow e (old ++ new ++ rest))) (len + n) newCap) : Sem Value).run T.P w = .ok v w' ∧
      VR ι' (.sl M.next 0 (len + n) (len + n) (some te.size)) v ∧ Stp ι M w ι' (M.new (.cells (oldA ++ newA) true)) w' := by
  generalize hcap : (Question.appendCap (len + n) sCap e).cut (w.tape w.drawn (.appendCap (len + n) sCap e)) = newCap
  have hge : len + n ≤ newCap := by
    rw [← hcap]
    simp only [Question.cut]
    omega
  have R1 : Rel ι M { w with drawn := w.drawn + 1 } := R.of_heap rfl
  obtain ⟨i, hi, hsz, hby, _⟩ := ty_typeInfo ok hte (w := { w with drawn := w.drawn + 1 })
  obtain ⟨zv, hzr, hzv⟩ := ty_zero ok hte (w := { w with drawn := w.drawn + 1 })
  have hlen := ty_len ok hte
  have hzs : zv.cells.size = te.size := by rw [uno_of_size hzv, hlen]
  have hvs : VRs ι ((oldA ++ newA) ++ repA (newCap - (len + n)) (ofVs te.zero)) (old ++ new ++ Builtin.zeroCells zv.cells (newCap - (len + n))).toList := by
    rw [Array.toList_append, Array.toList_append, zeroCells_toList, hzv]
    exact (ho.append hn).append ((VRs.ofVs ι te.zero).repA _)
  obtain ⟨ι', w', hr, hl, hs⟩ := VS.newRow (P := T.P) R1 (e := e) hvs
  have hsize : (old ++ new ++ Builtin.zeroCells zv.cells (newCap - (len + n))).size = newCap * te.size := by
    have h1 := hvs.length
    simp only [List.length_append, repA_length, ofVs_length, Array.length_toList] at h1
    rw [← h1, hol, hlen, ← Nat.add_mul]
    congr 1
    omega
  refine ⟨ι', w', .slice (some ⟨w.heap.size, 0, none⟩) (len + n) newCap, ?_, ?_, ?_⟩
  · have hf : (Question.appendCap (len + n) sCap e).forced = false := rfl
    simp only [Sem.run_bind, run_choose, hf, Bool.false_eq_true, if_false, Result.andThen_ok, hcap, hi, run_askRoom]
    rw [hold]
    simp only [Result.andThen_ok]
    rw [hnew]
    simp only [Result.andThen_ok, hzr, hr, Sem.run_pure]
  · refine VR.slI M.next 0 (len + n) (len + n) te.size newCap _ hl hge ?_
    simp only [hsize]
    omega
  · have hs0 : Stp ι M w ι M { w with drawn := w.drawn + 1 } := Stp.of_heap R rfl rfl rfl rfl
    have hs1 := hs0.trans hs
    -- the row's own part alone
    refine ⟨⟨?_, ?_, ?_⟩, hs1.ext, hs1.nxt, hs1.new, hs1.size, hs1.frame, ?_, ?_, hs1.os, hs1.tape, hs1.output⟩
    · exact hs1.rel.dom
    · intro b r h
      rw [Mem.get_new] at h
      by_cases hb' : b = M.next
      · simp only [hb', if_true, Option.some.injEq] at h
        subst h
        obtain ⟨l, h1, h2⟩ := hs1.rel.live M.next (.cells ((oldA ++ newA) ++ repA (newCap - (len + n)) (ofVs te.zero)) true) (by rw [Mem.get_new, if_pos rfl])
        refine ⟨l, by rw [hb']; exact h1, ?_⟩
        revert h2
        generalize w'.heap[l.blk]? = o
        intro h2
        cases o with
        | none => exact h2.elim
        | some o =>
          cases o <;> first | exact h2.elim | skip
          obtain ⟨g1, g2, g3, g4⟩ := h2
          refine ⟨g1, ?_, ?_, g4⟩
          · simp only [List.length_append] at g2 ⊢; omega
          · have := g3.take (oldA ++ newA).length
            rw [List.take_left', List.take_take, Nat.min_eq_left (by simp)] at this
            · exact this
            · rfl
      · simp only [hb', if_false] at h
        exact hs1.rel.live b r (by rw [Mem.get_new, if_neg hb']; exact h)
    · intro b b' r r' l l' h1 h2
      rw [Mem.get_new] at h1 h2
      have k : ∀ b r, (if b = M.next then some (Row.cells (oldA ++ newA) true) else M.get b) = some r →
          ∃ r', (M.new (.cells ((oldA ++ newA) ++ repA (newCap - (len + n)) (ofVs te.zero)) true)).get b = some r' := fun b r h => by
        rw [Mem.get_new]
        by_cases hb' : b = M.next
        · exact ⟨_, by rw [if_pos hb']⟩
        · rw [if_neg hb'] at h; exact ⟨r, by rw [if_neg hb']; exact h⟩
      obtain ⟨r1, k1⟩ := k b r h1
      obtain ⟨r2, k2⟩ := k b' r' h2
      exact hs1.rel.inj b b' r1 r2 l l' k1 k2
    · rintro k ⟨b, r, l, h1, h2, h3, h4⟩
      rw [Mem.get_new] at h1
      by_cases hb' : b = M.next
      · exact hs1.evo k ⟨b, _, l, by rw [Mem.get_new, if_pos hb'], rfl, h3, h4⟩
      · rw [if_neg hb'] at h1
        exact hs1.evo k ⟨b, r, l, by rw [Mem.get_new, if_neg hb']; exact h1, h2, h3, h4⟩
    · rintro k ⟨b, r, l, h1, h3, h4⟩
      rw [Mem.get_new] at h1
      by_cases hb' : b = M.next
      · exact hs1.evl k ⟨b, _, l, by rw [Mem.get_new, if_pos hb'], h3, h4⟩
      · rw [if_neg hb'] at h1
        exact hs1.evl k ⟨b, r, l, by rw [Mem.get_new, if_neg hb']; exact h1, h3, h4⟩

end Go.AM
