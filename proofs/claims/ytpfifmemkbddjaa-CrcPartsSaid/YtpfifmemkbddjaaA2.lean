/- The abstract machine, part 2: what the operations do to abstract values and memories. -/
import Derived.Test.YtpfifmemkbddjaaA1
import GoSem.Dispatch
import Derived.Laws.Cells
set_option linter.unusedVariables false
set_option linter.unusedSimpArgs false
namespace Go.AM

mutual
/-- A value of the program's text, as an abstract one. -/
def ofV : Value → AV
  | .agg ⟨cs⟩ => .agg (ofVs cs)
  | .tuple ⟨vs⟩ => .tup (ofVs vs)
  | .bool b => .val (.bool b)
  | .int k n => .val (.int k n)
  | .float k n => .val (.float k n)
  | .complex k n m => .val (.complex k n m)
  | .string s => .val (.string s)
  | .pointer a => .val (.pointer a)
  | .slice a b c => .val (.slice a b c)
  | .map r => .val (.map r)
  | .chan r => .val (.chan r)
  | .func (.func f) ⟨fs⟩ ⟨cs⟩ => .fn f (ofVs fs) (ofVs cs)
  | .func fn a b => .val (.func fn a b)
  | .nilFunc => .val .nilFunc
  | .iface t v => .val (.iface t v)
  | .nilIface => .val .nilIface
def ofVs : List Value → List AV
  | [] => []
  | v :: vs => ofV v :: ofVs vs
end

mutual
theorem VR.ofV (ι : Inj) : ∀ v : Value, VR ι (ofV v) v
  | .agg ⟨cs⟩ => by unfold AM.ofV; exact .agg _ _ (VRs.ofVs ι cs)
  | .tuple ⟨vs⟩ => by unfold AM.ofV; exact .tup _ _ (VRs.ofVs ι vs)
  | .bool b => .val _ rfl
  | .int k n => .val _ rfl
  | .float k n => .val _ rfl
  | .complex k n m => .val _ rfl
  | .string s => .val _ rfl
  | .pointer a => .val _ rfl
  | .slice a b c => .val _ rfl
  | .map r => .val _ rfl
  | .chan r => .val _ rfl
  | .func (.func f) ⟨fs⟩ ⟨cs⟩ => by unfold AM.ofV; exact .fn _ _ _ _ _ (VRs.ofVs ι fs) (VRs.ofVs ι cs)
  | .func (.method _) a b => .val _ rfl
  | .func (.methodOf _ _) a b => .val _ rfl
  | .func (.via _ _ _ _) a b => .val _ rfl
  | .func (.yield _) a b => .val _ rfl
  | .nilFunc => .val _ rfl
  | .iface t v => .val _ rfl
  | .nilIface => .val _ rfl
theorem VRs.ofVs (ι : Inj) : ∀ vs : List Value, VRs ι (ofVs vs) vs
  | [] => .nil
  | v :: vs => .cons _ _ _ _ (VR.ofV ι v) (VRs.ofVs ι vs)
end

theorem ofVs_length : ∀ vs : List Value, (ofVs vs).length = vs.length
  | [] => rfl
  | v :: vs => by simp [ofVs, ofVs_length vs]

/-- What a type is made of. -/
inductive TK where
  | sc
  | bool
  | int (k : IntKind)
  | str
  | st (fs : List (Nat × Nat × Bool))
  | ar (n e : Nat)
  | sli (e : Nat)
  | mp (k v : Nat)
  | pt (e : Nat)

structure TI where
  k : TK
  size : Nat
  bytes : Nat
  zero : List Value
  /-- a struct that is compared field by field: the fields' types -/
  eqf : Option (List Nat) := none

def TI.isAgg (t : TI) : Bool :=
  match t.k with
  | .st _ | .ar _ _ => true
  | _ => false

def infoOf (P : Program) (t : TypeId) : Option (Nat × Nat) := (P.info? t).map fun i => (i.size, i.bytes)

def FieldsOk (P : Program) : List Field → List (Nat × Nat × Bool) → Prop
  | [], [] => True
  | f :: fs, (o, s, a) :: r => f.offset = o ∧ (∃ b, infoOf P f.type = some (s, b)) ∧
      (∃ d, P.underlying f.type = some d ∧ ((match d with | .struct _ | .array _ _ => true | _ => false) = a)) ∧ FieldsOk P fs r
  | _, _ => False

def KindOk (P : Program) : TypeDesc → TK → Prop
  | .int k, .int k' => k = k'
  | .bool, .bool => True
  | .string, .str => True
  | .struct fs, .st l => FieldsOk P fs.toList l
  | .array n e, .ar n' e' => n = n' ∧ e = e'
  | .slice e, .sli e' => e = e'
  | .map k v, .mp k' v' => k = k' ∧ v = v'
  | .pointer e, .pt e' => e = e'
  | .bool, .sc | .int _, .sc | .string, .sc | .struct _, .sc | .array _ _, .sc | .slice _, .sc | .map _ _, .sc | .pointer _, .sc => False
  | _, .sc => True
  | _, _ => False

def EqOk (P : Program) (t : TypeId) (tys : List Nat) : Prop :=
  ∃ fs, P.underlying t = some (.struct fs) ∧ fs.toList.map (·.type) = tys ∧ (∀ f ∈ fs.toList, f.name ≠ "_") ∧ P.stoodInHeld t = false ∧ P.eqGuardType P.depth t = false

/-- The zero value. -/
def TI.zv (ti : TI) : Value := match ti.isAgg, ti.zero with
  | false, [z] => z
  | _, zs => .agg ⟨zs⟩

def TyOk (P : Program) (t : TypeId) (ti : TI) : Prop :=
  ((P.info? t).map fun i => (i.size, i.bytes, i.zero)) = some (ti.size, ti.bytes, some ti.zv) ∧ (ti.zero.length = ti.size ∧ (ti.isAgg = false → ti.zero.length = 1 ∧ ti.zv.uno = true)) ∧ (∃ d, P.underlying t = some d ∧ KindOk P d ti.k) ∧ ∀ tys, ti.eqf = some tys → EqOk P t tys

structure Tab where
  P : Program
  ty : Tr TI
  fn : Tr Func

structure Tab.Ok (T : Tab) : Prop where
  ty : ∀ t ti, T.ty.get t = some ti → TyOk T.P t ti
  fn : ∀ f F, T.fn.get f = some F → T.P.funcs[f]? = some F ∧ F.name ≠ "runtime.NumGoroutine" ∧ F.body.isSome = true

def opnd (t : Tr AV) : Operand → AV
  | .tmp i => (t.get i).getD undefA
  | .const v => ofV v
  | .global g => .val (.pointer (some ⟨g, 0, none⟩))
  | .func f => .fn f [] []

def asI : AV → Option Int
  | .val (.int _ n) => some n
  | _ => none

def asB : AV → Option Bool
  | .val (.bool b) => some b
  | _ => none

def flats : List AV → Option (List Value)
  | [] => some []
  | .val v :: xs => (flats xs).map (v :: ·)
  | _ :: _ => none

def AV.flat : AV → Option Value
  | .val v => some v
  | .agg cs => (flats cs).map fun vs => .agg ⟨vs⟩
  | _ => none

def flatArgs : List AV → Option (List Value)
  | [] => some []
  | x :: xs => match x.flat with
    | some v => (flatArgs xs).map (v :: ·)
    | none => none

theorem flats_eq {ι : Inj} : ∀ {xs : List AV} {vs us : List Value}, VRs ι xs vs → flats xs = some us → vs = us
  | _, _, _, .nil, h => by simp [flats] at h; exact h.symm
  | _, _, us, .cons x v xs vs h hs, e => by
    cases h <;> simp only [flats] at e <;> try (simp at e; done)
    obtain ⟨ws, hw, rfl⟩ := Option.map_eq_some_iff.1 e
    rw [flats_eq hs hw]

theorem flat_eq {ι : Inj} {x : AV} {v u : Value} (h : VR ι x v) (e : x.flat = some u) : v = u := by
  cases h <;> simp only [AV.flat] at e <;> try (simp at e; done)
  · injection e
  · rename_i cs vs hc
    obtain ⟨ws, hw, rfl⟩ := Option.map_eq_some_iff.1 e
    have := flats_eq hc hw
    subst this
    rfl

theorem flatArgs_eq {ι : Inj} : ∀ {xs : List AV} {vs us : List Value}, VRs ι xs vs → flatArgs xs = some us → vs = us
  | _, _, _, .nil, h => by simp [flatArgs] at h; exact h.symm
  | _, _, us, .cons x v xs vs h hs, e => by
    simp only [flatArgs] at e
    split at e
    · rename_i u hu
      obtain ⟨ws, hw, rfl⟩ := Option.map_eq_some_iff.1 e
      rw [flatArgs_eq hs hw, flat_eq h hu]
    · simp at e

/-- What an effect gives that looks at nothing but the program. -/
def peek {α : Type} (P : Program) : Sem α → Option α
  | .pure a => some a
  | .program k => peek P (k P)
  | .mark _ k => peek P k
  | _ => none

theorem peek_run {α : Type} (P : Program) (e : Sem α) (a : α) (h : peek P e = some a) (w : World) : e.run P w = .ok a w := by
  induction e <;> simp only [peek] at h <;> try (simp at h; done)
  · injection h with h; subst h; rfl
  · rename_i k ih; exact ih P h
  · rename_i m k ih; exact ih h

def Mem.cellAt (M : Mem) (b o : Nat) : Option AV :=
  match M.get b with
  | some (.cells cs _) => cs[o]?
  | _ => none

def Mem.cellsAt (M : Mem) (b o n : Nat) : Option (List AV) :=
  match M.get b with
  | some (.cells cs _) => cond (Nat.ble (o + n) cs.length) (some ((cs.drop o).take n)) none
  | _ => none

def setAt {α : Type} : List α → Nat → List α → List α
  | cs, _, [] => cs
  | cs, o, v :: vs => setAt (cs.set o v) (o + 1) vs

def ones : List AV → Bool
  | [] => true
  | x :: xs => cond x.one (ones xs) false

def Mem.storeAt (M : Mem) (b o : Nat) (vs : List AV) : Option Mem :=
  match M.get b with
  | some (.cells cs true) => cond (Nat.ble (o + vs.length) cs.length) (cond (ones vs) (some (M.put b (.cells (setAt cs o vs) true))) none) none
  | _ => none

theorem setAt_length {α : Type} : ∀ (vs cs : List α) (o : Nat), (setAt cs o vs).length = cs.length
  | [], cs, o => rfl
  | v :: vs, cs, o => by simp [setAt, setAt_length vs]

theorem VRs.setAt {ι : Inj} : ∀ {ys : List AV} {us : List Value} {xs : List AV} {vs : List Value}, VRs ι xs vs → ∀ (n : Nat), VRs ι ys us → VRs ι (setAt xs n ys) (AM.setAt vs n us)
  | _, _, _, _, h, _, .nil => h
  | _, _, _, _, h, n, .cons y u ys us hy hs => VRs.setAt (h.set n hy) (n + 1) hs

theorem setAt_window {α : Type} : ∀ (vs L : List α) (b n o : Nat), o + vs.length ≤ n → ((setAt L (b + o) vs).drop b).take n = setAt ((L.drop b).take n) o vs
  | [], L, b, n, o, h => rfl
  | v :: vs, L, b, n, o, h => by
    simp only [setAt, List.length_cons] at *
    rw [show b + o + 1 = b + (o + 1) by omega, setAt_window vs (L.set (b + o) v) b n (o + 1) (by omega)]
    congr 1
    rw [List.drop_set, if_neg (by omega), List.take_set, show b + o - b = o by omega]

section
variable {P : Program} {w : World}

theorem cell?_of {k o : Nat} {c : Array Value} {e : TypeId} {fr : Nat × Nat} (h : w.heap[k]? = some (.cells c e fr)) : w.cell? ⟨k, o, none⟩ = c[o]? := by
  simp [World.cell?, h]

theorem frozen?_of {k o : Nat} {c : Array Value} {e : TypeId} {fr : Nat × Nat} (h : w.heap[k]? = some (.cells c e fr)) : w.frozen? ⟨k, o, none⟩ = (decide (fr.1 ≤ o) && decide (o < fr.2)) := by
  simp [World.frozen?, h]

theorem add_none (k o n : Nat) : (Addr.mk k o none).add n = ⟨k, o + n, none⟩ := by
  unfold Addr.add
  split
  · rename_i h; subst h; rfl
  · rfl

/-- Cells are stored, one behind the other. -/
theorem run_storeCells {k : Nat} {e : TypeId} {fr : Nat × Nat} (o : Nat) : ∀ (vs : List Value) (i : Nat) (w : World) (c : Array Value), w.heap[k]? = some (.cells c e fr) →
    o + i + vs.length ≤ c.size → (∀ j, o + i ≤ j → j < o + i + vs.length → ¬ (fr.1 ≤ j ∧ j < fr.2)) → (∀ v ∈ vs, v.uno = true) →
    ∃ w' c', (storeCells ⟨k, o, none⟩ vs i).run P w = .ok () w' ∧ w'.heap.size = w.heap.size ∧ (∀ j, j ≠ k → w'.heap[j]? = w.heap[j]?) ∧
      w'.heap[k]? = some (.cells c' e fr) ∧ c'.toList = setAt c.toList (o + i) vs ∧ c'.size = c.size ∧ w'.os = w.os ∧ w'.tape = w.tape ∧ w'.output = w.output
  | [], i, w, c, h, _, _, _ => ⟨w, c, rfl, rfl, fun _ _ => rfl, h, rfl, rfl, rfl, rfl, rfl⟩
  | v :: vs, i, w, c, h, hb, hf, h1 => by
    simp only [List.length_cons] at hb hf
    have hk : k < w.heap.size := by
      rcases Nat.lt_or_ge k w.heap.size with h' | h'
      · exact h'
      · rw [Array.getElem?_eq_none h'] at h; simp at h
    have hc : w.cell? ⟨k, o + i, none⟩ = some (c[o + i]'(by omega)) := by rw [cell?_of h, Array.getElem?_eq_getElem (by omega)]
    have hz : w.frozen? ⟨k, o + i, none⟩ = false := by
      rw [frozen?_of h]
      have := hf (o + i) (by omega) (by omega)
      rw [Bool.and_eq_false_iff]
      simp only [decide_eq_false_iff_not]
      omega
    have hv : v.oneCell' = true := by
      have := h1 v (by simp)
      cases v <;> first | rfl | (simp [Value.uno] at this)
    have hw1 : (w.setCell ⟨k, o + i, none⟩ v).heap[k]? = some (.cells (c.setIfInBounds (o + i) v) e fr) := by
      simp only [World.setCell, Array.getElem?_modify, if_true, h, Option.map_some]
      rfl
    obtain ⟨w', c', hr, hs, ho, hk', hl, hsz, r1, r2, r3⟩ := run_storeCells o vs (i + 1) (w.setCell ⟨k, o + i, none⟩ v) (c.setIfInBounds (o + i) v) hw1
      (by rw [Array.size_setIfInBounds]; omega) (fun j hj1 hj2 => hf j (by omega) (by omega)) (fun u hu => h1 u (by simp [hu]))
    refine ⟨w', c', ?_, ?_, ?_, hk', ?_, ?_, r1, r2, r3⟩
    · simp only [storeCells, Sem.run_bind, add_none]
      rw [run_store P w _ v .plain hv, hc]
      simp only [hz]
      exact hr
    · rw [hs]; simp [World.setCell]
    · intro j hj
      rw [ho j hj]
      simp only [World.setCell, Array.getElem?_modify]
      rw [if_neg (fun h => hj h.symm)]
    · rw [hl]
      simp only [setAt, Array.toList_setIfInBounds]
      rfl
    · rw [hsz]; simp
end

theorem VRs.uno {ι : Inj} : ∀ {xs : List AV} {vs : List Value}, VRs ι xs vs → ones xs = true → ∀ v ∈ vs, v.uno = true
  | _, _, .nil, _, v, hv => by simp at hv
  | _, _, .cons x u xs vs h hs, e, v, hv => by
    simp only [ones, cond_eq_ite] at e
    split at e
    · rename_i h1
      simp only [List.mem_cons] at hv
      rcases hv with rfl | hv
      · rw [h.one]; exact h1
      · exact VRs.uno hs e v hv
    · simp at e

section
variable {P : Program} {ι : Inj} {M : Mem} {w : World}

theorem Rel.row (R : Rel ι M w) {b : Nat} {cs : List AV} {rw : Bool} {l : Loc} (h : M.get b = some (.cells cs rw)) (hl : ι b = some l) :
    ∃ c e fr, w.heap[l.blk]? = some (.cells c e fr) ∧ c.size = l.size ∧ l.base + cs.length ≤ c.size ∧ VRs ι cs ((c.toList.drop l.base).take cs.length) ∧
      (rw = true → ∀ k, k < c.size → ¬ (fr.1 ≤ k ∧ k < fr.2)) := by
  obtain ⟨l', h1, h2⟩ := R.live b _ h
  rw [hl] at h1; injection h1 with h1; subst h1
  generalize w.heap[l.blk]? = o at h2
  cases o with
  | none => exact h2.elim
  | some o => cases o <;> first | exact h2.elim | exact ⟨_, _, _, rfl, h2.1, h2.2.1, h2.2.2.1, h2.2.2.2⟩

theorem Rel.cell (R : Rel ι M w) {b o : Nat} {x : AV} {l : Loc} (h : M.cellAt b o = some x) (hl : ι b = some l) : ∃ v, w.cell? ⟨l.blk, l.base + o, none⟩ = some v ∧ VR ι x v := by
  unfold Mem.cellAt at h
  split at h
  · rename_i cs rw hg
    obtain ⟨c, e, fr, hk, hs, hb, hv, _⟩ := R.row hg hl
    obtain ⟨v, h1, h2⟩ := hv.get o x h
    refine ⟨v, ?_, h2⟩
    rw [cell?_of hk]
    have hlt : o < cs.length := by
      rcases Nat.lt_or_ge o cs.length with h' | h'
      · exact h'
      · rw [List.getElem?_eq_none h'] at h; simp at h
    rw [List.getElem?_take_of_lt hlt, List.getElem?_drop] at h1
    simpa using h1
  · simp at h

theorem Rel.cells (R : Rel ι M w) {b o n : Nat} {xs : List AV} {l : Loc} (h : M.cellsAt b o n = some xs) (hl : ι b = some l) :
    ∃ vs, VRs ι xs vs ∧ vs.length = n ∧ (∀ j v, vs[j]? = some v → w.cell? ((Addr.mk l.blk (l.base + o) none).add j) = some v) := by
  unfold Mem.cellsAt at h
  split at h
  · rename_i cs rw hg
    rw [cond_eq_ite] at h
    split at h
    · rename_i hle
      have hle : o + n ≤ cs.length := Nat.le_of_ble_eq_true hle
      injection h with h; subst h
      obtain ⟨c, e, fr, hk, hs, hb, hv, _⟩ := R.row hg hl
      refine ⟨_, (hv.drop o).take n, ?_, ?_⟩
      · have h1 : c.toList.length = c.size := by simp
        simp only [List.length_take, List.length_drop, h1]
        omega
      · intro j v hj
        rw [add_none, cell?_of hk]
        have hlt : j < n := by
          rcases Nat.lt_or_ge j n with h' | h'
          · exact h'
          · rw [List.getElem?_eq_none (by simp only [List.length_take]; omega)] at hj; simp at hj
        rw [List.getElem?_take_of_lt hlt, List.getElem?_drop, List.getElem?_take_of_lt (by omega), List.getElem?_drop] at hj
        rw [← Array.getElem?_toList, show l.base + o + j = l.base + (o + j) by omega]
        exact hj
    · simp at h
  · simp at h

theorem Rel.loadCells (R : Rel ι M w) {b o n : Nat} {xs : List AV} {l : Loc} (h : M.cellsAt b o n = some xs) (hl : ι b = some l) :
    ∃ vs, VRs ι xs vs ∧ vs.length = n ∧ (loadCells ⟨l.blk, l.base + o, none⟩ n).run P w = .ok vs.toArray w := by
  obtain ⟨vs, h1, h2, h3⟩ := R.cells h hl
  refine ⟨vs, h1, h2, ?_⟩
  rw [← h2]
  exact run_loadCells_list w _ vs h3

theorem Rel.store (R : Rel ι M w) {b o : Nat} {xs : List AV} {vs : List Value} {l : Loc} {M' : Mem} (h : M.storeAt b o xs = some M') (hl : ι b = some l) (hx : VRs ι xs vs) :
    ∃ w', (storeCells ⟨l.blk, l.base + o, none⟩ vs).run P w = .ok () w' ∧ Stp ι M w ι M' w' := by
  unfold Mem.storeAt at h
  split at h
  · rename_i cs hg
    simp only [cond_eq_ite] at h
    split at h
    · rename_i hle
      have hle : o + xs.length ≤ cs.length := Nat.le_of_ble_eq_true hle
      split at h
      · rename_i h1
        injection h with h; subst h
        obtain ⟨c, e, fr, hk, hs, hb, hv, hfr⟩ := R.row hg hl
        have hlen := hx.length
        obtain ⟨w', c', hrun, hsz, hoth, hk', hl', hcs, r1, r2, r3⟩ := run_storeCells (P := P) (l.base + o) vs 0 w c hk (by omega)
          (fun j _ hj => hfr rfl j (by omega)) (hx.uno h1)
        refine ⟨w', hrun, Stp.write R hg rfl hl hsz hoth ?_ r1 r2 r3⟩
        rw [hk']
        refine ⟨by omega, by rw [setAt_length]; omega, ?_, fun _ k hk2 => hfr rfl k (by omega)⟩
        rw [hl', setAt_length, Nat.add_zero, setAt_window vs c.toList l.base cs.length o (by omega)]
        exact hv.setAt o hx
      · simp at h
    · simp at h
  · simp at h
end

end Go.AM
