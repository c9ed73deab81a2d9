/- The abstract machine, part 1: tries, abstract values and memories, how they stand to the model's worlds. -/
import Derived.Calls
import Derived.Orders
import Derived.KernelRfl
set_option linter.unusedVariables false
set_option linter.unusedSimpArgs false
namespace Go.AM

def _root_.Go.Value.uno : Value → Bool
  | .agg _ | .tuple _ => false
  | _ => true

/-- A trie over natural numbers: 0 at the root, odd numbers to the left, even ones to the right. -/
inductive Tr (α : Type) where
  | e : Tr α
  | n (l : Tr α) (x : Option α) (r : Tr α) : Tr α

namespace Tr
variable {α : Type}

def get : Tr α → Nat → Option α
  | .e, _ => none
  | .n l x r, i => cond (Nat.beq i 0) x (cond (Nat.beq (Nat.mod i 2) 1) (l.get (Nat.div i 2)) (r.get (Nat.div i 2 - 1)))

def left : Tr α → Tr α
  | .e => .e
  | .n l _ _ => l
def right : Tr α → Tr α
  | .e => .e
  | .n _ _ r => r
def here : Tr α → Option α
  | .e => none
  | .n _ x _ => x

def setF : Nat → Tr α → Nat → Option α → Tr α
  | 0, t, _, _ => t
  | f + 1, t, i, y =>
    cond (Nat.beq i 0) (.n t.left y t.right)
      (cond (Nat.beq (Nat.mod i 2) 1) (.n (setF f t.left (Nat.div i 2) y) t.here t.right) (.n t.left t.here (setF f t.right (Nat.div i 2 - 1) y)))

def set (t : Tr α) (i : Nat) (y : Option α) : Tr α := setF (i + 1) t i y

theorem get_n (l r : Tr α) (x : Option α) (i : Nat) :
    (Tr.n l x r).get i = if i = 0 then x else if i % 2 = 1 then l.get (i / 2) else r.get (i / 2 - 1) := by
  simp only [get, cond_eq_ite, Nat.beq_eq]
  rfl

theorem get_eta (t : Tr α) (i : Nat) : t.get i = if i = 0 then t.here else if i % 2 = 1 then t.left.get (i / 2) else t.right.get (i / 2 - 1) := by
  cases t with
  | e => simp [get, here, left, right]
  | n l x r => rw [get_n]; rfl

theorem get_setF : ∀ (f : Nat) (t : Tr α) (i : Nat) (y : Option α) (j : Nat), i < f → (setF f t i y).get j = if j = i then y else t.get j
  | 0, _, _, _, _, h => absurd h (by omega)
  | f + 1, t, i, y, j, h => by
    simp only [setF, cond_eq_ite, Nat.beq_eq]
    have e2 : ∀ k, Nat.mod k 2 = k % 2 := fun _ => rfl
    have e3 : ∀ k, Nat.div k 2 = k / 2 := fun _ => rfl
    rw [e2, e3]
    by_cases h0 : i = 0
    · subst h0
      simp only [if_true]
      rw [get_n, get_eta t j]
      by_cases hj : j = 0
      · simp [hj]
      · simp [hj]
    · simp only [h0, if_false]
      by_cases h1 : i % 2 = 1
      · simp only [h1, if_true]
        rw [get_n, get_eta t j, get_setF f t.left (i / 2) y (j / 2) (by omega)]
        by_cases hj : j = 0
        · subst hj
          have : ¬ (0 = i) := by omega
          simp [this]
        · simp only [hj, if_false]
          by_cases hj1 : j % 2 = 1
          · simp only [hj1, if_true]
            by_cases hji : j = i
            · subst hji; simp
            · have : ¬ (j / 2 = i / 2) := by omega
              simp [this, hji]
          · have : ¬ (j = i) := by intro h; subst h; exact hj1 h1
            simp [hj1, this]
      · simp only [h1, if_false]
        rw [get_n, get_eta t j, get_setF f t.right (i / 2 - 1) y (j / 2 - 1) (by omega)]
        by_cases hj : j = 0
        · subst hj
          have : ¬ (0 = i) := by omega
          simp [this]
        · simp only [hj, if_false]
          by_cases hj1 : j % 2 = 1
          · have : ¬ (j = i) := by intro h; subst h; exact h1 hj1
            simp [hj1, this]
          · simp only [hj1, if_false]
            by_cases hji : j = i
            · subst hji; simp
            · have : ¬ (j / 2 - 1 = i / 2 - 1) := by omega
              simp [this, hji]

theorem get_set (t : Tr α) (i : Nat) (y : Option α) (j : Nat) : (t.set i y).get j = if j = i then y else t.get j :=
  get_setF (i + 1) t i y j (by omega)

theorem get_set_eq (t : Tr α) (i : Nat) (y : Option α) : (t.set i y).get i = y := by rw [get_set, if_pos rfl]
theorem get_set_ne (t : Tr α) (i : Nat) (y : Option α) (j : Nat) (h : j ≠ i) : (t.set i y).get j = t.get j := by rw [get_set, if_neg h]

def ofList (k : Nat) : List α → Tr α
  | [] => .e
  | x :: xs => (ofList (k + 1) xs).set k (some x)

end Tr

/-- Abstract values: 'val' bears no address; a slice says whether its capacity is known ('none'), or a bound from below (the elements' size). -/
inductive AV where
  | val (v : Value)
  | ptr (b o : Nat)
  | sl (b o len cap : Nat) (ex : Option Nat)
  | map (b : Nat)
  | fn (f : FuncId) (first caps : List AV)
  | agg (cs : List AV)
  | tup (vs : List AV)

instance : Inhabited AV := ⟨.tup []⟩

def AV.one : AV → Bool
  | .agg _ | .tup _ => false
  | _ => true

def AV.cells : AV → List AV
  | .agg cs => cs
  | v => [v]

def undefA : AV := .tup []

inductive Row where
  | cells (cs : List AV) (rw : Bool)
  | map (es : List (AV × AV))
  | sit (s : ByteArray) (pos : Nat)

def Row.rw : Row → Bool
  | .cells _ b => b
  | _ => true

structure Mem where
  next : Nat
  rows : Tr Row

def Mem.get (M : Mem) (b : Nat) : Option Row := M.rows.get b
def Mem.put (M : Mem) (b : Nat) (r : Row) : Mem := { M with rows := M.rows.set b (some r) }
def Mem.kill (M : Mem) (b : Nat) : Mem := { M with rows := M.rows.set b none }
def Mem.new (M : Mem) (r : Row) : Mem := { next := M.next + 1, rows := M.rows.set M.next (some r) }

theorem Mem.get_put (M : Mem) (b : Nat) (r : Row) (c : Nat) : (M.put b r).get c = if c = b then some r else M.get c := Tr.get_set _ _ _ _
theorem Mem.get_kill (M : Mem) (b c : Nat) : (M.kill b).get c = if c = b then none else M.get c := Tr.get_set _ _ _ _
theorem Mem.get_new (M : Mem) (r : Row) (c : Nat) : (M.new r).get c = if c = M.next then some r else M.get c := Tr.get_set _ _ _ _
@[simp] theorem Mem.next_put (M : Mem) (b : Nat) (r : Row) : (M.put b r).next = M.next := rfl
@[simp] theorem Mem.next_kill (M : Mem) (b : Nat) : (M.kill b).next = M.next := rfl
@[simp] theorem Mem.next_new (M : Mem) (r : Row) : (M.new r).next = M.next + 1 := rfl

/-- Where an abstract block lies: a block of the heap, from which cell on; how many cells that block has. -/
structure Loc where
  blk : Nat
  base : Nat
  size : Nat

abbrev Inj := Nat → Option Loc

mutual
inductive VR (ι : Inj) : AV → Value → Prop
  | val (v : Value) (h : v.uno = true) : VR ι (.val v) v
  | ptr (b o : Nat) (l : Loc) (h : ι b = some l) : VR ι (.ptr b o) (.pointer (some ⟨l.blk, l.base + o, none⟩))
  | slE (b o n c : Nat) (l : Loc) (h : ι b = some l) : VR ι (.sl b o n c none) (.slice (some ⟨l.blk, l.base + o, none⟩) n c)
  | slI (b o n c e c' : Nat) (l : Loc) (h : ι b = some l) (hc : c ≤ c') (hs : l.base + o + c' * e ≤ l.size) :
      VR ι (.sl b o n c (some e)) (.slice (some ⟨l.blk, l.base + o, none⟩) n c')
  | slZ (b o e x : Nat) (l : Loc) (h : ι b = some l) : VR ι (.sl b o 0 0 (some e)) (.slice (some ⟨l.blk, x, none⟩) 0 0)
  | map (b : Nat) (l : Loc) (h : ι b = some l) : VR ι (.map b) (.map (some l.blk))
  | fn (f : FuncId) (fs cs : List AV) (vf vc : Array Value) (hf : VRs ι fs vf.toList) (hc : VRs ι cs vc.toList) :
      VR ι (.fn f fs cs) (.func (.func f) vf vc)
  | agg (cs : List AV) (vs : Array Value) (h : VRs ι cs vs.toList) : VR ι (.agg cs) (.agg vs)
  | tup (cs : List AV) (vs : Array Value) (h : VRs ι cs vs.toList) : VR ι (.tup cs) (.tuple vs)
inductive VRs (ι : Inj) : List AV → List Value → Prop
  | nil : VRs ι [] []
  | cons (x : AV) (v : Value) (xs : List AV) (vs : List Value) (h : VR ι x v) (hs : VRs ι xs vs) : VRs ι (x :: xs) (v :: vs)
end

def Ext (ι ι' : Inj) : Prop := ∀ b l, ι b = some l → ι' b = some l

theorem Ext.refl (ι : Inj) : Ext ι ι := fun _ _ h => h
theorem Ext.trans {ι ι' ι'' : Inj} (h : Ext ι ι') (k : Ext ι' ι'') : Ext ι ι'' := fun b l e => k b l (h b l e)

mutual
theorem VR.mono {ι ι' : Inj} (he : Ext ι ι') : ∀ {x : AV} {v : Value}, VR ι x v → VR ι' x v
  | _, _, .val v h => .val v h
  | _, _, .ptr b o l h => .ptr b o l (he _ _ h)
  | _, _, .slE b o n c l h => .slE b o n c l (he _ _ h)
  | _, _, .slI b o n c e c' l h hc hs => .slI b o n c e c' l (he _ _ h) hc hs
  | _, _, .slZ b o e x l h => .slZ b o e x l (he _ _ h)
  | _, _, .map b l h => .map b l (he _ _ h)
  | _, _, .fn f fs cs vf vc hf hc => .fn f fs cs vf vc (VRs.mono he hf) (VRs.mono he hc)
  | _, _, .agg cs vs h => .agg cs vs (VRs.mono he h)
  | _, _, .tup cs vs h => .tup cs vs (VRs.mono he h)
theorem VRs.mono {ι ι' : Inj} (he : Ext ι ι') : ∀ {xs : List AV} {vs : List Value}, VRs ι xs vs → VRs ι' xs vs
  | _, _, .nil => .nil
  | _, _, .cons x v xs vs h hs => .cons x v xs vs (VR.mono he h) (VRs.mono he hs)
end

theorem VR.undef (ι : Inj) : VR ι undefA undef := .tup [] #[] .nil

theorem VRs.length {ι : Inj} : ∀ {xs : List AV} {vs : List Value}, VRs ι xs vs → xs.length = vs.length
  | _, _, .nil => rfl
  | _, _, .cons _ _ _ _ _ hs => by simp [VRs.length hs]

theorem VRs.get {ι : Inj} : ∀ {xs : List AV} {vs : List Value}, VRs ι xs vs → ∀ (i : Nat) (x : AV), xs[i]? = some x → ∃ v, vs[i]? = some v ∧ VR ι x v
  | _, _, .nil, i, x, h => by simp at h
  | _, _, .cons y v xs vs h1 hs, 0, x, h => by simp at h; subst h; exact ⟨v, by simp, h1⟩
  | _, _, .cons y v xs vs h1 hs, i + 1, x, h => by simp at h; simpa using VRs.get hs i x h

theorem VRs.append {ι : Inj} : ∀ {xs : List AV} {vs : List Value} {ys : List AV} {us : List Value}, VRs ι xs vs → VRs ι ys us → VRs ι (xs ++ ys) (vs ++ us)
  | _, _, _, _, .nil, h => h
  | _, _, _, _, .cons x v xs vs h1 hs, h => .cons _ _ _ _ h1 (VRs.append hs h)

theorem VRs.take {ι : Inj} : ∀ {xs : List AV} {vs : List Value}, VRs ι xs vs → ∀ n, VRs ι (xs.take n) (vs.take n)
  | _, _, .nil, n => by simpa using VRs.nil
  | _, _, .cons x v xs vs h1 hs, 0 => by simpa using VRs.nil
  | _, _, .cons x v xs vs h1 hs, n + 1 => by simpa using VRs.cons _ _ _ _ h1 (VRs.take hs n)

theorem VRs.drop {ι : Inj} : ∀ {xs : List AV} {vs : List Value}, VRs ι xs vs → ∀ n, VRs ι (xs.drop n) (vs.drop n)
  | _, _, .nil, n => by simpa using VRs.nil
  | _, _, .cons x v xs vs h1 hs, 0 => by simpa using VRs.cons _ _ _ _ h1 hs
  | _, _, .cons x v xs vs h1 hs, n + 1 => by simpa using VRs.drop hs n

theorem VRs.set {ι : Inj} : ∀ {xs : List AV} {vs : List Value}, VRs ι xs vs → ∀ (n : Nat) {y : AV} {u : Value}, VR ι y u → VRs ι (xs.set n y) (vs.set n u)
  | _, _, .nil, n, y, u, h => by simpa using VRs.nil
  | _, _, .cons x v xs vs h1 hs, 0, y, u, h => by simpa using VRs.cons _ _ _ _ h hs
  | _, _, .cons x v xs vs h1 hs, n + 1, y, u, h => by simpa using VRs.cons _ _ _ _ h1 (VRs.set hs n h)

theorem VRs.replicate {ι : Inj} {x : AV} {v : Value} (h : VR ι x v) : ∀ n, VRs ι (List.replicate n x) (List.replicate n v)
  | 0 => .nil
  | n + 1 => .cons _ _ _ _ h (VRs.replicate h n)

theorem VRs.vals {ι : Inj} : ∀ (vs : List Value), (∀ v ∈ vs, v.uno = true) → VRs ι (vs.map .val) vs
  | [], _ => .nil
  | v :: vs, h => .cons _ _ _ _ (.val v (h v (by simp))) (VRs.vals vs fun u hu => h u (by simp [hu]))

theorem VR.one {ι : Inj} {x : AV} {v : Value} (h : VR ι x v) : v.uno = x.one := by
  cases h <;> first | rfl | assumption

theorem VR.cells {ι : Inj} {x : AV} {v : Value} (h : VR ι x v) : VRs ι x.cells v.cells.toList := by
  cases h with
  | agg cs vs h => exact h
  | val v h => cases v <;> first | exact .cons _ _ _ _ (.val _ rfl) .nil | (simp [Value.uno] at h)
  | ptr b o l h => exact .cons _ _ _ _ (.ptr b o l h) .nil
  | slE b o n c l h => exact .cons _ _ _ _ (.slE b o n c l h) .nil
  | slI b o n c e c' l h hc hs => exact .cons _ _ _ _ (.slI b o n c e c' l h hc hs) .nil
  | slZ b o e x l h => exact .cons _ _ _ _ (.slZ b o e x l h) .nil
  | map b l h => exact .cons _ _ _ _ (.map b l h) .nil
  | fn f fs cs vf vc hf hc => exact .cons _ _ _ _ (.fn f fs cs vf vc hf hc) .nil
  | tup cs vs h => exact .cons _ _ _ _ (.tup cs vs h) .nil

inductive EntR (ι : Inj) : List (AV × AV) → List MapEntry → Prop
  | nil : EntR ι [] []
  | cons (k x : AV) (m : MapEntry) (es : List (AV × AV)) (ms : List MapEntry) (hk : VR ι k m.key) (hv : VR ι x m.val) (hs : EntR ι es ms) : EntR ι ((k, x) :: es) (m :: ms)

theorem EntR.mono {ι ι' : Inj} (he : Ext ι ι') : ∀ {es : List (AV × AV)} {ms : List MapEntry}, EntR ι es ms → EntR ι' es ms
  | _, _, .nil => .nil
  | _, _, .cons k x m es ms hk hv hs => .cons k x m es ms (hk.mono he) (hv.mono he) (EntR.mono he hs)

theorem EntR.length {ι : Inj} : ∀ {es : List (AV × AV)} {ms : List MapEntry}, EntR ι es ms → es.length = ms.length
  | _, _, .nil => rfl
  | _, _, .cons _ _ _ _ _ _ _ hs => by simp [EntR.length hs]

/-- How a row stands to an object of the heap. -/
def RowR (ι : Inj) (l : Loc) : Row → Option Obj → Prop
  | .cells cs rw, some (.cells c _ fr) => c.size = l.size ∧ l.base + cs.length ≤ c.size ∧ VRs ι cs ((c.toList.drop l.base).take cs.length) ∧
      (rw = true → ∀ k, k < c.size → ¬ (fr.1 ≤ k ∧ k < fr.2))
  | .map es, some (.map ms _) => EntR ι es ms.toList
  | .sit s pos, some (.stringIter s' pos') => s' = s ∧ pos' = pos ∧ l.base = 0
  | _, _ => False

theorem RowR.mono {ι ι' : Inj} (he : Ext ι ι') {l : Loc} {r : Row} {o : Option Obj} (h : RowR ι l r o) : RowR ι' l r o := by
  cases r <;> cases o <;> try (exact h.elim)
  all_goals
    rename_i o
    cases o <;> try (exact h.elim)
  · exact ⟨h.1, h.2.1, h.2.2.1.mono he, h.2.2.2⟩
  · exact EntR.mono he h
  · exact h

structure Rel (ι : Inj) (M : Mem) (w : World) : Prop where
  dom : ∀ b l, ι b = some l → b < M.next
  live : ∀ b r, M.get b = some r → ∃ l, ι b = some l ∧ RowR ι l r w.heap[l.blk]?
  inj : ∀ b b' r r' l l', M.get b = some r → M.get b' = some r' → ι b = some l → ι b' = some l' → l.blk = l'.blk → b = b'

def RwAt (ι : Inj) (M : Mem) (k : Nat) : Prop := ∃ b r l, M.get b = some r ∧ r.rw = true ∧ ι b = some l ∧ l.blk = k

def LvAt (ι : Inj) (M : Mem) (k : Nat) : Prop := ∃ b r l, M.get b = some r ∧ ι b = some l ∧ l.blk = k

/-- From one pair of memory and world to another one. -/
structure Stp (ι : Inj) (M : Mem) (w : World) (ι' : Inj) (M' : Mem) (w' : World) : Prop where
  rel : Rel ι' M' w'
  ext : Ext ι ι'
  nxt : M.next ≤ M'.next
  new : ∀ b l, ι' b = some l → ι b = some l ∨ M.next ≤ b
  size : w.heap.size ≤ w'.heap.size
  frame : ∀ k, k < w.heap.size → ¬ RwAt ι M k → w'.heap[k]? = w.heap[k]?
  evo : ∀ k, RwAt ι' M' k → w.heap.size ≤ k ∨ RwAt ι M k
  evl : ∀ k, LvAt ι' M' k → w.heap.size ≤ k ∨ LvAt ι M k
  os : w'.os = w.os
  tape : w'.tape = w.tape
  output : w'.output = w.output

theorem Stp.refl {ι : Inj} {M : Mem} {w : World} (R : Rel ι M w) : Stp ι M w ι M w :=
  ⟨R, Ext.refl ι, Nat.le_refl _, fun _ _ h => .inl h, Nat.le_refl _, fun _ _ _ => rfl, fun _ h => .inr h, fun _ h => .inr h, rfl, rfl, rfl⟩

theorem Stp.trans {ι ι1 ι2 : Inj} {M M1 M2 : Mem} {w w1 w2 : World} (h : Stp ι M w ι1 M1 w1) (k : Stp ι1 M1 w1 ι2 M2 w2) : Stp ι M w ι2 M2 w2 where
  rel := k.rel
  ext := h.ext.trans k.ext
  nxt := Nat.le_trans h.nxt k.nxt
  new := fun b l hb => by
    rcases k.new b l hb with h1 | h1
    · exact h.new b l h1
    · exact .inr (Nat.le_trans h.nxt h1)
  size := Nat.le_trans h.size k.size
  frame := fun j hj hn => by
    rw [k.frame j (Nat.lt_of_lt_of_le hj h.size) (fun hr => by
      rcases h.evo j hr with h1 | h1
      · omega
      · exact hn h1), h.frame j hj hn]
  evo := fun j hj => by
    rcases k.evo j hj with h1 | h1
    · exact .inl (Nat.le_trans h.size h1)
    · exact h.evo j h1
  evl := fun j hj => by
    rcases k.evl j hj with h1 | h1
    · exact .inl (Nat.le_trans h.size h1)
    · exact h.evl j h1
  os := k.os.trans h.os
  tape := k.tape.trans h.tape
  output := k.output.trans h.output

/-- A draw, or whatever else leaves the heap alone. -/
theorem Rel.of_heap {ι : Inj} {M : Mem} {w w' : World} (R : Rel ι M w) (h : w'.heap = w.heap) : Rel ι M w' :=
  ⟨R.dom, fun b r hr => by obtain ⟨l, hl, hrow⟩ := R.live b r hr; exact ⟨l, hl, by rw [h]; exact hrow⟩, R.inj⟩

theorem Stp.of_heap {ι : Inj} {M : Mem} {w w' : World} (R : Rel ι M w) (h : w'.heap = w.heap) (ho : w'.os = w.os) (ht : w'.tape = w.tape) (hu : w'.output = w.output) :
    Stp ι M w ι M w' :=
  ⟨R.of_heap h, Ext.refl ι, Nat.le_refl _, fun _ _ h => .inl h, by rw [h]; exact Nat.le_refl _, fun _ _ _ => by rw [h], fun _ h => .inr h, fun _ h => .inr h, ho, ht, hu⟩

theorem new_upd {ι : Inj} {n : Nat} {l : Loc} : ∀ b l', (if b = n then some l else ι b) = some l' → ι b = some l' ∨ n ≤ b := fun b l' h => by
  by_cases hb : b = n
  · exact .inr (by omega)
  · rw [if_neg hb] at h; exact .inl h

/-- A new block. -/
theorem Stp.alloc {ι : Inj} {M : Mem} {w : World} (R : Rel ι M w) (r : Row) (o : Obj) (l : Loc) (hb : l.blk = w.heap.size)
    (hr : RowR (fun b => if b = M.next then some l else ι b) l r (some o)) :
    Stp ι M w (fun b => if b = M.next then some l else ι b) (M.new r) { w with heap := w.heap.push o } := by
  have hext : Ext ι (fun b => if b = M.next then some l else ι b) := fun b l' h => by
    have := R.dom b l' h
    have hne : ¬ (b = M.next) := by omega
    simp [hne, h]
  have hold : ∀ b r, M.get b = some r → b ≠ M.next := fun b r h he => by
    obtain ⟨l', h', _⟩ := R.live b r h
    have := R.dom b l' h'
    omega
  have hlt : ∀ b r l', M.get b = some r → ι b = some l' → l'.blk < w.heap.size := fun b r l' h hl => by
    obtain ⟨l2, h2, hrow⟩ := R.live b r h
    rw [hl] at h2; injection h2 with h2; subst h2
    rcases Nat.lt_or_ge l'.blk w.heap.size with h3 | h3
    · exact h3
    · rw [Array.getElem?_eq_none h3] at hrow
      cases r <;> exact hrow.elim
  refine ⟨⟨?_, ?_, ?_⟩, hext, by simp, new_upd, by simp, ?_, ?_, ?_, rfl, rfl, rfl⟩
  · intro b l' h
    by_cases hb' : b = M.next
    · simp [hb']
    · simp only [hb', if_false] at h
      have := R.dom b l' h
      simp; omega
  · intro b r' h
    rw [Mem.get_new] at h
    by_cases hb' : b = M.next
    · simp only [hb', if_true, Option.some.injEq] at h
      subst h
      refine ⟨l, by simp [hb'], ?_⟩
      simp only [hb, Array.getElem?_push_size]
      exact hr
    · simp only [hb', if_false] at h
      obtain ⟨l', hl, hrow⟩ := R.live b r' h
      refine ⟨l', by simp [hb', hl], ?_⟩
      have := hlt b r' l' h hl
      simp only
      rw [Array.getElem?_push, if_neg (by omega)]
      exact hrow.mono hext
  · intro b b' r1 r2 l1 l2 h1 h2 hl1 hl2 he
    rw [Mem.get_new] at h1 h2
    by_cases hb1 : b = M.next <;> by_cases hb2 : b' = M.next
    · omega
    · simp only [hb1, if_true] at hl1
      simp only [hb2, if_false] at h2 hl2
      injection hl1 with hl1; subst hl1
      have := hlt b' r2 l2 h2 hl2
      omega
    · simp only [hb2, if_true] at hl2
      simp only [hb1, if_false] at h1 hl1
      injection hl2 with hl2; subst hl2
      have := hlt b r1 l1 h1 hl1
      omega
    · simp only [hb1, if_false] at h1 hl1
      simp only [hb2, if_false] at h2 hl2
      exact R.inj b b' r1 r2 l1 l2 h1 h2 hl1 hl2 he
  · intro k hk _
    simp only
    rw [Array.getElem?_push, if_neg (by omega)]
  · rintro k ⟨b, r', l', h1, h2, h3, h4⟩
    rw [Mem.get_new] at h1
    by_cases hb' : b = M.next
    · simp only [hb', if_true, Option.some.injEq] at h3
      subst h3
      left; omega
    · simp only [hb', if_false] at h1 h3
      exact .inr ⟨b, r', l', h1, h2, h3, h4⟩
  · rintro k ⟨b, r', l', h1, h3, h4⟩
    rw [Mem.get_new] at h1
    by_cases hb' : b = M.next
    · simp only [hb', if_true, Option.some.injEq] at h3
      subst h3
      left; omega
    · simp only [hb', if_false] at h1 h3
      exact .inr ⟨b, r', l', h1, h3, h4⟩

/-- A row that may be written is written: another object stands in its block. -/
theorem Stp.write {ι : Inj} {M : Mem} {w w' : World} (R : Rel ι M w) {b : Nat} {r r' : Row} {l : Loc} (hg : M.get b = some r) (hrw : r.rw = true) (hl : ι b = some l)
    (hs : w'.heap.size = w.heap.size) (hother : ∀ k, k ≠ l.blk → w'.heap[k]? = w.heap[k]?) (hrow : RowR ι l r' w'.heap[l.blk]?)
    (ho : w'.os = w.os) (ht : w'.tape = w.tape) (hu : w'.output = w.output) : Stp ι M w ι (M.put b r') w' := by
  refine ⟨⟨R.dom, ?_, ?_⟩, Ext.refl ι, by simp, fun _ _ h => .inl h, by omega, ?_, ?_, ?_, ho, ht, hu⟩
  · intro c s h
    rw [Mem.get_put] at h
    by_cases hc : c = b
    · simp only [hc, if_true, Option.some.injEq] at h
      subst h; subst hc
      exact ⟨l, hl, hrow⟩
    · simp only [hc, if_false] at h
      obtain ⟨l', hl', hr'⟩ := R.live c s h
      refine ⟨l', hl', ?_⟩
      rw [hother]
      · exact hr'
      · intro he
        exact hc (R.inj c b s r l' l h hg hl' hl he)
  · intro c c' s s' l1 l2 h1 h2 hl1 hl2 he
    rw [Mem.get_put] at h1 h2
    have g1 : ∃ s, M.get c = some s := by
      by_cases hc : c = b
      · exact ⟨r, by rw [hc]; exact hg⟩
      · simp only [hc, if_false] at h1; exact ⟨_, h1⟩
    have g2 : ∃ s, M.get c' = some s := by
      by_cases hc : c' = b
      · exact ⟨r, by rw [hc]; exact hg⟩
      · simp only [hc, if_false] at h2; exact ⟨_, h2⟩
    obtain ⟨s1, g1⟩ := g1
    obtain ⟨s2, g2⟩ := g2
    exact R.inj c c' s1 s2 l1 l2 g1 g2 hl1 hl2 he
  · intro k _ hn
    apply hother
    intro he
    exact hn ⟨b, r, l, hg, hrw, hl, he.symm⟩
  · rintro k ⟨c, s, l', h1, h2, h3, h4⟩
    rw [Mem.get_put] at h1
    by_cases hc : c = b
    · subst hc
      exact .inr ⟨c, r, l', hg, hrw, h3, h4⟩
    · simp only [hc, if_false] at h1
      exact .inr ⟨c, s, l', h1, h2, h3, h4⟩
  · rintro k ⟨c, s, l', h1, h3, h4⟩
    rw [Mem.get_put] at h1
    by_cases hc : c = b
    · subst hc
      exact .inr ⟨c, r, l', hg, h3, h4⟩
    · simp only [hc, if_false] at h1
      exact .inr ⟨c, s, l', h1, h3, h4⟩

/-- Rows may be forgotten. -/
theorem Rel.forget {ι : Inj} {M M' : Mem} {w : World} (R : Rel ι M w) (hn : M.next ≤ M'.next) (h : ∀ b r, M'.get b = some r → M.get b = some r) : Rel ι M' w :=
  ⟨fun b l hb => Nat.lt_of_lt_of_le (R.dom b l hb) hn, fun b r hr => R.live b r (h b r hr), fun b b' r r' l l' h1 h2 => R.inj b b' r r' l l' (h b r h1) (h b' r' h2)⟩

theorem Stp.forget {ι ι' : Inj} {M M' M'' : Mem} {w w' : World} (S : Stp ι M w ι' M' w') (hn : M'.next ≤ M''.next) (h : ∀ b r, M''.get b = some r → M'.get b = some r) :
    Stp ι M w ι' M'' w' :=
  ⟨S.rel.forget hn h, S.ext, Nat.le_trans S.nxt hn, S.new, S.size, S.frame, fun k ⟨b, r, l, h1, h2, h3, h4⟩ => S.evo k ⟨b, r, l, h b r h1, h2, h3, h4⟩, fun k ⟨b, r, l, h1, h3, h4⟩ => S.evl k ⟨b, r, l, h b r h1, h3, h4⟩, S.os, S.tape, S.output⟩

end Go.AM
