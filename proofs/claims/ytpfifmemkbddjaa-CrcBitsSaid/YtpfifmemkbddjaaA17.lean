/- The abstract machine, part 17: the rule for a region whose order is open. -/
import Derived.Test.YtpfifmemkbddjaaA16
set_option linter.unusedVariables false
set_option linter.unusedSimpArgs false
namespace Go.AM

def setd (fr : Tr AV) (dst : Option Tmp) (x : AV) : Tr AV :=
  match dst with
  | none => fr
  | some d => fr.set d (some x)

/-- A frame behind the operations that are done. -/
def Fr (ops : Array Oper) (vals : Nat → AV) (t0 : Tr AV) (L : Nat → Bool) (fr : Tr AV) : Prop :=
  ∀ t, (∀ (j : Nat) (o : Oper), ops[j]? = some o → o.dst = some t → fr.get t = cond (L j) (some (vals j)) (t0.get t)) ∧
    ((∀ (j : Nat) (o : Oper), ops[j]? = some o → o.dst ≠ some t) → fr.get t = t0.get t)

theorem Fr.same {ops : Array Oper} {vals : Nat → AV} {t0 : Tr AV} {L L' : Nat → Bool} {fr fr' : Tr AV} (h : Fr ops vals t0 L fr) (h' : Fr ops vals t0 L' fr') {t : Tmp}
    (hl : ∀ (j : Nat) (o : Oper), ops[j]? = some o → o.dst = some t → L j = L' j) : fr.get t = fr'.get t := by
  by_cases hw : ∃ (j : Nat) (o : Oper), ops[j]? = some o ∧ o.dst = some t
  · obtain ⟨j, o, h1, h2⟩ := hw
    rw [(h t).1 j o h1 h2, (h' t).1 j o h1 h2, hl j o h1 h2]
  · have hn : ∀ (j : Nat) (o : Oper), ops[j]? = some o → o.dst ≠ some t := fun j o h1 h2 => hw ⟨j, o, h1, h2⟩
    rw [(h t).2 hn, (h' t).2 hn]

def OneDst (ops : Array Oper) : Prop := ∀ (i j : Nat) (oi oj : Oper) (t : Tmp), ops[i]? = some oi → ops[j]? = some oj → oi.dst = some t → oj.dst = some t → i = j

theorem Fr.set {ops : Array Oper} {vals : Nat → AV} {t0 : Tr AV} {L : Nat → Bool} {fr : Tr AV} (h1 : OneDst ops) (h : Fr ops vals t0 L fr) {i : Nat} {o : Oper} (ho : ops[i]? = some o)
    {L' : Nat → Bool} (hL : ∀ j, L' j = (decide (j = i) || L j)) : Fr ops vals t0 L' (setd fr o.dst (vals i)) := by
  intro t
  cases hd : o.dst with
  | none =>
    refine ⟨fun j oj hj hjt => ?_, fun hn => (h t).2 hn⟩
    have hji : j ≠ i := fun he => by
      subst he; rw [ho] at hj; injection hj with hj; subst hj; rw [hd] at hjt; cases hjt
    rw [hL]
    simp only [setd, hji, decide_false, Bool.false_or]
    exact (h t).1 j oj hj hjt
  | some d =>
    simp only [setd, Tr.get_set]
    by_cases htd : t = d
    · subst htd
      rw [if_pos rfl]
      refine ⟨fun j oj hj hjt => ?_, fun hn => absurd hd (hn i o ho)⟩
      have := h1 i j o oj t ho hj hd hjt
      subst this
      simp [hL]
    · rw [if_neg htd]
      refine ⟨fun j oj hj hjt => ?_, fun hn => (h t).2 hn⟩
      have hji : j ≠ i := fun he => by
        subst he; rw [ho] at hj; injection hj with hj; subst hj; rw [hd] at hjt; injection hjt with hjt; exact htd hjt.symm
      rw [hL]
      simp only [hji, decide_false, Bool.false_or]
      exact (h t).1 j oj hj hjt

def lo (ms : List Nat) (eff : List Nat) (i : Nat) : Nat := (eff.takeWhile (fun e => bf ms e i)).length
def hi (ms : List Nat) (eff : List Nat) (i : Nat) : Nat := (eff.takeWhile (fun e => !bf ms i e)).length

theorem tw_lt {α : Type} {p : α → Bool} : ∀ {l : List α} {k : Nat} {e : α}, l[k]? = some e → k < (l.takeWhile p).length → p e = true
  | [], k, e, h, _ => by simp at h
  | x :: l, 0, e, h, hk => by
    simp only [List.getElem?_cons_zero, Option.some.injEq] at h
    subst h
    simp only [List.takeWhile_cons] at hk
    split at hk
    · assumption
    · simp at hk
  | x :: l, k + 1, e, h, hk => by
    simp only [List.getElem?_cons_succ] at h
    simp only [List.takeWhile_cons] at hk
    split at hk
    · exact tw_lt h (by simpa using hk)
    · simp at hk

theorem tw_at {α : Type} {p : α → Bool} : ∀ {l : List α} {e : α}, l[(l.takeWhile p).length]? = some e → p e = false
  | [], e, h => by simp at h
  | x :: l, e, h => by
    simp only [List.takeWhile_cons] at h
    split at h
    · simp only [List.length_cons, List.getElem?_cons_succ] at h
      exact tw_at h
    · rename_i hx
      simp only [List.length_nil, List.getElem?_cons_zero, Option.some.injEq] at h
      subst h
      simpa using hx

/-- What an operation that acts on memory comes to. -/
def EffOk (T : Tab) (ops : Array Oper) (fr : Tr AV) (o : Oper) (M : Mem) (x : AV) (M' : Mem) : Prop :=
  (wantedA ops fr o = some false ∧ x = undefA ∧ M' = M) ∨
  (wantedA ops fr o = some true ∧ (evalOp T fr o M = some (x, M') ∨
    ∃ g args F, calleeA fr o = some (g, args) ∧ T.fn.get g = some F ∧ CallA T.P g args M (fun y M'' => y = x ∧ M'' = M')))

/-- One order of a region's operations, and what shows that every order comes to the same. -/
structure Draw (T : Tab) (ops : Array Oper) (st0 : St) where
  eff : List Nat
  vals : Nat → AV
  mems : Nat → Mem
  ad : Nat → Mem
  fid : Nat → Nat
  frow : Nat → Option Row
  fr : Nat → Tr AV
  back : Back ops.toList
  dst1 : OneDst ops
  see : ∀ (i : Nat) (o : Oper), ops[i]? = some o → ∀ t ∈ looks ops o, ∀ (j : Nat) (oj : Oper), ops[j]? = some oj → oj.dst = some t →
    j = i ∨ bf (masks ops.toList []) j i = true ∨ bf (masks ops.toList []) i j = true
  dlt : ∀ (i : Nat) (o : Oper) (t : Tmp), ops[i]? = some o → o.dst = some t → t < st0.n
  effs : ∀ (i : Nat) (o : Oper), ops[i]? = some o → (cls T o = .eff ↔ i ∈ eff)
  effl : ∀ e ∈ eff, e < ops.size
  effd : eff.Nodup
  chain : ∀ k e e', eff[k]? = some e → eff[k + 1]? = some e' → bf (masks ops.toList []) e e' = true
  fr0 : fr 0 = st0.t
  frS : ∀ (i : Nat) (o : Oper), ops[i]? = some o → fr (i + 1) = setd (fr i) o.dst (vals i)
  pure : ∀ (i : Nat) (o : Oper), ops[i]? = some o → cls T o = .pure → (wantedA ops (fr i) o = some false ∧ vals i = undefA) ∨ (wantedA ops (fr i) o = some true ∧ ∃ M M', evalOp T (fr i) o M = some (vals i, M'))
  read : ∀ (i : Nat) (o : Oper), ops[i]? = some o → cls T o = .read → (wantedA ops (fr i) o = some false ∧ vals i = undefA) ∨
    (wantedA ops (fr i) o = some true ∧ ∀ k, lo (masks ops.toList []) eff i ≤ k → k ≤ hi (masks ops.toList []) eff i → ∃ M', evalOp T (fr i) o (mems k) = some (vals i, M'))
  flt : ∀ (i : Nat) (o : Oper), ops[i]? = some o → cls T o = .flt → (wantedA ops (fr i) o = some false ∧ vals i = undefA ∧ frow i = none) ∨
    (wantedA ops (fr i) o = some true ∧ ∃ row, frow i = some row ∧ evFl T (fr i) o (fid i) = some (vals i, row))
  fnone : ∀ (i : Nat) (row : Row), frow i = some row → ∃ o : Oper, ops[i]? = some o ∧ cls T o = .flt
  fidi : ∀ i j ri rj, frow i = some ri → frow j = some rj → fid i = fid j → i = j
  fidr : ∀ i ri, frow i = some ri → st0.m.next ≤ fid i ∧ fid i < (mems 0).next
  mem0 : st0.m.next ≤ (mems 0).next
  mem0g : ∀ b, (mems 0).get b = st0.m.get b
  adn : ∀ k, (ad k).next = (mems k).next
  ad1 : ∀ k f row, frow f = some row → hi (masks ops.toList []) eff f = k → (ad k).get (fid f) = some row
  ad2 : ∀ k b, (∀ f row, frow f = some row → hi (masks ops.toList []) eff f = k → fid f ≠ b) → (ad k).get b = (mems k).get b
  effk : ∀ (k e : Nat) (o : Oper), eff[k]? = some e → ops[e]? = some o → EffOk T ops (fr e) o (ad k) (vals e) (mems (k + 1))

structure Inv {T : Tab} {ops : Array Oper} {st0 : St} (D : Draw T ops st0) (ι0 : Inj) (w0 : World) (L : Nat → Bool) (a : Act) (w : World) (k : Nat) (ι : Inj) (fr : Tr AV) : Prop where
  closed : Closed ops.toList L
  kle : k ≤ D.eff.length
  mle : (D.mems 0).next ≤ (D.mems k).next
  Lk : ∀ j e, D.eff[j]? = some e → (L e = true ↔ j < k)
  size : a.tmps.size = st0.n
  defers : a.defers = []
  frr : FrR ι fr a
  frl : Fr ops D.vals st0.t L fr
  stp : Stp ι0 st0.m w0 ι (D.mems k) w
  pend : ∀ f row, D.frow f = some row → L f = true → k ≤ hi (masks ops.toList []) D.eff f →
    ∃ l, ι (D.fid f) = some l ∧ RowR ι l row w.heap[l.blk]? ∧ w0.heap.size ≤ l.blk ∧ ¬ LvAt ι (D.mems k) l.blk
  open' : ∀ f row, D.frow f = some row → L f = false → ι (D.fid f) = none
  pdis : ∀ f g rf rg l l', D.frow f = some rf → D.frow g = some rg → L f = true → L g = true → k ≤ hi (masks ops.toList []) D.eff f → k ≤ hi (masks ops.toList []) D.eff g →
    ι (D.fid f) = some l → ι (D.fid g) = some l' → l.blk = l'.blk → f = g

theorem row_lt {ι : Inj} {l : Loc} {row : Row} {w : World} (h : RowR ι l row w.heap[l.blk]?) : l.blk < w.heap.size := by
  rcases Nat.lt_or_ge l.blk w.heap.size with h1 | h1
  · exact h1
  · rw [Array.getElem?_eq_none h1] at h
    cases row <;> exact h.elim

theorem live_lt {ι : Inj} {M : Mem} {w : World} (R : Rel ι M w) {k : Nat} (h : LvAt ι M k) : k < w.heap.size := by
  obtain ⟨b, r, l, h1, h2, h3⟩ := h
  obtain ⟨l', h4, h5⟩ := R.live b r h1
  rw [h2] at h4; injection h4 with h4; subst h4
  have := row_lt h5
  omega

section
variable {T : Tab} {ops : Array Oper} {st0 : St} {D : Draw T ops st0} {ι0 : Inj} {w0 : World} {L : Nat → Bool} {a : Act} {w : World} {k : Nat} {ι : Inj} {fr : Tr AV}

/-- The rows of what is due are taken in. -/
theorem Inv.adopt (I : Inv D ι0 w0 L a w k ι fr) (hdue : ∀ f row, D.frow f = some row → hi (masks ops.toList []) D.eff f = k → L f = true) :
    Stp ι0 st0.m w0 ι (D.ad k) w ∧ (∀ b r, (D.mems k).get b = some r → (∃ f row, D.frow f = some row ∧ hi (masks ops.toList []) D.eff f = k ∧ D.fid f = b) ∨ (D.ad k).get b = some r) ∧
      (∀ kk, LvAt ι (D.ad k) kk → LvAt ι (D.mems k) kk ∨ ∃ f row l, D.frow f = some row ∧ hi (masks ops.toList []) D.eff f = k ∧ ι (D.fid f) = some l ∧ l.blk = kk) := by
  have S := I.stp
  have hsplit : ∀ b r, (D.ad k).get b = some r → (∃ f, D.frow f = some r ∧ hi (masks ops.toList []) D.eff f = k ∧ D.fid f = b) ∨ ((D.mems k).get b = some r) := by
    intro b r h
    by_cases hx : ∃ f row, D.frow f = some row ∧ hi (masks ops.toList []) D.eff f = k ∧ D.fid f = b
    · obtain ⟨f, row, h1, h2, h3⟩ := hx
      have := D.ad1 k f row h1 h2
      rw [h3, h] at this
      injection this with this
      subst this
      exact .inl ⟨f, h1, h2, h3⟩
    · rw [D.ad2 k b (fun f row h1 h2 h3 => hx ⟨f, row, h1, h2, h3⟩)] at h
      exact .inr h
  have hpend : ∀ f row, D.frow f = some row → hi (masks ops.toList []) D.eff f = k → ∃ l, ι (D.fid f) = some l ∧ RowR ι l row w.heap[l.blk]? ∧ w0.heap.size ≤ l.blk ∧ ¬ LvAt ι (D.mems k) l.blk :=
    fun f row h1 h2 => I.pend f row h1 (hdue f row h1 h2) (by omega)
  refine ⟨⟨⟨?_, ?_, ?_⟩, S.ext, ?_, S.new, S.size, S.frame, ?_, ?_, S.os, S.tape, S.output⟩, ?_, ?_⟩
  · intro b l h
    rw [D.adn]; exact S.rel.dom b l h
  · intro b r h
    rcases hsplit b r h with ⟨f, h1, h2, rfl⟩ | h1
    · obtain ⟨l, h3, h4, _⟩ := hpend f r h1 h2
      exact ⟨l, h3, h4⟩
    · exact S.rel.live b r h1
  · intro b b' r r' l l' h1 h2 hl hl' he
    rcases hsplit b r h1 with ⟨f, g1, g2, rfl⟩ | g1 <;> rcases hsplit b' r' h2 with ⟨f', g1', g2', rfl⟩ | g1'
    · have := I.pdis f f' r r' l l' g1 g1' (hdue f r g1 g2) (hdue f' r' g1' g2') (by omega) (by omega) hl hl' he
      rw [this]
    · obtain ⟨l1, h3, h4, h5, h6⟩ := hpend f r g1 g2
      rw [hl] at h3; injection h3 with h3; subst h3
      exact (h6 ⟨b', r', l', g1', hl', he.symm⟩).elim
    · obtain ⟨l1, h3, h4, h5, h6⟩ := hpend f' r' g1' g2'
      rw [hl'] at h3; injection h3 with h3; subst h3
      exact (h6 ⟨b, r, l, g1, hl, he⟩).elim
    · exact S.rel.inj b b' r r' l l' g1 g1' hl hl' he
  · rw [D.adn]; exact S.nxt
  · rintro kk ⟨b, r, l, h1, h2, h3, h4⟩
    rcases hsplit b r h1 with ⟨f, g1, g2, rfl⟩ | g1
    · obtain ⟨l1, g3, g4, g5, g6⟩ := hpend f r g1 g2
      rw [h3] at g3; injection g3 with g3; subst g3
      exact .inl (by omega)
    · exact S.evo kk ⟨b, r, l, g1, h2, h3, h4⟩
  · rintro kk ⟨b, r, l, h1, h3, h4⟩
    rcases hsplit b r h1 with ⟨f, g1, g2, rfl⟩ | g1
    · obtain ⟨l1, g3, g4, g5, g6⟩ := hpend f r g1 g2
      rw [h3] at g3; injection g3 with g3; subst g3
      exact .inl (by omega)
    · exact S.evl kk ⟨b, r, l, g1, h3, h4⟩
  · intro b r h
    by_cases hx : ∃ f row, D.frow f = some row ∧ hi (masks ops.toList []) D.eff f = k ∧ D.fid f = b
    · exact .inl hx
    · right
      rw [D.ad2 k b (fun f row h1 h2 h3 => hx ⟨f, row, h1, h2, h3⟩)]
      exact h
  · rintro kk ⟨b, r, l, h1, h3, h4⟩
    rcases hsplit b r h1 with ⟨f, g1, g2, rfl⟩ | g1
    · exact .inr ⟨f, r, l, g1, g2, h3, h4⟩
    · exact .inl ⟨b, r, l, g1, h3, h4⟩

/-- What an operation that is ready sees is what it sees in the one order. -/
theorem Inv.sees (I : Inv D ι0 w0 L a w k ι fr) (hfr : ∀ i, i ≤ ops.size → Fr ops D.vals st0.t (fun j => decide (j < i)) (D.fr i)) {i : Nat} {o : Oper} (ho : ops[i]? = some o) (hLi : L i = false)
    (hr : ∀ e ∈ o.after.toList, bindsB e = true → L e.on = true) : ∀ t ∈ looks ops o, fr.get t = (D.fr i).get t := by
  intro t ht
  have hi : i < ops.size := by
    rcases Nat.lt_or_ge i ops.size with h | h
    · exact h
    · rw [Array.getElem?_eq_none h] at ho; simp at ho
  have ho' : ops.toList[i]? = some o := by simpa using ho
  refine I.frl.same (hfr i (by omega)) fun j oj hj hjt => ?_
  have hj' : ops.toList[j]? = some oj := by simpa using hj
  rcases D.see i o ho t ht j oj hj hjt with rfl | h | h
  · rw [hLi]; simp
  · rw [closed_bf D.back I.closed i o ho' hr h]
    have := bf_lt D.back ho' h
    simp [this]
  · have hlt := bf_lt D.back hj' h
    have hLj : L j = false := by
      cases hLj : L j with
      | false => rfl
      | true =>
        have := closed_bf D.back I.closed j oj hj' (I.closed j oj hj' hLj) h
        rw [hLi] at this; cases this
    rw [hLj]
    simp; omega

theorem closed_add (I : Inv D ι0 w0 L a w k ι fr) {i : Nat} {o : Oper} (ho : ops[i]? = some o) (hr : ∀ e ∈ o.after.toList, bindsB e = true → L e.on = true) {L' : Nat → Bool}
    (hL : ∀ j, L' j = (decide (j = i) || L j)) : Closed ops.toList L' := by
  intro j oj hj hLj e he hb
  rw [hL] at hLj ⊢
  by_cases hji : j = i
  · subst hji
    have : ops.toList[j]? = some o := by simpa using ho
    rw [this] at hj; injection hj with hj; subst hj
    rw [hr e he hb]; simp
  · simp only [hji, decide_false, Bool.false_or] at hLj
    rw [I.closed j oj hj hLj e he hb]; simp

theorem put_frr {ι : Inj} {fr : Tr AV} {a : Act} {n : Nat} (hf : FrR ι fr a) (hn : a.tmps.size = n) {dst : Option Tmp} (hd : ∀ t, dst = some t → t < n) {x : AV} {v : Value} (hv : VR ι x v) :
    FrR ι (setd fr dst x) (a.put dst v) ∧ (a.put dst v).tmps.size = n ∧ (a.put dst v).defers = a.defers := by
  cases dst with
  | none => exact ⟨hf, hn, rfl⟩
  | some d =>
    have hd' := hd d rfl
    refine ⟨fun i => ?_, by simp [Act.put, hn], rfl⟩
    simp only [setd, Act.put, Tr.get_set]
    by_cases hi : i = d
    · subst hi
      rw [if_pos rfl]
      have : (a.tmps.setIfInBounds i v).getD i undef = v := by simp [hn, hd']
      rw [this]
      exact hv
    · rw [if_neg hi]
      have : (a.tmps.setIfInBounds d v).getD i undef = a.tmps.getD i undef := by
        simp [Array.getElem?_setIfInBounds_ne (fun h => hi h.symm)]
      rw [this]
      exact hf i

/-- An operation that leaves memory as it is. -/
theorem Inv.still (I : Inv D ι0 w0 L a w k ι fr) {i : Nat} {o : Oper} (ho : ops[i]? = some o) (hr : ∀ e ∈ o.after.toList, bindsB e = true → L e.on = true) {L' : Nat → Bool}
    (hL : ∀ j, L' j = (decide (j = i) || L j)) (hne : i ∉ D.eff) (hfl : D.frow i = none) {v : Value} (hv : VR ι (D.vals i) v) :
    Inv D ι0 w0 L' (a.put o.dst v) w k ι (setd fr o.dst (D.vals i)) := by
  obtain ⟨h1, h2, h3⟩ := put_frr I.frr I.size (fun t ht => D.dlt i o t ho ht) hv
  have hfi : ∀ f row, D.frow f = some row → f ≠ i := fun f row h he => by subst he; rw [hfl] at h; cases h
  refine ⟨closed_add I ho hr hL, I.kle, I.mle, fun j e he => ?_, h2, h3.trans I.defers, h1, I.frl.set D.dst1 ho hL, I.stp, fun f row hf hLf => ?_, fun f row hf hLf => ?_, fun f g rf rg l l' hf hg hLf hLg => ?_⟩
  · have hei : e ≠ i := fun h => hne (h ▸ List.mem_of_getElem? he)
    rw [hL, show decide (e = i) = false from by simp [hei], Bool.false_or]
    exact I.Lk j e he
  · rw [hL, show decide (f = i) = false from by simp [hfi f row hf], Bool.false_or] at hLf
    exact I.pend f row hf hLf
  · rw [hL, show decide (f = i) = false from by simp [hfi f row hf], Bool.false_or] at hLf
    exact I.open' f row hf hLf
  · rw [hL, show decide (f = i) = false from by simp [hfi f rf hf], Bool.false_or] at hLf
    rw [hL, show decide (g = i) = false from by simp [hfi g rg hg], Bool.false_or] at hLg
    exact I.pdis f g rf rg l l' hf hg hLf hLg

/-- An operation that makes a block. -/
theorem Inv.float (I : Inv D ι0 w0 L a w k ι fr) {i : Nat} {o : Oper} (ho : ops[i]? = some o) (hLi : L i = false) (hr : ∀ e ∈ o.after.toList, bindsB e = true → L e.on = true) {L' : Nat → Bool}
    (hL : ∀ j, L' j = (decide (j = i) || L j)) (hne : i ∉ D.eff) {row : Row} (hfl : D.frow i = some row) {v : Value} {obj : Obj} {size : Nat}
    (hv : VR (upd ι (D.fid i) ⟨w.heap.size, 0, size⟩) (D.vals i) v) (hrow : RowR (upd ι (D.fid i) ⟨w.heap.size, 0, size⟩) ⟨w.heap.size, 0, size⟩ row (some obj)) :
    Inv D ι0 w0 L' (a.put o.dst v) { w with heap := w.heap.push obj } k (upd ι (D.fid i) ⟨w.heap.size, 0, size⟩) (setd fr o.dst (D.vals i)) := by
  have hnone := I.open' i row hfl hLi
  have hext := upd_ext (l := ⟨w.heap.size, 0, size⟩) hnone
  have hother : ∀ f rf, D.frow f = some rf → f ≠ i → upd ι (D.fid i) ⟨w.heap.size, 0, size⟩ (D.fid f) = ι (D.fid f) := fun f rf hf hfi => by
    unfold upd
    rw [if_neg (fun he => hfi (D.fidi f i rf row hf hfl he))]
  have hlv : ∀ kk, LvAt (upd ι (D.fid i) ⟨w.heap.size, 0, size⟩) (D.mems k) kk → LvAt ι (D.mems k) kk := by
    rintro kk ⟨b, r, l, h1, h2, h3⟩
    obtain ⟨l', h4, _⟩ := I.stp.rel.live b r h1
    have := hext b l' h4
    rw [h2] at this; injection this with this; subst this
    exact ⟨b, r, l, h1, h4, h3⟩
  have hback : ∀ b r l, (D.mems k).get b = some r → upd ι (D.fid i) ⟨w.heap.size, 0, size⟩ b = some l → ι b = some l := fun b r l h1 h2 => by
    obtain ⟨l', h4, _⟩ := I.stp.rel.live b r h1
    have := hext b l' h4
    rw [h2] at this; injection this with this; subst this
    exact h4
  obtain ⟨h1, h2, h3⟩ := put_frr (fun j => (I.frr j).mono hext) I.size (fun t ht => D.dlt i o t ho ht) hv
  have S : Stp ι0 st0.m w0 (upd ι (D.fid i) ⟨w.heap.size, 0, size⟩) (D.mems k) { w with heap := w.heap.push obj } := by
    have S := I.stp
    refine ⟨⟨?_, ?_, ?_⟩, S.ext.trans hext, S.nxt, ?_, ?_, ?_, ?_, ?_, S.os, S.tape, S.output⟩
    · intro b l h
      unfold upd at h
      split at h
      · rename_i he
        have := (D.fidr i row hfl).2
        have hm := I.mle
        omega
      · exact S.rel.dom b l h
    · intro b r h
      obtain ⟨l, h4, h5⟩ := S.rel.live b r h
      refine ⟨l, hext b l h4, ?_⟩
      have := row_lt h5
      simp only
      rw [Array.getElem?_push, if_neg (by omega)]
      exact h5.mono hext
    · intro b b' r r' l l' g1 g2 g3 g4
      exact S.rel.inj b b' r r' l l' g1 g2 (hback b r l g1 g3) (hback b' r' l' g2 g4)
    · intro b l h
      unfold upd at h
      split at h
      · rename_i he
        subst he
        exact .inr (D.fidr i row hfl).1
      · exact S.new b l h
    · have := S.size
      simp only [Array.size_push]; omega
    · intro kk hk hn
      have := S.size
      simp only
      rw [Array.getElem?_push, if_neg (by omega)]
      exact S.frame kk hk hn
    · rintro kk ⟨b, r, l, g1, g2, g3, g4⟩
      exact S.evo kk ⟨b, r, l, g1, g2, hback b r l g1 g3, g4⟩
    · intro kk h
      exact S.evl kk (hlv kk h)
  have hnew : upd ι (D.fid i) ⟨w.heap.size, 0, size⟩ (D.fid i) = some ⟨w.heap.size, 0, size⟩ := by simp [upd]
  refine ⟨closed_add I ho hr hL, I.kle, I.mle, fun j e he => ?_, h2, h3.trans I.defers, h1, I.frl.set D.dst1 ho hL, S, fun f rf hf hLf hkf => ?_, fun f rf hf hLf => ?_, fun f g rf rg l l' hf hg hLf hLg hkf hkg hl hl' he => ?_⟩
  · have hei : e ≠ i := fun h => hne (h ▸ List.mem_of_getElem? he)
    rw [hL, show decide (e = i) = false from by simp [hei], Bool.false_or]
    exact I.Lk j e he
  · by_cases hfi : f = i
    · subst hfi
      rw [hfl] at hf; injection hf with hf; subst hf
      refine ⟨_, hnew, ?_, I.stp.size, fun hlv' => ?_⟩
      · simp only [Array.getElem?_push_size]
        exact hrow
      · have := live_lt I.stp.rel (hlv _ hlv')
        simp at this
    · rw [hL, show decide (f = i) = false from by simp [hfi], Bool.false_or] at hLf
      obtain ⟨l, g1, g2, g3, g4⟩ := I.pend f rf hf hLf hkf
      refine ⟨l, by rw [hother f rf hf hfi]; exact g1, ?_, g3, fun hlv' => g4 (hlv _ hlv')⟩
      have := row_lt g2
      simp only
      rw [Array.getElem?_push, if_neg (by omega)]
      exact g2.mono hext
  · have hfi : f ≠ i := fun h => by subst h; rw [hL] at hLf; simp at hLf
    rw [hL, show decide (f = i) = false from by simp [hfi], Bool.false_or] at hLf
    rw [hother f rf hf hfi]
    exact I.open' f rf hf hLf
  · by_cases hfi : f = i <;> by_cases hgi : g = i
    · omega
    · exfalso
      subst hfi
      rw [hnew] at hl; injection hl with hl; subst hl
      rw [hother g rg hg hgi] at hl'
      rw [hL, show decide (g = f) = false from by simp [hgi], Bool.false_or] at hLg
      obtain ⟨l2, g1, g2, g3, g4⟩ := I.pend g rg hg hLg hkg
      rw [hl'] at g1; injection g1 with g1; subst g1
      have := row_lt g2
      simp only at he
      omega
    · exfalso
      subst hgi
      rw [hnew] at hl'; injection hl' with hl'; subst hl'
      rw [hother f rf hf hfi] at hl
      rw [hL, show decide (f = g) = false from by simp [hfi], Bool.false_or] at hLf
      obtain ⟨l2, g1, g2, g3, g4⟩ := I.pend f rf hf hLf hkf
      rw [hl] at g1; injection g1 with g1; subst g1
      have := row_lt g2
      simp only at he
      omega
    · rw [hother f rf hf hfi] at hl
      rw [hother g rg hg hgi] at hl'
      rw [hL, show decide (f = i) = false from by simp [hfi], Bool.false_or] at hLf
      rw [hL, show decide (g = i) = false from by simp [hgi], Bool.false_or] at hLg
      exact I.pdis f g rf rg l l' hf hg hLf hLg hkf hkg hl hl' he

/-- The next operation that acts on memory. -/
theorem Inv.effect (I : Inv D ι0 w0 L a w k ι fr) {i : Nat} {o : Oper} (ho : ops[i]? = some o) (hLi : L i = false) (hr : ∀ e ∈ o.after.toList, bindsB e = true → L e.on = true) {L' : Nat → Bool}
    (hL : ∀ j, L' j = (decide (j = i) || L j)) (hik : D.eff[k]? = some i) (hfl : D.frow i = none) {ι' : Inj} {w' : World} {v : Value}
    (hdue : ∀ f row, D.frow f = some row → hi (masks ops.toList []) D.eff f = k → L f = true)
    (S2 : Stp ι (D.ad k) w ι' (D.mems (k + 1)) w') (hv : VR ι' (D.vals i) v) : Inv D ι0 w0 L' (a.put o.dst v) w' (k + 1) ι' (setd fr o.dst (D.vals i)) := by
  obtain ⟨SA, _, hlvA⟩ := I.adopt hdue
  obtain ⟨h1, h2, h3⟩ := put_frr (fun j => (I.frr j).mono S2.ext) I.size (fun t ht => D.dlt i o t ho ht) hv
  have hfi : ∀ f row, D.frow f = some row → f ≠ i := fun f row h he => by subst he; rw [hfl] at h; cases h
  have hlt : k < D.eff.length := by
    rcases Nat.lt_or_ge k D.eff.length with h | h
    · exact h
    · rw [List.getElem?_eq_none h] at hik; cases hik
  -- a pending block is none that is written, and none of the memory's
  have hpb : ∀ f row l, D.frow f = some row → L f = true → k + 1 ≤ hi (masks ops.toList []) D.eff f → ι (D.fid f) = some l → RowR ι l row w.heap[l.blk]? → ¬ LvAt ι (D.mems k) l.blk → ¬ LvAt ι (D.ad k) l.blk := by
    intro f row l hf hLf hkf hl hrow hn hlv
    rcases hlvA _ hlv with h | ⟨g, rg, l2, hg, hgk, hl2, he⟩
    · exact hn h
    · have := I.pdis f g row rg l l2 hf hg hLf (hdue g rg hg hgk) (by omega) (by omega) hl hl2 he.symm
      subst this
      omega
  refine ⟨closed_add I ho hr hL, by omega, ?_, fun j e he => ?_, h2, h3.trans I.defers, h1, I.frl.set D.dst1 ho hL, SA.trans S2, fun f row hf hLf hkf => ?_, fun f row hf hLf => ?_,
    fun f g rf rg l l' hf hg hLf hLg hkf hkg hl hl' he => ?_⟩
  · have := I.mle
    have h4 := S2.nxt
    rw [D.adn] at h4
    omega
  · rw [hL]
    by_cases hei : e = i
    · subst hei
      have hjk : j = k := by
        have hj : j < D.eff.length := by
          rcases Nat.lt_or_ge j D.eff.length with h | h
          · exact h
          · rw [List.getElem?_eq_none h] at he; cases he
        exact (List.getElem?_inj hj D.effd).1 (he.trans hik.symm)
      subst hjk
      simp
    · simp only [hei, decide_false, Bool.false_or]
      rw [I.Lk j e he]
      constructor
      · intro h; omega
      · intro h
        rcases Nat.lt_or_ge j k with h4 | h4
        · exact h4
        · have : j = k := by omega
          subst this
          rw [hik] at he; injection he with he
          exact absurd he.symm hei
  · rw [hL, show decide (f = i) = false from by simp [hfi f row hf], Bool.false_or] at hLf
    obtain ⟨l, g1, g2, g3, g4⟩ := I.pend f row hf hLf (by omega)
    have hna := hpb f row l hf hLf hkf g1 g2 g4
    have hblk := row_lt g2
    refine ⟨l, S2.ext _ _ g1, ?_, g3, fun hlv => ?_⟩
    · rw [S2.frame l.blk hblk (fun ⟨b, r, l2, q1, q2, q3, q4⟩ => hna ⟨b, r, l2, q1, q3, q4⟩)]
      exact g2.mono S2.ext
    · rcases S2.evl _ hlv with h | h
      · omega
      · exact hna h
  · rw [hL, show decide (f = i) = false from by simp [hfi f row hf], Bool.false_or] at hLf
    have := I.open' f row hf hLf
    cases hq : ι' (D.fid f) with
    | none => rfl
    | some l =>
      rcases S2.new _ _ hq with h | h
      · rw [this] at h; cases h
      · have h4 := (D.fidr f row hf).2
        rw [D.adn] at h
        have := I.mle
        omega
  · rw [hL, show decide (f = i) = false from by simp [hfi f rf hf], Bool.false_or] at hLf
    rw [hL, show decide (g = i) = false from by simp [hfi g rg hg], Bool.false_or] at hLg
    obtain ⟨l1, g1, _⟩ := I.pend f rf hf hLf (by omega)
    obtain ⟨l2, g2, _⟩ := I.pend g rg hg hLg (by omega)
    have e1 := S2.ext _ _ g1
    have e2 := S2.ext _ _ g2
    rw [hl] at e1; injection e1 with e1; subst e1
    rw [hl'] at e2; injection e2 with e2; subst e2
    exact I.pdis f g rf rg l l' hf hg hLf hLg (by omega) (by omega) g1 g2 he
end

end Go.AM
