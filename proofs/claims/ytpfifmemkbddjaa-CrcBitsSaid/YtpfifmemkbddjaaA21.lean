/- The abstract machine, part 21: the rule for an open region that was reckoned out. -/
import Derived.Test.YtpfifmemkbddjaaA20
set_option linter.unusedVariables false
set_option linter.unusedSimpArgs false
namespace Go.AM

theorem passB_ok {T : Tab} {ops : Array Oper} {ms eff : List Nat} {mems : List Mem} : ∀ {todo : List Oper} {recs : List Rec} {i : Nat}, passB T ops ms eff mems todo recs i = true →
    ∀ (j : Nat) (o : Oper) (rec : Rec), todo[j]? = some o → recs[j]? = some rec → cls T o = .read → wantedA ops rec.fr o = some true →
      ∀ (q : Nat) (N : Mem), lo ms eff (i + j) ≤ q → q ≤ hi ms eff (i + j) → mems[q]? = some N → ∃ M', evalOp T rec.fr o N = some (rec.x, M')
  | [], [], i, _ => fun j o rec h => by simp at h
  | [], _ :: _, _, h => by simp [passB] at h
  | _ :: _, [], _, h => by simp [passB] at h
  | o :: todo, r :: rs, i, h => fun j o' rec hj hr hc hw q N h1 h2 hN => by
    unfold passB at h
    rw [Bool.and_eq_true] at h
    have hrest := h.2
    have h := h.1
    cases j with
    | succ j =>
      simp only [List.getElem?_cons_succ] at hj hr
      rw [show i + (j + 1) = i + 1 + j by omega] at h1 h2
      exact passB_ok hrest j o' rec hj hr hc hw q N h1 h2 hN
    | zero =>
      simp only [List.getElem?_cons_zero, Option.some.injEq] at hj hr
      subst hj hr
      unfold readB at h
      rw [hc] at h
      simp only [hw] at h
      refine sameRead_ok h (q - lo ms eff i) N ?_
      simp only [Nat.add_zero] at h1 h2
      rw [List.getElem?_take, if_pos (by omega), List.getElem?_drop, show lo ms eff i + (q - lo ms eff i) = q by omega]
      exact hN

def dfM : Mem := ⟨0, .e⟩

theorem lo_le (ms eff : List Nat) (i : Nat) : lo ms eff i ≤ eff.length := (List.takeWhile_prefix _).length_le
theorem hi_le (ms eff : List Nat) (i : Nat) : hi ms eff i ≤ eff.length := (List.takeWhile_prefix _).length_le

def mkDraw {T : Tab} {nt : Nat} {ops : Array Oper} (S : Static T nt ops) {st : St} (hn : nt ≤ st.n) {r : PA}
    (h : Pass T ops (masks ops.toList []) (effOf T ops.toList 0) ops.toList 0 0 st.t { st.m with next := st.m.next + countFlt T ops.toList } [] st.m.next r)
    (hb : passB T ops (masks ops.toList []) (effOf T ops.toList 0) r.mems ops.toList r.recs 0 = true) : Draw T ops st := by
  have H : PAOk T ops (masks ops.toList []) (effOf T ops.toList 0) ops.toList 0 0 st.t { st.m with next := st.m.next + countFlt T ops.toList } [] st.m.next r :=
    pass_ok ⟨fun f hf => by simp at hf, fun f hf => by simp at hf⟩ (fun _ _ => trivial) h
  have hrec : ∀ (i : Nat) (o : Oper), ops[i]? = some o → ∃ rec, r.recs[i]? = some rec ∧ frAt r (i + 1) = setd rec.fr o.dst rec.x ∧
      RecOk T ops (hi (masks ops.toList []) (effOf T ops.toList 0) i) st.m.next (st.m.next + countFlt T ops.toList) o rec ∧ frAt r i = rec.fr := fun i o ho => by
    obtain ⟨rec, h1, h2, h3⟩ := H.frS i o (by simpa using ho)
    rw [Nat.zero_add] at h3
    exact ⟨rec, h1, h2, h3, by unfold frAt; rw [h1]; rfl⟩
  have hrl : ∀ (i : Nat) (rec : Rec), r.recs[i]? = some rec → ∃ o, ops[i]? = some o := fun i rec hi => by
    have : i < r.recs.length := by
      rcases Nat.lt_or_ge i r.recs.length with h | h
      · exact h
      · rw [List.getElem?_eq_none h] at hi; cases hi
    rw [H.len] at this
    simp only [Array.length_toList] at this
    exact ⟨ops[i], by simp [this]⟩
  have hfrow : ∀ (i : Nat) (row : Row), ((r.recs[i]?.bind Rec.flo).map Flo.row) = some row → ∃ rec f, r.recs[i]? = some rec ∧ rec.flo = some f ∧ f.row = row := fun i row hi => by
    obtain ⟨f, h1, h2⟩ := Option.map_eq_some_iff.1 hi
    obtain ⟨rec, h3, h4⟩ := Option.bind_eq_some_iff.1 h1
    exact ⟨rec, f, h3, h4, h2⟩
  have hfid : ∀ (i : Nat) (rec : Rec) (f : Flo), r.recs[i]? = some rec → rec.flo = some f → ((r.recs[i]?.bind Rec.flo).map Flo.id).getD 0 = f.id := fun i rec f h1 h2 => by
    rw [h1]; simp [h2]
  have hads : ∀ k, (∃ A N, r.ads[k]? = some A ∧ r.mems[k]? = some N) ∨ (r.ads[k]? = none ∧ r.mems[k]? = none) := fun k => by
    rcases Nat.lt_or_ge k ((effOf T ops.toList 0).length + 1) with hk | hk
    · exact .inl ⟨r.ads[k]'(by rw [H.lena]; exact hk), r.mems[k]'(by rw [H.lenm]; exact hk), List.getElem?_eq_getElem _, List.getElem?_eq_getElem _⟩
    · exact .inr ⟨List.getElem?_eq_none (by rw [H.lena]; exact hk), List.getElem?_eq_none (by rw [H.lenm]; exact hk)⟩
  refine { eff := effOf T ops.toList 0
           vals := fun i => ((r.recs[i]?).map Rec.x).getD undefA
           mems := fun k => (r.mems[k]?).getD dfM
           ad := fun k => (r.ads[k]?).getD dfM
           fid := fun i => ((r.recs[i]?.bind Rec.flo).map Flo.id).getD 0
           frow := fun i => (r.recs[i]?.bind Rec.flo).map Flo.row
           fr := frAt r
           back := S.back
           dst1 := S.dst1
           see := S.see
           dlt := fun i o t h1 h2 => Nat.lt_of_lt_of_le (S.dlt i o t h1 h2) hn
           effs := fun i o ho => ?_
           effl := fun e he => ?_
           effd := ?_
           chain := fun k e e' h1 h2 => ?_
           fr0 := H.fr0
           frS := fun i o ho => ?_
           pure := fun i o ho hc => ?_
           read := fun i o ho hc => ?_
           flt := fun i o ho hc => ?_
           fnone := fun i row hi => ?_
           fidi := fun i j ri rj h1 h2 h3 => ?_
           fidr := fun i ri h1 => ?_
           mem0 := ?_
           mem0g := fun b => ?_
           adn := fun k => ?_
           ad1 := fun k f row h1 h2 => ?_
           ad2 := fun k b hb => ?_
           effk := fun k e o h1 h2 => ?_ }
  · rw [effOf_mem]
    constructor
    · intro hc
      exact ⟨i, o, by omega, by simpa using ho, hc⟩
    · rintro ⟨j, o', rfl, h2, h3⟩
      simp only [Nat.zero_add, Array.getElem?_toList] at ho h2
      rw [ho] at h2; injection h2 with h2; subst h2
      exact h3
  · obtain ⟨j, o', rfl, h2, h3⟩ := effOf_mem.1 he
    simp only [Nat.zero_add, Array.getElem?_toList] at h2 ⊢
    exact (Array.getElem?_eq_some_iff.1 h2).1
  · exact List.Pairwise.imp (fun h => by omega) effOf_sorted
  · obtain ⟨j, o1, rfl, h3, h4⟩ := effOf_mem.1 (List.mem_of_getElem? h1)
    obtain ⟨j', o2, rfl, h5, h6⟩ := effOf_mem.1 (List.mem_of_getElem? h2)
    simp only [Nat.zero_add, Array.getElem?_toList] at h1 h2 h3 h5 ⊢
    refine S.chain j j' o1 o2 h3 h5 h4 h6 ?_
    have hs := @effOf_sorted T ops.toList 0
    rw [List.pairwise_iff_getElem] at hs
    have l1 := (List.getElem?_eq_some_iff.1 h1)
    have l2 := (List.getElem?_eq_some_iff.1 h2)
    obtain ⟨l1, e1⟩ := l1
    obtain ⟨l2, e2⟩ := l2
    have := hs k (k + 1) l1 l2 (by omega)
    omega
  · obtain ⟨rec, h1, h2, h3, h4⟩ := hrec i o ho
    rw [h2, h4, h1]; rfl
  · obtain ⟨rec, h1, h2, h3, h4⟩ := hrec i o ho
    simp only [h4, h1]
    unfold RecOk at h3
    rw [hc] at h3
    exact h3.2
  · obtain ⟨rec, h1, h2, h3, h4⟩ := hrec i o ho
    simp only [h4, h1]
    have h3' := h3
    unfold RecOk at h3
    rw [hc] at h3
    rcases h3.2 with g | ⟨g1, g2⟩
    · exact .inl g
    · refine .inr ⟨g1, fun k k1 k2 => ?_⟩
      have hk : k < r.mems.length := by
        rw [H.lenm]
        have := hi_le (masks ops.toList []) (effOf T ops.toList 0) i
        omega
      have := passB_ok hb i o rec (by simpa using ho) h1 hc g1 k r.mems[k] (by rw [Nat.zero_add]; exact k1) (by rw [Nat.zero_add]; exact k2) (by simp [hk])
      rw [List.getElem?_eq_getElem hk]
      exact this
  · obtain ⟨rec, h1, h2, h3, h4⟩ := hrec i o ho
    simp only [h4, h1]
    unfold RecOk at h3
    rw [hc] at h3
    rcases h3 with ⟨g1, g2, g3⟩ | ⟨g1, id, row, g2, g3, g4⟩
    · exact .inl ⟨g1, g2, by simp [g3]⟩
    · exact .inr ⟨g1, row, by simp [g2], by simp [g2, g3]⟩
  · obtain ⟨rec, f, h1, h2, h3⟩ := hfrow i row hi
    obtain ⟨o, ho⟩ := hrl i rec h1
    obtain ⟨rec', g1, _, g3, _⟩ := hrec i o ho
    rw [h1] at g1; injection g1 with g1; subst g1
    exact ⟨o, ho, (g3.flo h2).1⟩
  · obtain ⟨rec, f, g1, g2, g3⟩ := hfrow i ri h1
    obtain ⟨rec', f', k1, k2, k3⟩ := hfrow j rj h2
    rw [hfid i rec f g1 g2, hfid j rec' f' k1 k2] at h3
    exact H.uniq i j rec rec' f f' g1 k1 g2 k2 h3
  · obtain ⟨rec, f, g1, g2, g3⟩ := hfrow i ri h1
    rw [hfid i rec f g1 g2, H.m0]
    obtain ⟨o, ho⟩ := hrl i rec g1
    obtain ⟨rec', k1, _, k3, _⟩ := hrec i o ho
    rw [g1] at k1; injection k1 with k1; subst k1
    exact (k3.flo g2).2.2
  · skip
    rw [H.m0]
    exact Nat.le_add_right _ _
  · skip
    rw [H.m0]
    rfl
  · skip
    rcases hads k with ⟨A, N, h1, h2⟩ | ⟨h1, h2⟩
    · obtain ⟨N', g1, g2, _⟩ := H.ads k A h1
      rw [h1, g1]; exact g2
    · rw [h1, h2]
  · obtain ⟨rec, fl, g1, g2, g3⟩ := hfrow f row h1
    obtain ⟨o, ho⟩ := hrl f rec g1
    obtain ⟨rec', k1, _, k3, _⟩ := hrec f o ho
    rw [g1] at k1; injection k1 with k1; subst k1
    have hfh := (k3.flo g2).2.1
    have hkl : k ≤ (effOf T ops.toList 0).length := by rw [← h2]; exact hi_le _ _ _
    have hA : r.ads[k]? = some (r.ads[k]'(by rw [H.lena]; omega)) := List.getElem?_eq_getElem _
    obtain ⟨N, q1, q2, q3, q4, q5⟩ := H.ads k _ hA
    rw [hfid f rec fl g1 g2, hA, ← g3]
    refine q5 f rec fl g1 g2 (by omega) fun e he => ?_
    rw [Nat.zero_add]
    have hbf : bf (masks ops.toList []) f e = true := by
      have := tw_at (p := fun e => !bf (masks ops.toList []) f e) (l := effOf T ops.toList 0) (e := e) (by
        have : ((effOf T ops.toList 0).takeWhile (fun e => !bf (masks ops.toList []) f e)).length = k := h2
        rw [this]; exact he)
      simpa using this
    obtain ⟨j, oe, he1, he2, he3⟩ := effOf_mem.1 (List.mem_of_getElem? he)
    have : e = j := by omega
    subst this
    exact bf_lt S.back he2 hbf
  · skip
    rcases hads k with ⟨A, N, h1, h2⟩ | ⟨h1, h2⟩
    · obtain ⟨N', g1, g2, g3, _⟩ := H.ads k A h1
      rw [h1, g1]
      refine g3 b (fun f hf => by simp at hf) fun j rec f k1 k2 k3 => ?_
      obtain ⟨o, ho⟩ := hrl j rec k1
      obtain ⟨rec', q1, _, q3, _⟩ := hrec j o ho
      rw [k1] at q1; injection q1 with q1; subst q1
      have hfh := (q3.flo k2).2.1
      have := hb j f.row (by rw [k1]; simp [k2]) (by omega)
      rw [hfid j rec f k1 k2] at this
      exact this
    · rw [h1, h2]
  · obtain ⟨rec, A, M', g1, g2, g3, g4⟩ := H.effk k e o h1 (by simpa using h2)
    simp only [Nat.sub_zero] at g1
    rw [g1, g2, g3]
    have : frAt r e = rec.fr := by unfold frAt; rw [g1]; rfl
    rw [this]
    exact g4

theorem wpa_pass {T : Tab} (ok : T.Ok) (hmix : T.P.follows .mixedOrders = true) {nt id : Nat} {ops : Array Oper} (S : Static T nt ops) {st : St} (hn : nt ≤ st.n)
    {Q : Ex → St → Prop} {r : PA} (hr : Pass T ops (masks ops.toList []) (effOf T ops.toList 0) ops.toList 0 0 st.t { st.m with next := st.m.next + countFlt T ops.toList } [] st.m.next r)
    (hb : passB T ops (masks ops.toList []) (effOf T ops.toList 0) r.mems ops.toList r.recs 0 = true) {A : Mem} (hA : r.ads[(effOf T ops.toList 0).length]? = some A)
    (hQ : Q .normal { n := st.n, t := r.fr, m := A }) : WpA T.P (.region id ops true) st Q := by
  refine wpa_draw ok hmix (mkDraw S hn hr hb) ?_
  have H := pass_ok ⟨fun f hf => by simp at hf, fun f hf => by simp at hf⟩ (fun _ _ => trivial) hr
  have e1 : (mkDraw S hn hr hb).fr ops.size = r.fr := by
    have hlen := H.len
    simp only [Array.length_toList] at hlen
    show frAt r ops.size = r.fr
    unfold frAt
    rw [List.getElem?_eq_none (by omega)]
    rfl
  have e2 : (mkDraw S hn hr hb).ad (mkDraw S hn hr hb).eff.length = A := by
    show (r.ads[(effOf T ops.toList 0).length]?).getD dfM = A
    rw [hA]; rfl
  rw [e1, e2]
  exact hQ

theorem wpa_evalDraw {T : Tab} (ok : T.Ok) (hmix : T.P.follows .mixedOrders = true) {call : CallF} (hcall : CallsOk T call) {nt id : Nat} {ops : Array Oper} (S : Static T nt ops) {st st' : St} (hn : nt ≤ st.n)
    {Q : Ex → St → Prop} (h : evalDraw T call ops st = some st') (hQ : Q .normal st') : WpA T.P (.region id ops true) st Q := by
  unfold evalDraw at h
  split at h
  · cases h
  · rename_i r hr
    rw [cond_eq_ite] at h
    split at h
    · rename_i hb
      split at h
      · rename_i A hA
        injection h with h; subst h
        exact wpa_pass ok hmix S hn (passA_pass hcall hr) hb hA hQ
      · cases h
    · cases h

/-- What an option holds, handed on. (The rest is not looked into ahead of it.) -/
def bindO {α : Type} (o : Option α) (f : α → Prop) : Prop :=
  match o with
  | some x => f x
  | none => False

theorem bindO_some {α : Type} (x : α) (f : α → Prop) : bindO (some x) f = f x := rfl
@[congr] theorem bindO_congr {α : Type} {o o' : Option α} {f : α → Prop} (h : ∀ _ : Unit, o = o') : bindO o f = bindO o' f := by rw [h ()]

theorem bindO_elim {α : Type} {o : Option α} {f : α → Prop} (h : bindO o f) : ∃ x, o = some x ∧ f x := by
  unfold bindO at h
  split at h
  · exact ⟨_, rfl, h⟩
  · exact h.elim

def caseO {α : Type} (o : Option α) (f : α → Prop) (p : Prop) : Prop :=
  match o with
  | some x => f x
  | none => p
theorem caseO_some {α : Type} (x : α) (f : α → Prop) (p : Prop) : caseO (some x) f p = f x := rfl
theorem caseO_none {α : Type} (f : α → Prop) (p : Prop) : caseO none f p = p := rfl
@[congr] theorem caseO_congr {α : Type} {o o' : Option α} {f : α → Prop} {p : Prop} (h : ∀ _ : Unit, o = o') : caseO o f p = caseO o' f p := by rw [h ()]

def condB (b : Bool) (p q : Prop) : Prop :=
  match b with
  | true => p
  | false => q
theorem condB_true (p q : Prop) : condB true p q = p := rfl
theorem condB_false (p q : Prop) : condB false p q = q := rfl
@[congr] theorem condB_congr {b b' : Bool} {p q : Prop} (h : ∀ _ : Unit, b = b') : condB b p q = condB b' p q := by rw [h ()]

def clsE (c : Cls) (e f p : Prop) : Prop :=
  match c with
  | .eff => e
  | .flt => f
  | _ => p
theorem clsE_eff (e f p : Prop) : clsE .eff e f p = e := rfl
theorem clsE_flt (e f p : Prop) : clsE .flt e f p = f := rfl
theorem clsE_pure (e f p : Prop) : clsE .pure e f p = p := rfl
theorem clsE_read (e f p : Prop) : clsE .read e f p = p := rfl
@[congr] theorem clsE_congr {c c' : Cls} {e f p : Prop} (h : ∀ _ : Unit, c = c') : clsE c e f p = clsE c' e f p := by rw [h ()]

def putT (fr : Tr AV) (d : Option Tmp) (x : AV) : Option (Tr AV) := some (setd fr d x)
theorem putT_some {fr : Tr AV} {d : Tmp} {x : AV} : putT fr (some d) x = some (fr.set d (some x)) := rfl
theorem putT_none {fr : Tr AV} {x : AV} : putT fr none x = some fr := rfl
theorem putT_elim {fr : Tr AV} {d : Option Tmp} {x : AV} {f : Tr AV → Prop} (h : bindO (putT fr d x) f) : f (setd fr d x) := h

/-- The same, as what has to be shown. -/
def wP (T : Tab) (ops : Array Oper) (ms eff : List Nat) : List Oper → (i k : Nat) → Tr AV → Mem → List Flo → (nid : Nat) → (List Rec → List Mem → List Mem → Tr AV → Prop) → Prop
  | [], _, k, fr, M, fl, _, K => K [] [M] [adopt k fl M] fr
  | o :: todo, i, k, fr, M, fl, nid, K =>
    bindO (wantedA ops fr o) fun wnt => clsE (cls T o)
      (condB wnt
        (caseO (calleeA fr o)
          (fun c => bindO (T.fn.get c.1) fun _ => ∃ x M', CallA T.P c.1 c.2 (adopt k fl M) (fun y N => y = x ∧ N = M') ∧
              bindO (putT fr o.dst x) fun fr' => wP T ops ms eff todo (i + 1) (k + 1) fr' M' fl nid fun rs ns as f => K (⟨fr, x, none, M⟩ :: rs) (M :: ns) (adopt k fl M :: as) f)
          (bindO (evalOp T fr o (adopt k fl M)) fun y =>
            bindO (putT fr o.dst y.1) fun fr' => wP T ops ms eff todo (i + 1) (k + 1) fr' y.2 fl nid fun rs ns as f => K (⟨fr, y.1, none, M⟩ :: rs) (M :: ns) (adopt k fl M :: as) f))
        (bindO (putT fr o.dst undefA) fun fr' => wP T ops ms eff todo (i + 1) (k + 1) fr' (adopt k fl M) fl nid fun rs ns as f => K (⟨fr, undefA, none, M⟩ :: rs) (M :: ns) (adopt k fl M :: as) f))
      (condB wnt
        (bindO (evFl T fr o nid) fun y => bindO (putT fr o.dst y.1) fun fr' => wP T ops ms eff todo (i + 1) k fr' M (⟨hi ms eff i, nid, y.2⟩ :: fl) (nid + 1) fun rs ns as f => K (⟨fr, y.1, some ⟨hi ms eff i, nid, y.2⟩, M⟩ :: rs) ns as f)
        (bindO (putT fr o.dst undefA) fun fr' => wP T ops ms eff todo (i + 1) k fr' M fl nid fun rs ns as f => K (⟨fr, undefA, none, M⟩ :: rs) ns as f))
      (condB wnt
        (bindO (evalOp T fr o M) fun y => bindO (putT fr o.dst y.1) fun fr' => wP T ops ms eff todo (i + 1) k fr' M fl nid fun rs ns as f => K (⟨fr, y.1, none, M⟩ :: rs) ns as f)
        (bindO (putT fr o.dst undefA) fun fr' => wP T ops ms eff todo (i + 1) k fr' M fl nid fun rs ns as f => K (⟨fr, undefA, none, M⟩ :: rs) ns as f))

theorem wP_ok {T : Tab} {ops : Array Oper} {ms eff : List Nat} : ∀ {todo : List Oper} {i k : Nat} {fr : Tr AV} {M : Mem} {fl : List Flo} {nid : Nat} {K : List Rec → List Mem → List Mem → Tr AV → Prop},
    wP T ops ms eff todo i k fr M fl nid K → ∃ r, Pass T ops ms eff todo i k fr M fl nid r ∧ K r.recs r.mems r.ads r.fr
  | [], i, k, fr, M, fl, nid, K, h => ⟨_, rfl, h⟩
  | o :: todo, i, k, fr, M, fl, nid, K, h => by
    unfold wP at h
    unfold Pass
    obtain ⟨wnt, hw, h⟩ := bindO_elim h
    rw [hw]
    cases hc : cls T o <;> cases wnt <;> rw [hc] at h <;> simp only [clsE_eff, clsE_flt, clsE_pure, clsE_read, condB_true, condB_false] at h ⊢
    case pure.false => obtain ⟨r, h1, h2⟩ := wP_ok (putT_elim h); exact ⟨_, ⟨_, r, .inl ⟨trivial, rfl⟩, h1, rfl⟩, h2⟩
    case read.false => obtain ⟨r, h1, h2⟩ := wP_ok (putT_elim h); exact ⟨_, ⟨_, r, .inl ⟨trivial, rfl⟩, h1, rfl⟩, h2⟩
    case flt.false => obtain ⟨r, h1, h2⟩ := wP_ok (putT_elim h); exact ⟨_, .inr ⟨trivial, r, h1, rfl⟩, h2⟩
    case eff.false => obtain ⟨r, h1, h2⟩ := wP_ok (putT_elim h); exact ⟨_, ⟨_, _, r, .inl ⟨hw, rfl, rfl⟩, h1, rfl⟩, h2⟩
    case pure.true =>
      obtain ⟨⟨x, M'⟩, hx, h⟩ := bindO_elim h
      obtain ⟨r, h1, h2⟩ := wP_ok (putT_elim h)
      exact ⟨_, ⟨_, r, .inr ⟨trivial, M', hx⟩, h1, rfl⟩, h2⟩
    case read.true =>
      obtain ⟨⟨x, M'⟩, hx, h⟩ := bindO_elim h
      obtain ⟨r, h1, h2⟩ := wP_ok (putT_elim h)
      exact ⟨_, ⟨_, r, .inr ⟨trivial, M', hx⟩, h1, rfl⟩, h2⟩
    case flt.true =>
      obtain ⟨⟨x, row⟩, hx, h⟩ := bindO_elim h
      obtain ⟨r, h1, h2⟩ := wP_ok (putT_elim h)
      exact ⟨_, .inl ⟨trivial, x, row, r, hx, h1, rfl⟩, h2⟩
    case eff.true =>
      cases hcal : calleeA fr o with
      | some c =>
        obtain ⟨g, args⟩ := c
        rw [hcal, caseO_some] at h
        obtain ⟨F, hF, x, M', hcall, h⟩ := bindO_elim h
        obtain ⟨r, h1, h2⟩ := wP_ok (putT_elim h)
        exact ⟨_, ⟨x, M', r, .inr ⟨hw, .inr ⟨g, args, F, hcal, hF, hcall⟩⟩, h1, rfl⟩, h2⟩
      | none =>
        rw [hcal, caseO_none] at h
        obtain ⟨⟨x, M'⟩, hx, h⟩ := bindO_elim h
        obtain ⟨r, h1, h2⟩ := wP_ok (putT_elim h)
        exact ⟨_, ⟨x, M', r, .inr ⟨hw, .inl hx⟩, h1, rfl⟩, h2⟩

@[congr] theorem wP_congr {T : Tab} {ops : Array Oper} {ms eff : List Nat} {l : List Oper} {i k : Nat} {fr fr' : Tr AV} {M : Mem} {fl : List Flo} {nid : Nat} {K : List Rec → List Mem → List Mem → Tr AV → Prop} (h : ∀ _ : Unit, fr = fr') :
    wP T ops ms eff l i k fr M fl nid K = wP T ops ms eff l i k fr' M fl nid K := by rw [h ()]
theorem wP_nil {T : Tab} {ops : Array Oper} {ms eff : List Nat} {i k : Nat} {fr : Tr AV} {M : Mem} {fl : List Flo} {nid : Nat} {K : List Rec → List Mem → List Mem → Tr AV → Prop} :
    wP T ops ms eff [] i k fr M fl nid K = K [] [M] [adopt k fl M] fr := rfl
theorem wP_cons {T : Tab} {ops : Array Oper} {ms eff : List Nat} {o : Oper} {todo : List Oper} {i k : Nat} {fr : Tr AV} {M : Mem} {fl : List Flo} {nid : Nat} {K : List Rec → List Mem → List Mem → Tr AV → Prop} :
    wP T ops ms eff (o :: todo) i k fr M fl nid K = bindO (wantedA ops fr o) fun wnt => clsE (cls T o)
      (condB wnt
        (caseO (calleeA fr o)
          (fun c => bindO (T.fn.get c.1) fun _ => ∃ x M', CallA T.P c.1 c.2 (adopt k fl M) (fun y N => y = x ∧ N = M') ∧
              bindO (putT fr o.dst x) fun fr' => wP T ops ms eff todo (i + 1) (k + 1) fr' M' fl nid fun rs ns as f => K (⟨fr, x, none, M⟩ :: rs) (M :: ns) (adopt k fl M :: as) f)
          (bindO (evalOp T fr o (adopt k fl M)) fun y =>
            bindO (putT fr o.dst y.1) fun fr' => wP T ops ms eff todo (i + 1) (k + 1) fr' y.2 fl nid fun rs ns as f => K (⟨fr, y.1, none, M⟩ :: rs) (M :: ns) (adopt k fl M :: as) f))
        (bindO (putT fr o.dst undefA) fun fr' => wP T ops ms eff todo (i + 1) (k + 1) fr' (adopt k fl M) fl nid fun rs ns as f => K (⟨fr, undefA, none, M⟩ :: rs) (M :: ns) (adopt k fl M :: as) f))
      (condB wnt
        (bindO (evFl T fr o nid) fun y => bindO (putT fr o.dst y.1) fun fr' => wP T ops ms eff todo (i + 1) k fr' M (⟨hi ms eff i, nid, y.2⟩ :: fl) (nid + 1) fun rs ns as f => K (⟨fr, y.1, some ⟨hi ms eff i, nid, y.2⟩, M⟩ :: rs) ns as f)
        (bindO (putT fr o.dst undefA) fun fr' => wP T ops ms eff todo (i + 1) k fr' M fl nid fun rs ns as f => K (⟨fr, undefA, none, M⟩ :: rs) ns as f))
      (condB wnt
        (bindO (evalOp T fr o M) fun y => bindO (putT fr o.dst y.1) fun fr' => wP T ops ms eff todo (i + 1) k fr' M fl nid fun rs ns as f => K (⟨fr, y.1, none, M⟩ :: rs) ns as f)
        (bindO (putT fr o.dst undefA) fun fr' => wP T ops ms eff todo (i + 1) k fr' M fl nid fun rs ns as f => K (⟨fr, undefA, none, M⟩ :: rs) ns as f)) := rfl

/-- The rule for an open region. -/
theorem wpa_open {T : Tab} (ok : T.Ok) (hmix : T.P.follows .mixedOrders = true) {nt id : Nat} {ops : Array Oper} (S : Static T nt ops) {st : St} (hn : nt ≤ st.n) {Q : Ex → St → Prop} {ms eff : List Nat}
    (hms : masks ops.toList [] = ms) (heff : effOf T ops.toList 0 = eff) {c : Nat} (hc : countFlt T ops.toList = c)
    (h : wP T ops ms eff ops.toList 0 0 st.t { next := st.m.next + c, rows := st.m.rows } [] st.m.next fun rs ns as f =>
      passB T ops ms eff ns ops.toList rs 0 = true ∧ bindO as[eff.length]? fun A => Q .normal { n := st.n, t := f, m := A }) :
    WpA T.P (.region id ops true) st Q := by
  subst hms heff hc
  obtain ⟨r, h1, h2, h3⟩ := wP_ok h
  obtain ⟨A, hA, h3⟩ := bindO_elim h3
  exact wpa_pass ok hmix S hn h1 h2 hA h3

theorem wpa_open2 {T : Tab} (ok : T.Ok) (hmix : T.P.follows .mixedOrders = true) {nt id : Nat} {ops : Array Oper} (S : Static T nt ops) {st : St} (hn : nt ≤ st.n) {Q : Ex → St → Prop} {ms eff : List Nat}
    (hms : masks ops.toList [] = ms) (heff : effOf T ops.toList 0 = eff) {c : Nat} (hc : countFlt T ops.toList = c) {R : List Rec} {Ns As : List Mem} {f : Tr AV} {A : Mem}
    (h : ∀ K : List Rec → List Mem → List Mem → Tr AV → Prop, K R Ns As f → wP T ops ms eff ops.toList 0 0 st.t { next := st.m.next + c, rows := st.m.rows } [] st.m.next K)
    (hb : passB T ops ms eff Ns ops.toList R 0 = true) (hA : As[eff.length]? = some A) (hQ : Q .normal { n := st.n, t := f, m := A }) :
    WpA T.P (.region id ops true) st Q :=
  wpa_open ok hmix S hn hms heff hc (h _ ⟨hb, by rw [hA]; exact hQ⟩)

end Go.AM
