/- The abstract machine, part 31: a region whose order is open, reckoned in one order that is given; what is called may answer in more than one way. -/
import Derived.Test.YtpfifmemkbddjaaA30
set_option linter.unusedVariables false
namespace Go.AM
set_option linter.unusedSimpArgs false

def stX (st : St) (d : Option Tmp) (x : AV) (M : Mem) : St := { n := st.n, t := setd st.t d x, m := M }

def stepX (T : Tab) (ops : Array Oper) (id : Nat) (o : Oper) (st : St) (K : St → Prop) : Prop :=
  bindO (wantedA ops st.t o) fun b => condB b
    (clsE (cls T o)
      (wO T o st fun x M' => K (stX st o.dst x M'))
      (bindO (evFl T st.t o id) fun y => K (stX st o.dst y.1 (st.m.put id y.2)))
      (bindO (evalOp T st.t o st.m) fun y => K (stX st o.dst y.1 st.m)))
    (K (stX st o.dst undefA st.m))

def chk1 (T : Tab) (ops : Array Oper) (s : St) (j : Nat) : Prop :=
  ∀ o, ops[j]? = some o → wantedA ops s.t o = some true → ∃ x M', evalOp T s.t o s.m = some (x, M') ∧ ∀ d, o.dst = some d → s.t.get d = some x

def chkL (T : Tab) (ops : Array Oper) (l : List Nat) (s : St) : Prop := ∀ j ∈ l, chk1 T ops s j

def obs (ob : List (List Nat)) (i : Nat) (acc : List Nat) : List Nat := (ob.getD i []).filter fun j => acc.contains j

def wX (T : Tab) (ops : Array Oper) (base : Nat) (rk : List Nat) (ob : List (List Nat)) : List Nat → List Nat → St → (St → Prop) → Prop
  | [], _, st, K => K st
  | i :: is, acc, st, K => bindO ops[i]? fun o => stepX T ops (base + rk.getD i 0) o st fun s => chkL T ops (obs ob i acc) s ∧ wX T ops base rk ob is (i :: acc) s K

/-! ## What is looked at once -/

def isCall (o : Oper) : Bool :=
  match o.op with
  | .call c => match c.callee with
    | .value _ => true
    | _ => false
  | _ => false

def isApp (o : Oper) : Bool :=
  match o.op with
  | .call c => match c.callee with
    | .builtin .append => true
    | _ => false
  | _ => false

def cok (T : Tab) (ob : List (List Nat)) (j i : Nat) (oj oi : Oper) : Bool :=
  match cls T oj, cls T oi with
  | .pure, _ => true
  | _, .pure => true
  | .read, .read => true
  | .read, .flt => true
  | .read, .eff => (ob.getD i []).contains j
  | .flt, .flt => true
  | .eff, .flt => isCall oj || isApp oj
  | _, _ => false

def cokO (T : Tab) (ops : Array Oper) (ob : List (List Nat)) (j i : Nat) : Bool :=
  match ops[j]?, ops[i]? with
  | some oj, some oi => cok T ob j i oj oi
  | _, _ => false

def pairB (T : Tab) (ops : Array Oper) (ms : List Nat) (ob : List (List Nat)) : List Nat → Bool
  | [] => true
  | j :: r => (r.all fun i => !Nat.beq j i && (!bf ms i j && (bf ms j i || cokO T ops ob j i))) && pairB T ops ms ob r

def isFlt (T : Tab) (o : Oper) : Bool := match cls T o with | .flt => true | _ => false
def isRead (T : Tab) (o : Oper) : Bool := match cls T o with | .read => true | _ => false

def fltB (T : Tab) (ops : Array Oper) (rk : List Nat) (c : Nat) : Bool :=
  allI (fun i o => !isFlt T o || (Nat.blt (rk.getD i 0) c && allI (fun j oj => !isFlt T oj || (Nat.beq i j || !Nat.beq (rk.getD i 0) (rk.getD j 0))) ops.toList 0)) ops.toList 0

def obB (T : Tab) (ops : Array Oper) (ms : List Nat) (ob : List (List Nat)) : Bool :=
  allI (fun i o => (match ob.getD i [] with | [] => true | _ :: _ => isEff T o) &&
    ((ob.getD i []).all fun k => match ops[k]? with
      | none => false
      | some ok => isRead T ok && ((looks ops ok).all fun t => allI (fun j oj => !dstIs oj t || bf ms j k) ops.toList 0))) ops.toList 0

def permB (T : Tab) (ops : Array Oper) (perm rk : List Nat) (ob : List (List Nat)) (c : Nat) : Bool :=
  (perm.all fun i => Nat.blt i ops.toList.length) && (allI (fun i _ => perm.contains i) ops.toList 0 && (pairB T ops (masks ops.toList []) ob perm && (fltB T ops rk c && obB T ops (masks ops.toList []) ob)))

structure Rl (T : Tab) (ops : Array Oper) (ob : List (List Nat)) (j i : Nat) : Prop where
  ne : j ≠ i
  nb : bf (masks ops.toList []) i j = false
  ok : bf (masks ops.toList []) j i = true ∨ ∀ oj oi, ops[j]? = some oj → ops[i]? = some oi → cok T ob j i oj oi = true

structure PermOk (T : Tab) (ops : Array Oper) (perm rk : List Nat) (ob : List (List Nat)) (c : Nat) : Prop where
  all : ∀ i, i < ops.size → i ∈ perm
  lt : ∀ i ∈ perm, i < ops.size
  pair : perm.Pairwise (Rl T ops ob)
  fid : ∀ i o, ops[i]? = some o → cls T o = .flt → rk.getD i 0 < c
  fin : ∀ i j oi oj, ops[i]? = some oi → ops[j]? = some oj → cls T oi = .flt → cls T oj = .flt → rk.getD i 0 = rk.getD j 0 → i = j
  obe : ∀ i o, ops[i]? = some o → cls T o ≠ .eff → ob.getD i [] = []
  obr : ∀ i o k, ops[i]? = some o → k ∈ ob.getD i [] → ∃ ok, ops[k]? = some ok ∧ cls T ok = .read ∧ ∀ t ∈ looks ops ok, ∀ (j : Nat) (oj : Oper), ops[j]? = some oj → oj.dst = some t → bf (masks ops.toList []) j k = true

theorem isFlt_ok {T : Tab} {o : Oper} (h : cls T o = .flt) : isFlt T o = true := by unfold isFlt; rw [h]

theorem pairB_ok {T : Tab} {ops : Array Oper} {ob : List (List Nat)} : ∀ {l : List Nat}, pairB T ops (masks ops.toList []) ob l = true → l.Pairwise (Rl T ops ob)
  | [], _ => .nil
  | j :: r, h => by
    unfold pairB at h
    rw [Bool.and_eq_true, List.all_eq_true] at h
    refine .cons (fun i hi => ?_) (pairB_ok h.2)
    have := h.1 i hi
    simp only [Bool.and_eq_true, Bool.not_eq_true', Bool.or_eq_true] at this
    obtain ⟨h1, h2, h3⟩ := this
    refine ⟨fun he => by subst he; simp at h1, h2, h3.imp id fun h4 oj oi hj hi => ?_⟩
    unfold cokO at h4
    rw [hj, hi] at h4
    exact h4

theorem permB_ok {T : Tab} {ops : Array Oper} {perm rk : List Nat} {ob : List (List Nat)} {c : Nat} (h : permB T ops perm rk ob c = true) : PermOk T ops perm rk ob c := by
  unfold permB at h
  simp only [Bool.and_eq_true] at h
  obtain ⟨h1, h2, h3, h4, h5⟩ := h
  have g4 : ∀ i o, ops[i]? = some o → cls T o = .flt → rk.getD i 0 < c ∧ ∀ j oj, ops[j]? = some oj → cls T oj = .flt → rk.getD i 0 = rk.getD j 0 → i = j := fun i o ho hc => by
    unfold fltB at h4
    have := allI_ok h4 i o (by simpa using ho)
    rw [isFlt_ok hc, Nat.zero_add] at this
    simp only [Bool.not_true, Bool.false_or, Bool.and_eq_true, Nat.blt_eq] at this
    refine ⟨this.1, fun j oj hj hcj he => ?_⟩
    have := allI_ok this.2 j oj (by simpa using hj)
    rw [isFlt_ok hcj, Nat.zero_add] at this
    simp only [Bool.not_true, Bool.false_or, Bool.or_eq_true, Nat.beq_eq, Bool.not_eq_true'] at this
    rcases this with h | h
    · exact h
    · rw [he] at h; simp at h
  have g5 : ∀ i o, ops[i]? = some o → (match ob.getD i [] with | [] => true | _ :: _ => isEff T o) = true ∧ ∀ k ∈ ob.getD i [], (match ops[k]? with
      | none => false
      | some ok => isRead T ok && ((looks ops ok).all fun t => allI (fun j oj => !dstIs oj t || bf (masks ops.toList []) j k) ops.toList 0)) = true := fun i o ho => by
    unfold obB at h5
    have := allI_ok h5 i o (by simpa using ho)
    rw [Nat.zero_add, Bool.and_eq_true, List.all_eq_true] at this
    exact this
  refine ⟨fun i hi => ?_, fun i hi => ?_, pairB_ok h3, fun i o ho hc => (g4 i o ho hc).1, fun i j oi oj hi hj hci hcj he => (g4 i oi hi hci).2 j oj hj hcj he, fun i o ho hc => ?_, fun i o k ho hk => ?_⟩
  · have := allI_ok h2 i ops[i] (by simp [hi])
    rw [Nat.zero_add] at this
    simpa using this
  · have := List.all_eq_true.1 h1 i hi
    simpa using this
  · have := (g5 i o ho).1
    split at this
    · assumption
    · unfold isEff at this
      split at this
      · rename_i h; exact absurd h hc
      · cases this
  · have := (g5 i o ho).2 k hk
    split at this
    · cases this
    · rename_i ok hok
      simp only [Bool.and_eq_true, List.all_eq_true] at this
      refine ⟨ok, hok, ?_, fun t ht j oj hj hjt => ?_⟩
      · have h := this.1
        unfold isRead at h
        split at h
        · assumption
        · cases h
      · have := allI_ok (this.2 t ht) j oj (by simpa using hj)
        rw [dstIs_ok hjt, Nat.zero_add] at this
        simpa using this

/-! ## Operations that do not see one another -/

def Ag (ops : Array Oper) (o : Oper) (t t' : Tr AV) : Prop := ∀ x ∈ looks ops o, t.get x = t'.get x

theorem Ag.refl {ops : Array Oper} {o : Oper} (t : Tr AV) : Ag ops o t t := fun _ _ => rfl
theorem Ag.symm {ops : Array Oper} {o : Oper} {t t' : Tr AV} (h : Ag ops o t t') : Ag ops o t' t := fun x hx => (h x hx).symm
theorem Ag.trans {ops : Array Oper} {o : Oper} {t t' t'' : Tr AV} (h : Ag ops o t t') (k : Ag ops o t' t'') : Ag ops o t t'' := fun x hx => (h x hx).trans (k x hx)
theorem Ag.opnd {ops : Array Oper} {o : Oper} {t t' : Tr AV} (h : Ag ops o t t') : ∀ x ∈ o.op.operands.toList, opnd t x = opnd t' x := opnd_congr fun x hx => h x (by unfold looks; simp [hx])
theorem Ag.wanted {ops : Array Oper} {o : Oper} {t t' : Tr AV} (h : Ag ops o t t') : wantedA ops t o = wantedA ops t' o := wanted_congr h
theorem Ag.eval {ops : Array Oper} {o : Oper} {t t' : Tr AV} (h : Ag ops o t t') (T : Tab) (M : Mem) : evalOp T t o M = evalOp T t' o M := evalOp_congr T h.opnd M
theorem Ag.fl {ops : Array Oper} {o : Oper} {t t' : Tr AV} (h : Ag ops o t t') (T : Tab) (id : Nat) : evFl T t o id = evFl T t' o id := evFl_congr T h.opnd id
theorem Ag.callee {ops : Array Oper} {o : Oper} {t t' : Tr AV} (h : Ag ops o t t') : calleeA t o = calleeA t' o := callee_congr h.opnd
theorem Ag.setd {ops : Array Oper} {o : Oper} (t : Tr AV) {d : Option Tmp} (v : AV) (h : ∀ x ∈ looks ops o, d ≠ some x) : Ag ops o (setd t d v) t := fun x hx => setd_get t v (h x hx)

theorem stepX_mono {T : Tab} {ops : Array Oper} {id : Nat} {o : Oper} {st : St} {K K' : St → Prop} (hk : ∀ s, K s → K' s) (h : stepX T ops id o st K) : stepX T ops id o st K' := by
  unfold stepX at h ⊢
  obtain ⟨b, hw, h⟩ := bindO_elim h
  rw [hw, bindO_some]
  cases b with
  | false => exact hk _ h
  | true =>
    rw [condB_true] at h ⊢
    cases hc : cls T o <;> rw [hc] at h <;> simp only [clsE_eff, clsE_flt, clsE_pure, clsE_read] at h ⊢
    case eff =>
      unfold wO at h ⊢
      cases hcal : calleeA st.t o with
      | some c =>
        rw [hcal, caseO_some] at h
        rw [caseO_some]
        obtain ⟨F, hF, h⟩ := bindO_elim h
        rw [hF, bindO_some]
        exact h.mono fun x M' hx => hk _ hx
      | none =>
        rw [hcal, caseO_none] at h
        rw [caseO_none]
        obtain ⟨y, hy, h⟩ := bindO_elim h
        rw [hy, bindO_some]
        exact hk _ h
    all_goals
      obtain ⟨y, hy, h⟩ := bindO_elim h
      rw [hy, bindO_some]
      exact hk _ h

theorem obs_sub {ob : List (List Nat)} {i : Nat} {acc acc' : List Nat} (h : ∀ x ∈ acc', x ∈ acc) {k : Nat} (hk : k ∈ obs ob i acc') : k ∈ obs ob i acc := by
  unfold obs at hk ⊢
  rw [List.mem_filter] at hk ⊢
  refine ⟨hk.1, ?_⟩
  have := hk.2
  simp only [List.contains_iff_mem] at this ⊢
  exact h k this

theorem wX_acc {T : Tab} {ops : Array Oper} {base : Nat} {rk : List Nat} {ob : List (List Nat)} {K : St → Prop} : ∀ {l acc acc' : List Nat} {st : St}, (∀ x ∈ acc', x ∈ acc) →
    wX T ops base rk ob l acc st K → wX T ops base rk ob l acc' st K
  | [], _, _, _, _, h => h
  | i :: is, acc, acc', st, hs, h => by
    unfold wX at h ⊢
    obtain ⟨o, ho, h⟩ := bindO_elim h
    rw [ho, bindO_some]
    refine stepX_mono ?_ h
    rintro s ⟨h1, h2⟩
    refine ⟨fun j hj => h1 j (obs_sub hs hj), wX_acc (fun x hx => ?_) h2⟩
    simp only [List.mem_cons] at hx ⊢
    exact hx.imp id (hs x)

/-- What is read stays where nothing but new rows are laid. -/
theorem read_mono {T : Tab} {fr : Tr AV} {o : Oper} (hc : cls T o = .read) {M M1 M' : Mem} {x : AV} (hM : ∀ b r, M.get b = some r → M1.get b = some r) (h : evalOp T fr o M = some (x, M')) :
    evalOp T fr o M1 = some (x, M1) := by
  have hcell : ∀ {b o : Nat} {y : AV}, M.cellAt b o = some y → M1.cellAt b o = some y := fun {b o y} h => by
    unfold Mem.cellAt at h ⊢
    split at h
    · rename_i cs rw' hg
      rw [hM _ _ hg]; exact h
    · cases h
  have hcells : ∀ {b o n : Nat} {y : List AV}, M.cellsAt b o n = some y → M1.cellsAt b o n = some y := fun {b o n y} h => by
    unfold Mem.cellsAt at h ⊢
    split at h
    · rename_i cs rw' hg
      rw [hM _ _ hg]; exact h
    · cases h
  have hents : ∀ {m : AV} {es}, entsOf M m = some es → entsOf M1 m = some es := fun {m es} h => by
    unfold entsOf at h ⊢
    split at h
    · exact h
    · rename_i b
      split at h
      · rename_i es' hg
        rw [hM _ _ hg]; exact h
      · cases h
    · cases h
  have hlen : ∀ {c : Bool} {t : TypeId} {y : AV} {n : Nat}, evLenCap T c t y M = some n → evLenCap T c t y M1 = some n := fun {c t y n} h => by
    unfold evLenCap at h ⊢
    split at h
    · cases h
    · rename_i ti hti
      split at h <;> try exact h
      rename_i k v m hk _ _ _
      cases c with
      | true => cases h
      | false =>
        rw [cond_false] at h ⊢
        obtain ⟨es, he, hl⟩ := Option.map_eq_some_iff.1 h
        rw [hents he]; simp [hl]
  obtain ⟨dst, op, type, pos, after, guard⟩ := o
  unfold evalOp at h ⊢
  unfold cls at hc
  cases op <;> simp only at hc h ⊢ <;> try (cases hc; done)
  case makeFunc fn a b => cases fn <;> simp only at hc <;> cases hc
  case makeMap t r => cases r <;> simp only at hc <;> cases hc
  case convert s d y =>
    split at hc
    · split at hc <;> cases hc
    · cases hc
  case load t y =>
    obtain ⟨u, hu, he⟩ := Option.map_eq_some_iff.1 h
    injection he with h1 h2; subst h1
    have : evLoad T t (opnd fr y) M1 = some u := by
      unfold evLoad at hu ⊢
      split at hu
      · split at hu
        · rename_i ti hti
          cases hagg : ti.isAgg with
          | true =>
            rw [hagg] at hu
            simp only [hagg, cond_true] at hu ⊢
            obtain ⟨zs, hz, rfl⟩ := Option.map_eq_some_iff.1 hu
            rw [hcells hz]; rfl
          | false =>
            rw [hagg] at hu
            simp only [hagg, cond_false] at hu ⊢
            exact hcell hu
        · cases hu
      · cases hu
    rw [this]; rfl
  case lookup t m k b =>
    obtain ⟨u, hu, he⟩ := Option.map_eq_some_iff.1 h
    injection he with h1 h2; subst h1
    have : evLookup T t (opnd fr m) (opnd fr k) b M1 = some u := by
      unfold evLookup at hu ⊢
      split at hu
      · cases hu
      · rename_i ti hti
        split at hu
        · rename_i kt vt hk
          split at hu
          · rename_i q1 tv es hq1 htv hes
            simp only [hq1, htv, hents hes]
            exact hu
          · cases hu
        · cases hu
    rw [this]; rfl
  case call c =>
    have hm : ∀ {cc : Bool} {xs : List AV}, evBuiltin T (cond cc .len .cap) c.argTypes type xs M = some (x, M') → evBuiltin T (cond cc .len .cap) c.argTypes type xs M1 = some (x, M1) := fun {cc xs} h => by
      cases cc with
      | true =>
        cases xs with
        | nil => simp [evBuiltin] at h
        | cons y ys =>
          cases ys with
          | cons z zs => simp [evBuiltin] at h
          | nil =>
            simp only [evBuiltin, cond_true] at h ⊢
            split at h
            · obtain ⟨u, hu, he⟩ := Option.map_eq_some_iff.1 h
              injection he with h1 h2; subst h1
              rw [hlen hu]; rfl
            · cases h
      | false =>
        cases xs with
        | nil => simp [evBuiltin] at h
        | cons y ys =>
          cases ys with
          | cons z zs => simp [evBuiltin] at h
          | nil =>
            simp only [evBuiltin, cond_false] at h ⊢
            split at h
            · obtain ⟨u, hu, he⟩ := Option.map_eq_some_iff.1 h
              injection he with h1 h2; subst h1
              rw [hlen hu]; rfl
            · cases h
    split at hc
    · rename_i hcal
      rw [hcal] at h ⊢
      exact hm (cc := true) h
    · rename_i hcal
      rw [hcal] at h ⊢
      exact hm (cc := false) h
    all_goals cases hc

/-! ## What is appended, beside a row that is not looked at -/

theorem sub_put {M : Mem} {b : Nat} {r : Row} (h0 : M.get b = none) : ∀ c s, M.get c = some s → (M.put b r).get c = some s := fun c s hc => by
  rw [Mem.get_put, if_neg (fun he => by subst he; rw [h0] at hc; cases hc)]
  exact hc

theorem ne_of_get {M : Mem} {b c : Nat} {r : Row} (h0 : M.get b = none) (hg : M.get c = some r) : b ≠ c := fun he => by subst he; rw [h0] at hg; cases hg

theorem evFirst_sub {size k : Nat} {x : AV} {M M1 : Mem} {xs : List AV} (hM : ∀ c s, M.get c = some s → M1.get c = some s) (h : evFirst size k x M = some xs) : evFirst size k x M1 = some xs := by
  unfold evFirst at h ⊢
  split at h <;> try exact h
  rw [cond_eq_ite] at h ⊢
  split at h
  · rename_i h1
    rw [if_pos h1]
    rw [cond_eq_ite] at h ⊢
    split at h
    · rename_i h2; rw [if_pos h2]; exact h
    · rename_i h2
      rw [if_neg h2]
      unfold Mem.cellsAt at h ⊢
      split at h
      · rename_i cs rw' hg
        rw [hM _ _ hg]; exact h
      · cases h
  · cases h

theorem evGrow_put {size bytes n len b0 : Nat} {ex : Option Nat} {s y : AV} {new : List AV} {M N : Mem} (h : evGrow size bytes n len b0 ex s new M = some (y, N)) {b : Nat} {r : Row} (h0 : M.get b = none) (hb : b < M.next) :
    evGrow size bytes n len b0 ex s new (M.put b r) = some (y, N.put b r) ∧ N.get b = none ∧ M.next ≤ N.next := by
  unfold evGrow at h ⊢
  rw [cond_eq_ite] at h ⊢
  split at h
  · rename_i h1
    rw [if_pos h1]
    split at h
    · cases h
    · rename_i old hold
      rw [evFirst_sub (sub_put h0) hold]
      simp only
      rw [cond_eq_ite] at h ⊢
      split at h
      · rename_i h2
        rw [if_pos h2]
        cases ex with
        | none =>
          simp only [Option.some.injEq, Prod.mk.injEq] at h ⊢
          obtain ⟨rfl, rfl⟩ := h
          refine ⟨⟨rfl, ?_⟩, ?_, Nat.le_succ _⟩
          · unfold Mem.new Mem.put
            simp only [Tr.set_comm _ _ _ (show b ≠ M.next by omega)]
          · rw [Mem.get_new, if_neg (by omega)]; exact h0
        | some se =>
          simp only at h ⊢
          split at h
          · rename_i cs hg
            have hbb : b ≠ b0 := fun he => by subst he; rw [h0] at hg; cases hg
            rw [sub_put h0 _ _ hg]
            simp only
            rw [cond_eq_ite] at h ⊢
            split at h
            · rename_i h3
              rw [if_pos h3]
              rw [cond_eq_ite] at h ⊢
              split at h
              · rename_i h4
                rw [if_pos h4]
                simp only [Option.some.injEq, Prod.mk.injEq] at h ⊢
                obtain ⟨rfl, rfl⟩ := h
                refine ⟨⟨rfl, ?_⟩, ?_, Nat.le_succ _⟩
                · unfold Mem.new Mem.put Mem.kill
                  simp only
                  rw [Tr.set_comm _ _ _ hbb, Tr.set_comm _ _ _ (show b ≠ M.next by omega)]
                · rw [Mem.get_new, if_neg (by simp; omega), Mem.get_kill, if_neg hbb]; exact h0
              · cases h
            · cases h
          · cases h
      · cases h
  · cases h

theorem append_put {T : Tab} {t1 t2 : TypeId} {s x y : AV} {M N : Mem} (h : evAppend T t1 t2 s x M = some (y, N)) {b : Nat} {r : Row} (h0 : M.get b = none) (hb : b < M.next) :
    evAppend T t1 t2 s x (M.put b r) = some (y, N.put b r) ∧ N.get b = none ∧ M.next ≤ N.next := by
  unfold evAppend at h ⊢
  split at h
  · split at h
    · split at h
      · cases h
      · split at h
        · cases h
        · split at h
          · cases h
          · rename_i te hte n hn new hnew
            rw [evFirst_sub (sub_put h0) hnew]
            simp only
            rw [cond_eq_ite] at h ⊢
            split at h
            · rename_i h1
              rw [if_pos h1]
              split at h
              · rw [cond_eq_ite] at h ⊢
                split at h
                · rename_i h2
                  rw [if_pos h2]
                  simp only [Option.some.injEq, Prod.mk.injEq] at h ⊢
                  obtain ⟨rfl, rfl⟩ := h
                  exact ⟨⟨rfl, rfl⟩, h0, Nat.le_refl _⟩
                · rename_i h2
                  rw [if_neg h2]
                  exact evGrow_put h h0 hb
              · rw [cond_eq_ite] at h ⊢
                split at h
                · rename_i h2
                  rw [if_pos h2]
                  rw [cond_eq_ite] at h ⊢
                  split at h
                  · rename_i h3
                    rw [if_pos h3]
                    simp only [Option.some.injEq, Prod.mk.injEq] at h ⊢
                    obtain ⟨rfl, rfl⟩ := h
                    exact ⟨⟨rfl, rfl⟩, h0, Nat.le_refl _⟩
                  · rename_i h3
                    rw [if_neg h3]
                    obtain ⟨M', hM', he⟩ := Option.map_eq_some_iff.1 h
                    injection he with e1 e2; subst e1 e2
                    unfold Mem.storeAt at hM' ⊢
                    split at hM'
                    · rename_i cs hg
                      have hbb := ne_of_get h0 hg
                      rw [sub_put h0 _ _ hg]
                      simp only
                      rw [cond_eq_ite] at hM' ⊢
                      split at hM'
                      · rename_i h4
                        rw [if_pos h4]
                        rw [cond_eq_ite] at hM' ⊢
                        split at hM'
                        · rename_i h5
                          rw [if_pos h5]
                          injection hM' with hM'; subst hM'
                          refine ⟨?_, ?_, Nat.le_refl _⟩
                          · simp only [Option.map_some]
                            rw [Mem.put_comm _ _ _ hbb]
                          · rw [Mem.get_put, if_neg hbb]; exact h0
                        · cases hM'
                      · cases hM'
                    · cases hM'
                · rename_i h2
                  rw [if_neg h2]
                  exact evGrow_put h h0 hb
              · cases h
            · cases h
    · cases h
  · cases h

theorem app_put {T : Tab} {fr : Tr AV} {o : Oper} (ho : isApp o = true) {M N : Mem} {y : AV} (h : evalOp T fr o M = some (y, N)) {b : Nat} {r : Row} (h0 : M.get b = none) (hb : b < M.next) :
    evalOp T fr o (M.put b r) = some (y, N.put b r) ∧ N.get b = none ∧ M.next ≤ N.next := by
  unfold isApp at ho
  split at ho
  · rename_i c hop
    split at ho
    · rename_i hcal
      unfold evalOp at h ⊢
      rw [hop] at h ⊢
      simp only [hcal] at h ⊢
      unfold evBuiltin at h ⊢
      split at h <;> try (cases h; done)
      all_goals try (have hq := ‹Builtin.append = _›; cases hq; done)
      split at h
      · rename_i s x _ _ ht1 ht2
        exact append_put h h0 hb
      · cases h
    · cases ho
  · cases ho

end Go.AM
