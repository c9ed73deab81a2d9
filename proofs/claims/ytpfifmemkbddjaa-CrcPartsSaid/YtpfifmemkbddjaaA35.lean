/- The abstract machine, part 35: a function's text as what has to be shown, with values of known kinds and no frame in sight. -/
import Derived.Test.YtpfifmemkbddjaaA34
namespace Go.AM
set_option linter.unusedSimpArgs false
set_option linter.unusedVariables false

/-- Kinds of values, as far as they are told apart. -/
inductive LK where
  | any
  | int (k : IntKind)
  | bool

inductive CK where
  | l (x : LK)
  | a (xs : List LK)

inductive SK where
  | non
  | int (k : IntKind)
  | bool
  | spl
  | ptr
  | agg (ls : List LK)
  | tup (cs : List CK)

def zI (k : IntKind) (v : AV) (K : Int → Prop) : Prop :=
  match v with
  | .val (.int k' z) => condB (kindBeq k' k) (K z) False
  | _ => False
def zB (v : AV) (K : Bool → Prop) : Prop :=
  match v with
  | .val (.bool b) => K b
  | _ => False
def zS (v : AV) (K : Bool → Prop) : Prop :=
  match v with
  | .val (.bool b) => condB b (K true) (K false)
  | _ => False
def zSB (v : AV) (p q : Prop) : Prop :=
  match v with
  | .val (.bool b) => condB b p q
  | _ => False
def zP (v : AV) (K : Nat → Nat → Prop) : Prop :=
  match v with
  | .ptr b o => K b o
  | _ => False
def zL (k : LK) (v : AV) (K : AV → Prop) : Prop :=
  match k with
  | .any => K v
  | .int k => zI k v fun z => K (.val (.int k z))
  | .bool => zB v fun b => K (.val (.bool b))
def exLs : List LK → (List AV → Prop) → Prop
  | [], f => f []
  | .any :: r, f => ∃ v : AV, exLs r fun vs => f (v :: vs)
  | .int k :: r, f => ∃ z : Int, exLs r fun vs => f (.val (.int k z) :: vs)
  | .bool :: r, f => ∃ b : Bool, exLs r fun vs => f (.val (.bool b) :: vs)
def exCs : List CK → (List AV → Prop) → Prop
  | [], f => f []
  | .l .any :: r, f => ∃ v : AV, exCs r fun vs => f (v :: vs)
  | .l (.int k) :: r, f => ∃ z : Int, exCs r fun vs => f (.val (.int k z) :: vs)
  | .l .bool :: r, f => ∃ b : Bool, exCs r fun vs => f (.val (.bool b) :: vs)
  | .a xs :: r, f => exLs xs fun us => exCs r fun vs => f (.agg us :: vs)
def zA (ls : List LK) (v : AV) (K : List AV → Prop) : Prop := exLs ls fun vs => v = .agg vs ∧ K vs
def zC (k : CK) (v : AV) (K : AV → Prop) : Prop :=
  match k with
  | .l x => zL x v K
  | .a xs => zA xs v fun vs => K (.agg vs)
def zCs : List CK → List AV → (List AV → Prop) → Prop
  | [], [], K => K []
  | c :: cs, v :: vs, K => zC c v fun v' => zCs cs vs fun vs' => K (v' :: vs')
  | _, _, _ => False
def zT (cs : List CK) (v : AV) (K : List AV → Prop) : Prop := exCs cs fun vs => v = .tup vs ∧ K vs
def asK (k : SK) (v : AV) (K : AV → Prop) : Prop :=
  match k with
  | .non => K v
  | .int k => zI k v fun z => K (.val (.int k z))
  | .bool => zB v fun b => K (.val (.bool b))
  | .spl => zSB v (K (.val (.bool true))) (K (.val (.bool false)))
  | .ptr => zP v fun b o => K (.ptr b o)
  | .agg ls => zA ls v fun vs => K (.agg vs)
  | .tup cs => zT cs v fun vs => K (.tup vs)

theorem zI_elim {k : IntKind} {v : AV} {K : Int → Prop} (h : zI k v K) : ∃ z, v = .val (.int k z) ∧ K z := by
  unfold zI at h
  split at h
  · rename_i k' z
    cases hk : kindBeq k' k with
    | true => rw [hk] at h; rw [kindBeq_eq hk]; exact ⟨z, rfl, h⟩
    | false => rw [hk] at h; exact h.elim
  · exact h.elim
theorem zB_elim {v : AV} {K : Bool → Prop} (h : zB v K) : ∃ z, v = .val (.bool z) ∧ K z := by
  unfold zB at h
  split at h
  · exact ⟨_, rfl, h⟩
  · exact h.elim
theorem zS_elim {v : AV} {K : Bool → Prop} (h : zS v K) : ∃ z, v = .val (.bool z) ∧ K z := by
  unfold zS at h
  split at h
  · rename_i b
    cases b with
    | true => exact ⟨_, rfl, h⟩
    | false => exact ⟨_, rfl, h⟩
  · exact h.elim
theorem zSB_elim {v : AV} {p q : Prop} (h : zSB v p q) : (v = .val (.bool true) ∧ p) ∨ (v = .val (.bool false) ∧ q) := by
  unfold zSB at h
  split at h
  · rename_i b
    cases b with
    | true => exact .inl ⟨rfl, h⟩
    | false => exact .inr ⟨rfl, h⟩
  · exact h.elim
theorem zP_elim {v : AV} {K : Nat → Nat → Prop} (h : zP v K) : ∃ b o, v = .ptr b o ∧ K b o := by
  unfold zP at h
  split at h
  · exact ⟨_, _, rfl, h⟩
  · exact h.elim
theorem zL_elim {k : LK} {v : AV} {K : AV → Prop} (h : zL k v K) : K v := by
  cases k with
  | any => exact h
  | int k => obtain ⟨z, rfl, h'⟩ := zI_elim h; exact h'
  | bool => obtain ⟨z, rfl, h'⟩ := zB_elim h; exact h'
theorem exLs_elim : ∀ {ls : List LK} {f : List AV → Prop}, exLs ls f → ∃ vs, f vs
  | [], _, h => ⟨[], h⟩
  | .any :: r, f, ⟨v, h⟩ => (exLs_elim (ls := r) h).elim fun vs hv => ⟨_, hv⟩
  | .int k :: r, f, ⟨v, h⟩ => (exLs_elim (ls := r) h).elim fun vs hv => ⟨_, hv⟩
  | .bool :: r, f, ⟨v, h⟩ => (exLs_elim (ls := r) h).elim fun vs hv => ⟨_, hv⟩
theorem exCs_elim : ∀ {ls : List CK} {f : List AV → Prop}, exCs ls f → ∃ vs, f vs
  | [], _, h => ⟨[], h⟩
  | .l .any :: r, f, ⟨v, h⟩ => (exCs_elim (ls := r) h).elim fun vs hv => ⟨_, hv⟩
  | .l (.int k) :: r, f, ⟨v, h⟩ => (exCs_elim (ls := r) h).elim fun vs hv => ⟨_, hv⟩
  | .l .bool :: r, f, ⟨v, h⟩ => (exCs_elim (ls := r) h).elim fun vs hv => ⟨_, hv⟩
  | .a xs :: r, f, h => by
    obtain ⟨us, h⟩ := exLs_elim (ls := xs) h
    obtain ⟨vs, h⟩ := exCs_elim (ls := r) h
    exact ⟨_, h⟩
theorem exLs_mono : ∀ {ls : List LK} {f g : List AV → Prop}, (∀ vs, f vs → g vs) → exLs ls f → exLs ls g
  | [], _, _, hk, h => hk _ h
  | .any :: r, _, _, hk, ⟨v, h⟩ => ⟨v, exLs_mono (ls := r) (fun vs hv => hk _ hv) h⟩
  | .int k :: r, _, _, hk, ⟨v, h⟩ => ⟨v, exLs_mono (ls := r) (fun vs hv => hk _ hv) h⟩
  | .bool :: r, _, _, hk, ⟨v, h⟩ => ⟨v, exLs_mono (ls := r) (fun vs hv => hk _ hv) h⟩
theorem exCs_mono : ∀ {ls : List CK} {f g : List AV → Prop}, (∀ vs, f vs → g vs) → exCs ls f → exCs ls g
  | [], _, _, hk, h => hk _ h
  | .l .any :: r, _, _, hk, ⟨v, h⟩ => ⟨v, exCs_mono (ls := r) (fun vs hv => hk _ hv) h⟩
  | .l (.int k) :: r, _, _, hk, ⟨v, h⟩ => ⟨v, exCs_mono (ls := r) (fun vs hv => hk _ hv) h⟩
  | .l .bool :: r, _, _, hk, ⟨v, h⟩ => ⟨v, exCs_mono (ls := r) (fun vs hv => hk _ hv) h⟩
  | .a xs :: r, f, g, hk, h => exLs_mono (ls := xs) (f := fun us => exCs r fun vs => f (.agg us :: vs)) (g := fun us => exCs r fun vs => g (.agg us :: vs)) (fun us hu => exCs_mono (ls := r) (fun vs hv => hk _ hv) hu) h
theorem zA_elim {ls : List LK} {v : AV} {K : List AV → Prop} (h : zA ls v K) : ∃ vs, v = .agg vs ∧ K vs := exLs_elim h
theorem zC_elim {k : CK} {v : AV} {K : AV → Prop} (h : zC k v K) : K v := by
  cases k with
  | l x => exact zL_elim h
  | a xs => obtain ⟨vs, rfl, h'⟩ := zA_elim h; exact h'
theorem zCs_elim : ∀ {ls : List CK} {vs : List AV} {K : List AV → Prop}, zCs ls vs K → K vs
  | [], [], _, h => h
  | [], _ :: _, _, h => h.elim
  | _ :: _, [], _, h => h.elim
  | _ :: ls, v :: vs, K, h => zCs_elim (ls := ls) (vs := vs) (K := fun vs' => K (v :: vs')) (zC_elim (K := fun v' => zCs ls vs fun vs' => K (v' :: vs')) h)
theorem zT_elim {ls : List CK} {v : AV} {K : List AV → Prop} (h : zT ls v K) : ∃ vs, v = .tup vs ∧ K vs := exCs_elim h
theorem asK_elim {k : SK} {v : AV} {K : AV → Prop} (h : asK k v K) : K v := by
  cases k with
  | non => exact h
  | int k => obtain ⟨z, rfl, h'⟩ := zI_elim h; exact h'
  | bool => obtain ⟨z, rfl, h'⟩ := zB_elim h; exact h'
  | spl => rcases zSB_elim (p := K (.val (.bool true))) (q := K (.val (.bool false))) h with ⟨rfl, h'⟩ | ⟨rfl, h'⟩ <;> exact h'
  | ptr => obtain ⟨b, o, rfl, h'⟩ := zP_elim (K := fun b o => K (.ptr b o)) h; exact h'
  | agg ls => obtain ⟨vs, rfl, h'⟩ := zA_elim (K := fun vs => K (.agg vs)) h; exact h'
  | tup cs => obtain ⟨vs, rfl, h'⟩ := zT_elim (K := fun vs => K (.tup vs)) h; exact h'

/-! ## What a loop keeps -/

def JT : List LK → Type
  | [] => Nat → Mem → Prop
  | .any :: r => AV → JT r
  | .int _ :: r => Int → JT r
  | .bool :: r => Bool → JT r

def apJ : (ks : List LK) → JT ks → List AV → Nat → Mem → Prop
  | [], J, [], n, m => J n m
  | .any :: r, J, v :: vs, n, m => apJ r (J v) vs n m
  | .int k :: r, J, v :: vs, n, m => zI k v fun z => apJ r (J z) vs n m
  | .bool :: r, J, v :: vs, n, m => zB v fun b => apJ r (J b) vs n m
  | _, _, _, _, _ => False

def allL : (ks : List LK) → (List AV → Prop) → Prop
  | [], f => f []
  | .any :: r, f => ∀ v : AV, allL r fun vs => f (v :: vs)
  | .int k :: r, f => ∀ z : Int, allL r fun vs => f (.val (.int k z) :: vs)
  | .bool :: r, f => ∀ b : Bool, allL r fun vs => f (.val (.bool b) :: vs)

theorem allL_elim : ∀ {ks : List LK} {J : JT ks} {vs : List AV} {n : Nat} {m : Mem} {f : List AV → Prop}, allL ks f → apJ ks J vs n m → f vs
  | [], _, [], _, _, _, h, _ => h
  | [], _, _ :: _, _, _, _, _, hj => hj.elim
  | .any :: r, J, [], _, _, _, _, hj => hj.elim
  | .int k :: r, J, [], _, _, _, _, hj => hj.elim
  | .bool :: r, J, [], _, _, _, _, hj => hj.elim
  | .any :: r, J, v :: vs, n, m, f, h, hj => allL_elim (ks := r) (J := J v) (f := fun vs => f (v :: vs)) (h v) hj
  | .int k :: r, J, v :: vs, n, m, f, h, hj => by
    obtain ⟨z, rfl, hj'⟩ := zI_elim hj
    exact allL_elim (ks := r) (J := J z) (f := fun vs => f (.val (.int k z) :: vs)) (h z) hj'
  | .bool :: r, J, v :: vs, n, m, f, h, hj => by
    obtain ⟨z, rfl, hj'⟩ := zB_elim hj
    exact allL_elim (ks := r) (J := J z) (f := fun vs => f (.val (.bool z) :: vs)) (h z) hj'

/-! ## What is noted down of a piece of code -/

inductive An where
  | z
  | reg (ks : List SK)
  | opn (steps : List (Nat × List Nat)) (rk : List Nat) (ob : List (List Nat)) (c : Nat) (ks : List SK)
  | seq (a b : An)
  | cnd (a b : An)
  | blk (a : An)
  | lop (sl : List (Tmp × LK)) (junk : List Tmp) (a : An)

def zStep (T : Tab) (ops : Array Oper) (id : Nat) (o : Oper) (k : SK) (st : St) (K : St → Prop) : Prop :=
  bindO (wantedA ops st.t o) fun b => condB b
    (clsE (cls T o)
      (wO T o st fun x M' => asK k x fun x => K (stX st o.dst x M'))
      (bindO (evFl T st.t o id) fun y => asK k y.1 fun x => K (stX st o.dst x (st.m.put id y.2)))
      (bindO (evalOp T st.t o st.m) fun y => asK k y.1 fun x => K (stX st o.dst x st.m)))
    (K (stX st o.dst undefA st.m))

def headK : List SK → SK
  | [] => .non
  | k :: _ => k

/-- Operations, one behind the other (what makes a block makes the next one). -/
def zO (T : Tab) (ops : Array Oper) : List Oper → List SK → St → (St → Prop) → Prop
  | [], _, st, K => K st
  | o :: r, ks, st, K => bindO (wantedA ops st.t o) fun b => condB b
      (clsE (cls T o)
        (wO T o st fun x M' => asK (headK ks) x fun x => zO T ops r ks.tail (stX st o.dst x M') K)
        (bindO (evalOp T st.t o st.m) fun y => asK (headK ks) y.1 fun x => zO T ops r ks.tail (stX st o.dst x y.2) K)
        (bindO (evalOp T st.t o st.m) fun y => asK (headK ks) y.1 fun x => zO T ops r ks.tail (stX st o.dst x st.m) K))
      (zO T ops r ks.tail (stX st o.dst undefA st.m) K)

def zY (T : Tab) (ops : Array Oper) (base : Nat) (rk : List Nat) : List (Nat × List Nat) → List SK → St → (St → Prop) → Prop
  | [], _, st, K => K st
  | i :: is, ks, st, K => bindO ops[i.1]? fun o => zStep T ops (base + rk.getD i.1 0) o (headK ks) st fun s => chkA T ops i.2 s fun s => zY T ops base rk is ks.tail s K

def setS : List (Tmp × LK) → List AV → Tr AV → Tr AV
  | s :: sl, v :: vs, t => setS sl vs (t.set s.1 (some v))
  | _, _, t => t
def setJ (js : Nat → Option AV) : List Tmp → Tr AV → Tr AV
  | [], t => t
  | j :: r, t => setJ js r (t.set j (js j))
def slotsOf (t : Tr AV) (sl : List (Tmp × LK)) : List AV := sl.map fun s => (t.get s.1).getD undefA

def wZ (T : Tab) : An → Code → St → (Ex → St → Prop) → Prop
  | .z, c, st, Q => match c with
    | .skip => Q .normal st
    | .label _ => Q .normal st
    | .exit i => Q (.exit i) st
    | .ret => Q .ret st
    | _ => False
  | .reg ks, c, st, Q => match c with
    | .region _ ops d => condB d False (zO T ops ops.toList ks st (Q .normal))
    | _ => False
  | .opn steps rk _ n ks, c, st, Q => match c with
    | .region _ ops d => condB d (zY T ops st.m.next rk steps ks { n := st.n, t := st.t, m := { next := st.m.next + n, rows := st.m.rows } } (Q .normal)) False
    | _ => False
  | .seq a b, c, st, Q => match c with
    | .seq x y => wZ T a x st (andThen (fun s => wZ T b y s Q) Q)
    | _ => False
  | .cnd a b, c, st, Q => match c with
    | .cond o x y => zB (opnd st.t o) fun v => condB v (wZ T a x st Q) (wZ T b y st Q)
    | _ => False
  | .blk a, c, st, Q => match c with
    | .block id x => wZ T a x st (onExit id Q)
    | _ => False
  | .lop sl junk a, c, st, Q => match c with
    | .loop x => ∃ J : JT (sl.map (·.2)), (∃ n, apJ (sl.map (·.2)) J (slotsOf st.t sl) n st.m) ∧
        ∀ js : Nat → Option AV, allL (sl.map (·.2)) fun vs => ∀ (n : Nat) (m : Mem), apJ (sl.map (·.2)) J vs n m →
          wZ T a x { n := st.n, t := setJ js junk (setS sl vs st.t), m := m } (andThen (fun s => ∃ k, k < n ∧ apJ (sl.map (·.2)) J (slotsOf s.t sl) k s.m) Q)
    | _ => False

/-! ## What is looked at once -/

def dstsOf : List Oper → List Tmp
  | [] => []
  | o :: r => match o.dst with
    | some d => d :: dstsOf r
    | none => dstsOf r

/-- The slots that are written. -/
def asgOf : An → Code → List Tmp
  | .reg _, c => match c with | .region _ ops _ => dstsOf ops.toList | _ => []
  | .opn .., c => match c with | .region _ ops _ => dstsOf ops.toList | _ => []
  | .seq a b, c => match c with | .seq x y => asgOf a x ++ asgOf b y | _ => []
  | .cnd a b, c => match c with | .cond _ x y => asgOf a x ++ asgOf b y | _ => []
  | .blk a, c => match c with | .block _ x => asgOf a x | _ => []
  | .lop sl junk _, c => match c with | .loop _ => sl.map (·.1) ++ junk | _ => []
  | .z, _ => []

def memN (i : Nat) : List Nat → Bool
  | [] => false
  | j :: r => Nat.beq i j || memN i r
theorem memN_ok {i : Nat} : ∀ {l : List Nat}, memN i l = true ↔ i ∈ l
  | [] => by simp [memN]
  | j :: r => by simp [memN, memN_ok (l := r)]

def sameN : List Nat → List Nat → Bool
  | [], [] => true
  | a :: x, b :: y => Nat.beq a b && sameN x y
  | _, _ => false
theorem sameN_eq : ∀ {x y : List Nat}, sameN x y = true → x = y
  | [], [], _ => rfl
  | a :: x, b :: y, h => by
    simp only [sameN, Bool.and_eq_true, Nat.beq_eq] at h
    rw [h.1, sameN_eq h.2]
  | [], _ :: _, h => by cases h
  | _ :: _, [], h => by cases h
def sameSt : List (Nat × List Nat) → List (Nat × List Nat) → Bool
  | [], [] => true
  | a :: x, b :: y => (Nat.beq a.1 b.1 && sameN a.2 b.2) && sameSt x y
  | _, _ => false
theorem sameSt_eq : ∀ {x y : List (Nat × List Nat)}, sameSt x y = true → x = y
  | [], [], _ => rfl
  | (a, k) :: x, (b, l) :: y, h => by
    simp only [sameSt, Bool.and_eq_true, Nat.beq_eq] at h
    rw [h.1.1, sameN_eq h.1.2, sameSt_eq h.2]
  | [], _ :: _, h => by cases h
  | _ :: _, [], h => by cases h

def anB (T : Tab) (nt : Nat) : An → Code → Bool
  | .reg _, c => match c with | .region _ ops _ => (dstsOf ops.toList).all fun d => Nat.blt d nt | _ => false
  | .opn steps rk ob n _, c => match c with
    | .region _ ops _ => staticB T nt ops && (permB T ops (steps.map (·.1)) rk ob n && (sameSt (mkSteps ob (steps.map (·.1)) []) steps && (dstsOf ops.toList).all fun d => Nat.blt d nt))
    | _ => false
  | .seq a b, c => match c with | .seq x y => anB T nt a x && anB T nt b y | _ => false
  | .cnd a b, c => match c with | .cond _ x y => anB T nt a x && anB T nt b y | _ => false
  | .blk a, c => match c with | .block _ x => anB T nt a x | _ => false
  | .lop sl junk a, c => match c with | .loop x => anB T nt a x && (asgOf a x).all fun d => memN d (sl.map (·.1) ++ junk) | _ => false
  | .z, _ => true

/-! ## It bears what has to be shown -/

section
variable {T : Tab} {ops : Array Oper}

theorem dstsOf_mem : ∀ {l : List Oper} {o : Oper} {d : Tmp}, o ∈ l → o.dst = some d → d ∈ dstsOf l
  | [], _, _, h, _ => by simp at h
  | p :: l, o, d, h, hd => by
    simp only [List.mem_cons] at h
    unfold dstsOf
    rcases h with rfl | h
    · rw [hd]; simp
    · have := dstsOf_mem h hd
      split
      · simp [this]
      · exact this

def Agr (t t' : Tr AV) (l : List Tmp) : Prop := ∀ i, i ∉ l → t'.get i = t.get i

theorem agr_setd {t : Tr AV} {d : Option Tmp} {x : AV} {l : List Tmp} (h : ∀ a, d = some a → a ∈ l) : Agr t (setd t d x) l := fun i hi => setd_get t x (fun he => hi (h i he))
theorem Agr.trans {t t' t'' : Tr AV} {l : List Tmp} (h : Agr t t' l) (k : Agr t' t'' l) : Agr t t'' l := fun i hi => (k i hi).trans (h i hi)
theorem Agr.refl {t : Tr AV} {l : List Tmp} : Agr t t l := fun _ _ => rfl
theorem Agr.sub {t t' : Tr AV} {l l' : List Tmp} (h : Agr t t' l) (hs : ∀ i ∈ l, i ∈ l') : Agr t t' l' := fun i hi => h i fun hm => hi (hs i hm)

theorem asK_mono {k : SK} {v : AV} {K K' : AV → Prop} (h : asK k v K) (hk : ∀ x, K x → K' x) : asK k v K' := by
  have hI : ∀ {k : IntKind} {v : AV} {K K' : Int → Prop}, zI k v K → (∀ x, K x → K' x) → zI k v K' := fun {k v K K'} h hk => by
    unfold zI at h ⊢
    split at h
    · rename_i k' z
      cases hb : kindBeq k' k with
      | true => rw [hb] at h; exact hk _ h
      | false => rw [hb] at h; exact h.elim
    · exact h.elim
  have hB : ∀ {v : AV} {K K' : Bool → Prop}, zB v K → (∀ x, K x → K' x) → zB v K' := fun {v K K'} h hk => by
    unfold zB at h ⊢
    split at h
    · exact hk _ h
    · exact h.elim
  have hL : ∀ {k : LK} {v : AV} {K K' : AV → Prop}, zL k v K → (∀ x, K x → K' x) → zL k v K' := fun {k v K K'} h hk => by
    cases k with
    | any => exact hk _ h
    | int k => exact hI h fun z hz => hk _ hz
    | bool => exact hB h fun z hz => hk _ hz
  cases k with
  | non => exact hk _ h
  | int k => exact hI h fun z hz => hk _ hz
  | bool => exact hB h fun z hz => hk _ hz
  | spl =>
    unfold asK zSB at h ⊢
    simp only at h ⊢
    split at h
    · rename_i b
      cases b with
      | true => exact hk _ h
      | false => exact hk _ h
    · exact h.elim
  | ptr =>
    unfold asK zP at h ⊢
    simp only at h ⊢
    split at h
    · exact hk _ h
    · exact h.elim
  | agg ls => exact exLs_mono (fun vs hvs => ⟨hvs.1, hk _ hvs.2⟩) h
  | tup cs => exact exCs_mono (fun vs hvs => ⟨hvs.1, hk _ hvs.2⟩) h

theorem wO_mono {o : Oper} {st : St} {K K' : AV → Mem → Prop} (h : wO T o st K) (hk : ∀ x M, K x M → K' x M) : wO T o st K' := by
  unfold wO at h ⊢
  cases hcal : calleeA st.t o with
  | some c =>
    rw [hcal, caseO_some] at h
    rw [caseO_some]
    obtain ⟨F, hF, h⟩ := bindO_elim h
    rw [hF, bindO_some]
    exact h.mono hk
  | none =>
    rw [hcal, caseO_none] at h
    rw [caseO_none]
    obtain ⟨y, hy, h⟩ := bindO_elim h
    rw [hy, bindO_some]
    exact hk _ _ h

theorem zStep_step {id : Nat} {o : Oper} {k : SK} {st : St} {K : St → Prop} (h : zStep T ops id o k st K) : stepX T ops id o st K := by
  unfold zStep at h
  unfold stepX
  obtain ⟨b, hw, h⟩ := bindO_elim h
  rw [hw, bindO_some]
  cases b with
  | false => exact h
  | true =>
    rw [condB_true] at h ⊢
    cases hc : cls T o <;> rw [hc] at h <;> simp only [clsE_eff, clsE_flt, clsE_pure, clsE_read] at h ⊢
    case eff => exact wO_mono h fun x M hx => asK_elim hx
    all_goals
      obtain ⟨y, hy, h⟩ := bindO_elim h
      rw [hy, bindO_some]
      exact asK_elim h

theorem zY_wY {base : Nat} {rk : List Nat} {K : St → Prop} : ∀ {l : List (Nat × List Nat)} {ks : List SK} {st : St}, zY T ops base rk l ks st K → wY T ops base rk l st K
  | [], _, _, h => h
  | i :: is, ks, st, h => by
    unfold zY at h
    unfold wY
    obtain ⟨o, ho, h⟩ := bindO_elim h
    rw [ho, bindO_some]
    have h := zStep_step h
    refine stepX_mono (fun s hs => ?_) h
    have cm : ∀ {l : List Nat} {s : St} {K K' : St → Prop}, (∀ s, K s → K' s) → chkA T ops l s K → chkA T ops l s K' := fun {l} => by
      induction l with
      | nil => intro s K K' hk h; exact hk _ h
      | cons k l ih => intro s K K' hk h; exact ⟨h.1, ih hk h.2⟩
    exact cm (fun s hs => zY_wY hs) hs

theorem zO_wpo (ok : T.Ok) {nt : Nat} {Q : Ex → St → Prop} : ∀ {l : List Oper} {ks : List SK} {st : St}, (∀ d ∈ dstsOf l, d < nt) → nt ≤ st.n → zO T ops l ks st (Q .normal) → WpO T.P ops l st Q
  | [], _, _, _, _, h => wpo_nil h
  | o :: r, ks, st, hd, hn, h => by
    have hdr : ∀ d ∈ dstsOf r, d < nt := fun d hm => hd d (by
      unfold dstsOf
      split
      · simp [hm]
      · exact hm)
    have hput : ∀ (x : AV) (M : Mem), putA { st with m := M } o.dst x = some (stX st o.dst x M) := fun x M => by
      unfold putA stX setd
      cases ho : o.dst with
      | none => rfl
      | some d =>
        have : d < nt := hd d (dstsOf_mem (by simp) ho)
        have : Nat.blt d st.n = true := by rw [Nat.blt_eq]; exact Nat.lt_of_lt_of_le this hn
        simp only [this, cond_true]
    unfold zO at h
    obtain ⟨b, hw, h⟩ := bindO_elim h
    cases b with
    | false => exact wpo_skip hw (hput undefA st.m) (zO_wpo ok (Q := Q) hdr hn h)
    | true =>
      rw [condB_true] at h
      have eff : ∀ {K : AV → Mem → Prop}, (∀ x M, K x M → WpO T.P ops r (stX st o.dst x M) Q) → wO T o st K → WpO T.P ops (o :: r) st Q := fun {K} hk h => by
        unfold wO at h
        cases hcal : calleeA st.t o with
        | some c =>
          obtain ⟨g, args⟩ := c
          rw [hcal, caseO_some] at h
          obtain ⟨F, hF, h⟩ := bindO_elim h
          exact wpo_call ok hw hcal hF (h.mono fun x M' hx => ⟨_, hput x M', hk _ _ hx⟩)
        | none =>
          rw [hcal, caseO_none] at h
          obtain ⟨⟨x, M'⟩, hx, h⟩ := bindO_elim h
          exact wpo_op ok hw hx (hput x M') (hk _ _ h)
      cases hc : cls T o <;> rw [hc] at h <;> simp only [clsE_eff, clsE_flt, clsE_pure, clsE_read] at h
      case eff => exact eff (fun x M hx => zO_wpo ok (Q := Q) (st := stX st o.dst x M) hdr hn (asK_elim hx)) h
      case flt =>
        obtain ⟨⟨x, M'⟩, hx, h⟩ := bindO_elim h
        exact wpo_op ok hw hx (hput x M') (zO_wpo ok (Q := Q) (st := stX st o.dst x M') hdr hn (asK_elim h))
      all_goals
        obtain ⟨⟨x, M'⟩, hx, h⟩ := bindO_elim h
        have hM : M' = st.m := by first | exact read_ok hc hx | (have := pure_ok hc hx st.m; rw [hx] at this; injection this with this; injection this)
        subst hM
        exact wpo_op ok hw hx (hput x st.m) (zO_wpo ok (Q := Q) (st := stX st o.dst x st.m) hdr hn (asK_elim h))

end

end Go.AM
