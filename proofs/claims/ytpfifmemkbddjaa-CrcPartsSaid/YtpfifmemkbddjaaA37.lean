/- The abstract machine, part 37: the words that printed functions use. -/
import Derived.Test.YtpfifmemkbddjaaA36
namespace Go.AM
set_option linter.unusedSimpArgs false
set_option linter.unusedVariables false

def letP {α : Sort _} (x : α) (f : α → Prop) : Prop := f x
theorem letP_i {α : Sort _} {x : α} {f : α → Prop} (h : ∀ y, y = x → f y) : letP x f := h x rfl
theorem letP_eq {α : Sort _} {x : α} {f : α → Prop} : letP x f = f x := rfl

def bodyOf (F : Func) : Code := F.body.getD .skip

section
variable (T : Tab)
def eLd (t : TypeId) (p : AV) (M : Mem) : Option (AV × Mem) := (evLoad T t p M).map fun v => (v, M)
def eSt (t : TypeId) (p x : AV) (M : Mem) : Option (AV × Mem) := (evStore T t p x M).map fun M' => (undefA, M')
def eBin (op : BinOp) (t : TypeId) (xo yo : Operand) (x y : AV) (M : Mem) : Option (AV × Mem) := (evBin T op t xo yo x y).map fun v => (v, M)
def eUn (op : UnOp) (x : AV) (M : Mem) : Option (AV × Mem) := match x with
  | .val v => (peek T.P (Op.unary op v)).map fun u => (ofV u, M)
  | _ => none
def eLen (c : Bool) (t : TypeId) (x : AV) (M : Mem) : Option (AV × Mem) := (evLenCap T c t x M).map fun (n : Nat) => (.val (.int .i64 n), M)
def eFA (t : TypeId) (x : AV) (f : Nat) (M : Mem) : Option (AV × Mem) := (evFieldAddr T t x f).map fun v => (v, M)
def eFd (t : TypeId) (x : AV) (f : Nat) (M : Mem) : Option (AV × Mem) := (evField T t x f).map fun v => (v, M)
def eIA (t : TypeId) (x i : AV) (M : Mem) : Option (AV × Mem) := (evIndexAddr T t x i).map fun v => (v, M)
def eIx (t : TypeId) (x i : AV) (M : Mem) : Option (AV × Mem) := (evIndex T t x i).map fun v => (v, M)
def eLk (t : TypeId) (x i : AV) (ok : Bool) (M : Mem) : Option (AV × Mem) := (evLookup T t x i ok M).map fun v => (v, M)
def eMU (t : TypeId) (m k v : AV) (M : Mem) : Option (AV × Mem) := (evMapUpdate T t m k v M).map fun M' => (undefA, M')
def eSl (t : TypeId) (x : AV) (lo hi mx : Option AV) (M : Mem) : Option (AV × Mem) := (evSliceAt T t x lo hi mx).map fun v => (v, M)
def eBd (t : TypeId) (ps : List (Nat × AV)) (M : Mem) : Option (AV × Mem) := (evBuild T t ps).map fun v => (v, M)
def eClr (t : TypeId) (x : AV) (M : Mem) : Option (AV × Mem) := (evClear T t x M).map fun M' => (.tup [], M')
def eDel (t : TypeId) (m k : AV) (M : Mem) : Option (AV × Mem) := (evDelete T t m k M).map fun M' => (.tup [], M')
def eMin (ts : Array TypeId) (ty : TypeId) (vs : List Value) (M : Mem) : Option (AV × Mem) := (peek T.P (Builtin.min_ ts ty ⟨vs⟩)).map fun v => (ofV v, M)
def eMax (ts : Array TypeId) (ty : TypeId) (vs : List Value) (M : Mem) : Option (AV × Mem) := (peek T.P (Builtin.max_ ts ty ⟨vs⟩)).map fun v => (ofV v, M)
end
def eFlBS (T : Tab) (t : TypeId) (len : Nat) (ps : List (Nat × AV)) (id : Nat) : Option (AV × Row) :=
    match T.ty.get t with
    | none => none
    | some ti =>
      match ti.k with
      | .sli e =>
        match T.ty.get e with
        | none => none
        | some te =>
          cond (Nat.ble (len * te.size) 16777216)
            (match fillA (fun i => some (i * te.size, te.size)) (repA len (ofVs te.zero)) ps with
            | none => none
            | some cs => some (.sl id 0 len len none, .cells cs true)) none
      | _ => none
/-- Results: values, and what lies in cells. -/
inductive RV where
  | v (x : AV)
  | c (t : TypeId) (p : AV)
def resC (T : Tab) (M : Mem) : List RV → Option (List AV)
  | [] => some []
  | .v x :: rs => (resC T M rs).map (x :: ·)
  | .c t p :: rs => match p with
    | .ptr b o => match evLoad T t (.ptr b o) M, resC T M rs with
      | some x, some xs => some (x :: xs)
      | _, _ => none
    | _ => none
def eRes (T : Tab) (rs : List RV) (M : Mem) : Option AV :=
  match resC T M rs with
  | some [x] => some x
  | some xs => some (.tup xs)
  | none => none
def eNil (x : AV) (M : Mem) : Option (AV × Mem) := match x with
  | .ptr b o => some (.ptr b o, M)
  | .fn f a b => some (.fn f a b, M)
  | _ => none
def eEx (x : AV) (i : Nat) (M : Mem) : Option (AV × Mem) := match x with
  | .tup vs => (vs[i]?).map fun v => (v, M)
  | _ => none
def eCall (T : Tab) (f : AV) (args : List AV) (M : Mem) (K : AV → Mem → Prop) : Prop :=
  caseO (match f with
    | .fn g first caps => some (g, first ++ args ++ caps)
    | _ => none) (fun c => bindO (T.fn.get c.1) fun _ => CallA T.P c.1 c.2 M K) (bindO (none : Option (AV × Mem)) fun r => K r.1 r.2)

abbrev iAdd (k : IntKind) (a b : Int) : Int := k.wrap (a + b)
abbrev iSub (k : IntKind) (a b : Int) : Int := k.wrap (a - b)
abbrev iMul (k : IntKind) (a b : Int) : Int := k.wrap (a * b)
abbrev iQuo (k : IntKind) (a b : Int) : Int := k.wrap (a.tdiv b)
def iAnd (k : IntKind) (a b : Int) : Int := k.wrap (BitVec.ofInt k.bits a &&& BitVec.ofInt k.bits b).toNat
def iOr (k : IntKind) (a b : Int) : Int := k.wrap (BitVec.ofInt k.bits a ||| BitVec.ofInt k.bits b).toNat
def iXor (k : IntKind) (a b : Int) : Int := k.wrap (BitVec.ofInt k.bits a ^^^ BitVec.ofInt k.bits b).toNat
def iAndNot (k : IntKind) (a b : Int) : Int := k.wrap (BitVec.ofInt k.bits a &&& ~~~BitVec.ofInt k.bits b).toNat
def iShl (k : IntKind) (a b : Int) : Int := k.wrap (a * 2 ^ (min b.toNat k.bits))
def iShr (k : IntKind) (a b : Int) : Int := a.fdiv (2 ^ (min b.toNat k.bits))

/-! ## What they come to -/

section
variable {T : Tab} {M : Mem}
theorem eLd_some {t : TypeId} {p v : AV} (h : evLoad T t p M = some v) : eLd T t p M = some (v, M) := by unfold eLd; rw [h]; rfl
theorem eSt_some {t : TypeId} {p x : AV} {N : Mem} (h : evStore T t p x M = some N) : eSt T t p x M = some (undefA, N) := by unfold eSt; rw [h]; rfl
theorem eBin_some {op : BinOp} {t : TypeId} {xo yo : Operand} {x y v : AV} (h : evBin T op t xo yo x y = some v) : eBin T op t xo yo x y M = some (v, M) := by unfold eBin; rw [h]; rfl
theorem eUn_some {op : UnOp} {x u : Value} (h : peek T.P (Op.unary op x) = some u) : eUn T op (.val x) M = some (ofV u, M) := by unfold eUn; simp only; rw [h]; rfl
theorem eLen_some {c : Bool} {t : TypeId} {x : AV} {n : Nat} (h : evLenCap T c t x M = some n) : eLen T c t x M = some (.val (.int .i64 n), M) := by unfold eLen; rw [h]; rfl
theorem eFA_some {t : TypeId} {x v : AV} {f : Nat} (h : evFieldAddr T t x f = some v) : eFA T t x f M = some (v, M) := by unfold eFA; rw [h]; rfl
theorem eFd_some {t : TypeId} {x v : AV} {f : Nat} (h : evField T t x f = some v) : eFd T t x f M = some (v, M) := by unfold eFd; rw [h]; rfl
theorem eIA_some {t : TypeId} {x i v : AV} (h : evIndexAddr T t x i = some v) : eIA T t x i M = some (v, M) := by unfold eIA; rw [h]; rfl
theorem eIx_some {t : TypeId} {x i v : AV} (h : evIndex T t x i = some v) : eIx T t x i M = some (v, M) := by unfold eIx; rw [h]; rfl
theorem eLk_some {t : TypeId} {x i v : AV} {ok : Bool} (h : evLookup T t x i ok M = some v) : eLk T t x i ok M = some (v, M) := by unfold eLk; rw [h]; rfl
theorem eMU_some {t : TypeId} {m k v : AV} {N : Mem} (h : evMapUpdate T t m k v M = some N) : eMU T t m k v M = some (undefA, N) := by unfold eMU; rw [h]; rfl
theorem eSl_some {t : TypeId} {x v : AV} {lo hi mx : Option AV} (h : evSliceAt T t x lo hi mx = some v) : eSl T t x lo hi mx M = some (v, M) := by unfold eSl; rw [h]; rfl
theorem eBd_some {t : TypeId} {ps : List (Nat × AV)} {v : AV} (h : evBuild T t ps = some v) : eBd T t ps M = some (v, M) := by unfold eBd; rw [h]; rfl
theorem eNil_ptr {b o : Nat} : eNil (.ptr b o) M = some (.ptr b o, M) := rfl
theorem zI_int {k : IntKind} {z : Int} {K : Int → Prop} : zI k (.val (.int k z)) K = K z := by
  have : kindBeq k k = true := by cases k <;> rfl
  unfold zI
  simp only [this, condB_true]
theorem zB_bool {b : Bool} {K : Bool → Prop} : zB (.val (.bool b)) K = K b := rfl
theorem zSB_bool {b : Bool} {p q : Prop} : zSB (.val (.bool b)) p q = condB b p q := rfl
theorem zS_bool {b : Bool} {K : Bool → Prop} : zS (.val (.bool b)) K = condB b (K true) (K false) := rfl
theorem zP_ptr {b o : Nat} {K : Nat → Nat → Prop} : zP (.ptr b o) K = K b o := rfl
theorem bindO_i {α : Type} {o : Option α} {x : α} {f : α → Prop} (h : o = some x) (hf : f x) : bindO o f := by rw [h]; exact hf
theorem condB_i {b : Bool} {p q : Prop} (hp : b = true → p) (hq : b = false → q) : condB b p q := by
  cases b with
  | true => exact hp rfl
  | false => exact hq rfl
end

end Go.AM
