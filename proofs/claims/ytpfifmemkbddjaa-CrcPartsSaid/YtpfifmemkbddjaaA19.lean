/- The abstract machine, part 19: one order of an open region, reckoned out. -/
import Derived.Test.YtpfifmemkbddjaaA18
set_option linter.unusedVariables false
set_option linter.unusedSimpArgs false
namespace Go.AM

/-- What does not hang on the run: a region's shape. -/
structure Static (T : Tab) (nt : Nat) (ops : Array Oper) : Prop where
  back : Back ops.toList
  dst1 : OneDst ops
  see : ∀ (i : Nat) (o : Oper), ops[i]? = some o → ∀ t ∈ looks ops o, ∀ (j : Nat) (oj : Oper), ops[j]? = some oj → oj.dst = some t →
    j = i ∨ bf (masks ops.toList []) j i = true ∨ bf (masks ops.toList []) i j = true
  dlt : ∀ (i : Nat) (o : Oper) (t : Tmp), ops[i]? = some o → o.dst = some t → t < nt
  chain : ∀ (i j : Nat) (oi oj : Oper), ops[i]? = some oi → ops[j]? = some oj → cls T oi = .eff → cls T oj = .eff → i < j → bf (masks ops.toList []) i j = true

/-- A float: when it is taken in at the latest, its number, its row. -/
structure Flo where
  hi : Nat
  id : Nat
  row : Row

def adopt (k : Nat) : List Flo → Mem → Mem
  | [], M => M
  | f :: fs, M => adopt k fs (cond (Nat.beq f.hi k) (M.put f.id f.row) M)

theorem adopt_next (k : Nat) : ∀ (fs : List Flo) (M : Mem), (adopt k fs M).next = M.next
  | [], _ => rfl
  | f :: fs, M => by
    rw [adopt, adopt_next k fs, cond_eq_ite]
    split <;> rfl

theorem adopt_out (k : Nat) : ∀ (fs : List Flo) (M : Mem) (b : Nat), (∀ f ∈ fs, f.hi = k → f.id ≠ b) → (adopt k fs M).get b = M.get b
  | [], _, _, _ => rfl
  | f :: fs, M, b, h => by
    rw [adopt, adopt_out k fs _ b (fun g hg => h g (by simp [hg])), cond_eq_ite]
    split
    · rename_i hk
      have hk : f.hi = k := Nat.eq_of_beq_eq_true hk
      rw [Mem.get_put, if_neg (fun e => h f (by simp) hk e.symm)]
    · rfl

theorem adopt_in (k : Nat) : ∀ (fs : List Flo) (M : Mem) (f : Flo), f ∈ fs → f.hi = k → (∀ g ∈ fs, g.hi = k → g.id = f.id → g.row = f.row) → (adopt k fs M).get f.id = some f.row
  | g :: fs, M, f, hf, hk, hu => by
    by_cases hin : ∃ f' ∈ fs, f'.hi = k ∧ f'.id = f.id
    · obtain ⟨f', h1, h2, h3⟩ := hin
      rw [adopt, ← h3]
      rw [adopt_in k fs _ f' h1 h2 (fun q hq hqk hqi => by
        rw [hu q (by simp [hq]) hqk (hqi.trans h3), hu f' (by simp [h1]) h2 h3])]
      rw [hu f' (by simp [h1]) h2 h3]
    · rw [adopt, adopt_out k fs _ f.id (fun q hq hqk hqi => hin ⟨q, hq, hqk, hqi⟩)]
      have hfg : f = g := by
        simp only [List.mem_cons] at hf
        rcases hf with h | h
        · exact h
        · exact absurd ⟨f, h, hk, rfl⟩ hin
      subst hfg
      rw [cond_eq_ite, if_pos (by rw [Nat.beq_eq]; exact hk), Mem.get_put, if_pos rfl]

/-- One operation's part of the order. -/
structure Rec where
  fr : Tr AV
  x : AV
  flo : Option Flo
  M : Mem

abbrev CallF := FuncId → List AV → Mem → Option (AV × Mem)

/-- An operation that acts on memory, or a call. -/
def evEff (T : Tab) (call : CallF) (fr : Tr AV) (o : Oper) (M : Mem) : Option (AV × Mem) :=
  match calleeA fr o with
  | some (g, args) => match T.fn.get g with
    | some _ => call g args M
    | none => none
  | none => evalOp T fr o M

structure PA where
  recs : List Rec
  mems : List Mem
  ads : List Mem
  fr : Tr AV

def passA (T : Tab) (call : CallF) (ops : Array Oper) (ms eff : List Nat) : List Oper → (i k : Nat) → Tr AV → Mem → List Flo → (nid : Nat) → Option PA
  | [], _, k, fr, M, fl, _ => some { recs := [], mems := [M], ads := [adopt k fl M], fr }
  | o :: todo, i, k, fr, M, fl, nid =>
    match wantedA ops fr o with
    | none => none
    | some wnt =>
      match cls T o with
      | .eff =>
        match (cond wnt (evEff T call fr o (adopt k fl M)) (some (undefA, adopt k fl M))) with
        | none => none
        | some (x, M') =>
          (passA T call ops ms eff todo (i + 1) (k + 1) (setd fr o.dst x) M' fl nid).map fun r =>
            { recs := ⟨fr, x, none, M⟩ :: r.recs, mems := M :: r.mems, ads := adopt k fl M :: r.ads, fr := r.fr }
      | .flt =>
        cond wnt
          (match evFl T fr o nid with
          | none => none
          | some (x, row) =>
            (passA T call ops ms eff todo (i + 1) k (setd fr o.dst x) M (⟨hi ms eff i, nid, row⟩ :: fl) (nid + 1)).map fun r =>
              { r with recs := ⟨fr, x, some ⟨hi ms eff i, nid, row⟩, M⟩ :: r.recs })
          ((passA T call ops ms eff todo (i + 1) k (setd fr o.dst undefA) M fl nid).map fun r => { r with recs := ⟨fr, undefA, none, M⟩ :: r.recs })
      | _ =>
        match (cond wnt ((evalOp T fr o M).map (·.1)) (some undefA)) with
        | none => none
        | some x => (passA T call ops ms eff todo (i + 1) k (setd fr o.dst x) M fl nid).map fun r => { r with recs := ⟨fr, x, none, M⟩ :: r.recs }

/-- Is a value surely another one? (Only plain ones are told.) -/
def sameScal : Value → Value → Bool
  | .bool a, .bool b => a == b
  | .int j a, .int k b => kindBeq j k && a == b
  | .string a, .string b => beqBytes a.data.toList b.data.toList
  | .pointer none, .pointer none => true
  | .slice none a b, .slice none c d => Nat.beq a c && Nat.beq b d
  | .map none, .map none => true
  | .nilFunc, .nilFunc => true
  | .nilIface, .nilIface => true
  | .float j a, .float k b => (match j, k with | .f32, .f32 => true | .f64, .f64 => true | _, _ => false) && Nat.beq a b
  | .complex j a c, .complex k b d => (match j, k with | .f32, .f32 => true | .f64, .f64 => true | _, _ => false) && Nat.beq a b && Nat.beq c d
  | _, _ => false

theorem sameScal_eq {x y : Value} (h : sameScal x y = true) : x = y := by
  unfold sameScal at h
  split at h
  · simp at h; rw [h]
  · simp only [Bool.and_eq_true, beq_iff_eq] at h
    rw [kindBeq_eq h.1, h.2]
  · rw [beqBytes_eq, beq_iff_eq] at h
    congr 1
    apply ByteArray.ext
    exact Array.ext' h
  · rfl
  · simp only [Bool.and_eq_true, Nat.beq_eq] at h
    rw [h.1, h.2]
  · rfl
  · rfl
  · rfl
  · rename_i j a k b
    cases j <;> cases k <;> simp only [Bool.and_eq_true, Nat.beq_eq, Bool.false_eq_true, false_and, true_and] at h
    all_goals rw [h]
  · rename_i j a c k b d
    cases j <;> cases k <;> simp only [Bool.and_eq_true, Nat.beq_eq, Bool.false_eq_true, false_and, true_and] at h
    all_goals rw [h.1, h.2]
  · simp at h

def sameOpt : Option Nat → Option Nat → Bool
  | none, none => true
  | some a, some b => Nat.beq a b
  | _, _ => false

theorem sameOpt_eq : ∀ {a b : Option Nat}, sameOpt a b = true → a = b
  | none, none, _ => rfl
  | some a, some b, h => by rw [sameOpt, Nat.beq_eq] at h; rw [h]
  | none, some _, h => by simp [sameOpt] at h
  | some _, none, h => by simp [sameOpt] at h

mutual
def sameAV : AV → AV → Bool
  | .val x, y => match y with | .val y => sameScal x y | _ => false
  | .ptr a b, y => match y with | .ptr c d => Nat.beq a c && Nat.beq b d | _ => false
  | .sl a b c d i, y => match y with | .sl e f g h j => Nat.beq a e && Nat.beq b f && Nat.beq c g && Nat.beq d h && sameOpt i j | _ => false
  | .map a, y => match y with | .map b => Nat.beq a b | _ => false
  | .fn a b c, y => match y with | .fn d e f => Nat.beq a d && sameAVs b e && sameAVs c f | _ => false
  | .agg a, y => match y with | .agg b => sameAVs a b | _ => false
  | .tup a, y => match y with | .tup b => sameAVs a b | _ => false
def sameAVs : List AV → List AV → Bool
  | [], y => match y with | [] => true | _ => false
  | x :: xs, y => match y with | y :: ys => sameAV x y && sameAVs xs ys | _ => false
end

mutual
theorem sameAV_eq : ∀ (x y : AV), sameAV x y = true → x = y
  | .val x, y, h => by
    cases y <;> simp only [sameAV, Bool.false_eq_true] at h
    rw [sameScal_eq h]
  | .ptr a b, y, h => by
    cases y <;> simp only [sameAV, Bool.false_eq_true, Bool.and_eq_true, Nat.beq_eq] at h
    rw [h.1, h.2]
  | .sl a b c d i, y, h => by
    cases y <;> simp only [sameAV, Bool.false_eq_true, Bool.and_eq_true, Nat.beq_eq] at h
    rw [h.1.1.1.1, h.1.1.1.2, h.1.1.2, h.1.2, sameOpt_eq h.2]
  | .map a, y, h => by
    cases y <;> simp only [sameAV, Bool.false_eq_true, Nat.beq_eq] at h
    rw [h]
  | .fn a b c, y, h => by
    cases y <;> simp only [sameAV, Bool.false_eq_true, Bool.and_eq_true, Nat.beq_eq] at h
    rename_i d e f
    have h1 := sameAVs_eq b e h.1.2
    have h2 := sameAVs_eq c f h.2
    rw [h.1.1, h1, h2]
  | .agg a, y, h => by
    cases y <;> simp only [sameAV, Bool.false_eq_true] at h
    rename_i b
    have h1 := sameAVs_eq a b h
    rw [h1]
  | .tup a, y, h => by
    cases y <;> simp only [sameAV, Bool.false_eq_true] at h
    rename_i b
    have h1 := sameAVs_eq a b h
    rw [h1]
theorem sameAVs_eq : ∀ (x y : List AV), sameAVs x y = true → x = y
  | [], y, h => by
    cases y <;> simp only [sameAVs, Bool.false_eq_true] at h
    rfl
  | x :: xs, y, h => by
    cases y <;> simp only [sameAVs, Bool.false_eq_true, Bool.and_eq_true] at h
    rename_i z zs
    have h1 := sameAV_eq x z h.1
    have h2 := sameAVs_eq xs zs h.2
    rw [h1, h2]
end

/-- Is what was read the same, whenever it may be read? -/
def sameRead (T : Tab) (fr : Tr AV) (o : Oper) (x : AV) : List Mem → Bool
  | [] => true
  | M :: Ms => match evalOp T fr o M with
    | some (y, _) => cond (sameAV y x) (sameRead T fr o x Ms) false
    | none => false

theorem sameRead_ok {T : Tab} {fr : Tr AV} {o : Oper} {x : AV} : ∀ {Ms : List Mem}, sameRead T fr o x Ms = true → ∀ (j : Nat) (M : Mem), Ms[j]? = some M → ∃ M', evalOp T fr o M = some (x, M')
  | [], _, j, M, h => by simp at h
  | N :: Ms, hs, j, M, h => by
    simp only [sameRead] at hs
    split at hs
    · rename_i y M' he
      rw [cond_eq_ite] at hs
      split at hs
      · rename_i hy
        have := sameAV_eq _ _ hy
        subst this
        cases j with
        | zero => simp at h; subst h; exact ⟨M', he⟩
        | succ j => simp at h; exact sameRead_ok hs j M h
      · simp at hs
    · simp at hs

/-- The reads: each one, wherever it may stand. -/
def readB (T : Tab) (ops : Array Oper) (ms eff : List Nat) (mems : List Mem) (o : Oper) (r : Rec) (i : Nat) : Bool :=
  match cls T o with
  | .read =>
    match wantedA ops r.fr o with
    | some true => sameRead T r.fr o r.x ((mems.drop (lo ms eff i)).take (hi ms eff i + 1 - lo ms eff i))
    | _ => true
  | _ => true

def passB (T : Tab) (ops : Array Oper) (ms eff : List Nat) (mems : List Mem) : List Oper → List Rec → (i : Nat) → Bool
  | [], [], _ => true
  | o :: todo, r :: rs, i => readB T ops ms eff mems o r i && passB T ops ms eff mems todo rs (i + 1)
  | _, _, _ => false

def effOf (T : Tab) : List Oper → Nat → List Nat
  | [], _ => []
  | o :: r, i => match cls T o with
    | .eff => i :: effOf T r (i + 1)
    | _ => effOf T r (i + 1)

def countFlt (T : Tab) : List Oper → Nat
  | [] => 0
  | o :: r => match cls T o with
    | .flt => countFlt T r + 1
    | _ => countFlt T r

def evalDraw (T : Tab) (call : CallF) (ops : Array Oper) (st : St) : Option St :=
  match passA T call ops (masks ops.toList []) (effOf T ops.toList 0) ops.toList 0 0 st.t { st.m with next := st.m.next + countFlt T ops.toList } [] st.m.next with
  | none => none
  | some r =>
    cond (passB T ops (masks ops.toList []) (effOf T ops.toList 0) r.mems ops.toList r.recs 0)
      (match r.ads[(effOf T ops.toList 0).length]? with
      | some A => some { n := st.n, t := r.fr, m := A }
      | none => none) none

end Go.AM
