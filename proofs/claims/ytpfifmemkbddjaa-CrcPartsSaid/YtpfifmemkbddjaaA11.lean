/- The abstract machine, part 11: conversions, operators, and all operations together. -/
import Derived.Test.YtpfifmemkbddjaaA10
import Derived.Laws.Strings
set_option linter.unusedVariables false
set_option linter.unusedSimpArgs false
namespace Go.AM

def toBytes : List AV → Option (List UInt8)
  | [] => some []
  | .val (.int .u8 n) :: xs => (toBytes xs).map (UInt8.ofNat n.toNat :: ·)
  | _ :: _ => none

theorem toBytes_ok {ι : Inj} : ∀ {xs : List AV} {vs : List Value} {bs : List UInt8}, VRs ι xs vs → toBytes xs = some bs → ∃ ns : List Int, vs = ns.map (Value.int .u8) ∧ bs = ns.map fun n => UInt8.ofNat n.toNat
  | _, _, bs, .nil, h => by
    simp only [toBytes, Option.some.injEq] at h
    subst h
    exact ⟨[], rfl, rfl⟩
  | _, _, bs, .cons x v xs vs hx hs, h => by
    unfold toBytes at h
    split at h
    · rename_i he; cases he
    · rename_i n xs' he
      injection he with he1 he2
      subst he1; subst he2
      obtain ⟨bs', hb, rfl⟩ := Option.map_eq_some_iff.1 h
      obtain ⟨ns, h1, h2⟩ := toBytes_ok hs hb
      cases hx
      exact ⟨n :: ns, by simp [h1], by simp [h2]⟩
    · simp at h

theorem foldl_push (ns : List Int) : ∀ s : ByteArray, ns.foldl (fun r n => r.push (UInt8.ofNat n.toNat)) s = ⟨⟨s.data.toList ++ ns.map fun n => UInt8.ofNat n.toNat⟩⟩ := by
  induction ns with
  | nil => intro s; simp
  | cons n ns ih =>
    intro s
    rw [List.foldl_cons, ih]
    simp [ByteArray.push]

def convI (T : Tab) (src dst : TypeId) (k : IntKind) (x : AV) : Option AV :=
  match x with
  | .val (.int _ n) => some (.val (.int k (k.wrap n)))
  | .val v => (peek T.P (convert src dst v)).map ofV
  | _ => none

def evConv (T : Tab) (src dst : TypeId) (x : AV) (M : Mem) : Option (AV × Mem) :=
  match T.ty.get src, T.ty.get dst with
  | some ts, some td =>
    match ts.k, td.k, x with
    | _, .int k, x => (convI T src dst k x).map fun v => (v, M)
    | _, .str, .val (.string s) => some (.val (.string s), M)
    | .sli e, .str, .sl b o n _ _ =>
      match T.ty.get e with
      | some te =>
        match te.k with
        | .int .u8 => cond (Nat.beq n 0) (some (.val (.string ⟨⟨[]⟩⟩), M)) (match M.cellsAt b o n with
          | none => none
          | some xs => (toBytes xs).map fun bs => (.val (.string ⟨⟨bs⟩⟩), M))
        | _ => none
      | none => none
    | .sli e, .str, .val (.slice none _ _) =>
      match T.ty.get e with
      | some te =>
        match te.k with
        | .int .u8 => some (.val (.string ⟨⟨[]⟩⟩), M)
        | _ => none
      | none => none
    | .str, .sli e, .val (.string s) =>
      match T.ty.get e with
      | some te =>
        match te.k with
        | .int .u8 => some (.sl M.next 0 s.size s.size (some 1), M.new (.cells (bytesA s) true))
        | _ => none
      | none => none
    | .sli e, .sli e', .sl b o n c none =>
      match T.ty.get e' with
      | some te =>
        match te.k, M.get b with
        | .int .u8, some (.cells cs true) => cond (Nat.beq src dst) (some (.sl b o n c none, M.put b (.cells cs false))) none
        | _, _ => none
      | none => none
    | _, _, .val v => (peek T.P (convert src dst v)).map fun u => (ofV u, M)
    | _, _, _ => none
  | _, _ => none

theorem evConv_ok {T : Tab} (ok : T.Ok) {src dst : TypeId} {ι : Inj} {M M' : Mem} {w : World} {x y : AV} {v : Value} (R : Rel ι M w) (hx : VR ι x v)
    (h : evConv T src dst x M = some (y, M')) : VS T.P ι M w (convert src dst v) y M' := by
  unfold evConv at h
  split at h
  · rename_i ts td hts htd
    obtain ⟨d, _, hd, _⟩ := ty_under ok hts (w := w)
    split at h
    · rename_i k _ hk
      obtain ⟨y', hy', he⟩ := Option.map_eq_some_iff.1 h
      injection he with h1 h2; subst h1; subst h2
      unfold convI at hy'
      split at hy'
      · injection hy' with hy'; subst hy'
        cases hx
        exact ⟨ι, w, _, by simp [convert, hd, ty_int ok htd hk, Conv.intToInt], .val _ rfl, Stp.refl R⟩
      · obtain ⟨z, hz, rfl⟩ := Option.map_eq_some_iff.1 hy'
        cases hx
        exact ⟨ι, w, z, peek_run T.P _ _ hz w, VR.ofV ι z, Stp.refl R⟩
      · simp at hy'
    · rename_i s hk
      injection h with h; injection h with h1 h2; subst h1; subst h2
      cases hx
      exact ⟨ι, w, .string s, by simp [convert, hd, ty_str ok htd hk], .val _ rfl, Stp.refl R⟩
    · rename_i e b o n c ex hks hkd
      split at h
      · rename_i te hte
        split at h
        · rename_i hke
          have hval : ∃ a c', v = .slice (some a) n c' := by cases hx <;> exact ⟨_, _, rfl⟩
          rw [cond_eq_ite] at h
          split at h
          · rename_i hn
            have hn : n = 0 := Nat.eq_of_beq_eq_true hn
            injection h with h; injection h with h1 h2; subst h1; subst h2
            obtain ⟨a, c', rfl⟩ := hval
            subst hn
            refine ⟨ι, w, .string ⟨⟨[]⟩⟩, ?_, .val _ rfl, Stp.refl R⟩
            have := run_bytesToString (P := T.P) w a 0 c' [] (by simp [loadCells, loadCellsFrom])
            simp only [convert, Sem.run_bind, ty_sli ok hts hks, ty_str ok htd hkd, Result.andThen_ok, ty_int ok hte hke, this]
            rfl
          · rename_i hn
            have hn : ¬ n = 0 := fun he => hn (by rw [Nat.beq_eq]; exact he)
            split at h
            · simp at h
            · rename_i xs hxs
              obtain ⟨bs, hbs, he⟩ := Option.map_eq_some_iff.1 h
              injection he with h1 h2; subst h1; subst h2
              have hl : ∃ lc, ι b = some lc ∧ ∃ c', v = .slice (some ⟨lc.blk, lc.base + o, none⟩) n c' := by
                cases hx with
                | slE _ _ _ _ lc hl => exact ⟨lc, hl, _, rfl⟩
                | slI _ _ _ _ _ _ lc hl _ _ => exact ⟨lc, hl, _, rfl⟩
                | slZ => exact absurd rfl hn
              obtain ⟨lc, hl, c', rfl⟩ := hl
              obtain ⟨vs, hv1, hv2, hv3⟩ := R.loadCells (P := T.P) hxs hl
              obtain ⟨ns, hns, hbn⟩ := toBytes_ok hv1 hbs
              refine ⟨ι, w, .string ⟨⟨bs⟩⟩, ?_, .val _ rfl, Stp.refl R⟩
              have := run_bytesToString (P := T.P) w ⟨lc.blk, lc.base + o, none⟩ n c' ns (by rw [hv3, hns])
              simp only [convert, Sem.run_bind, ty_sli ok hts hks, ty_str ok htd hkd, Result.andThen_ok, ty_int ok hte hke, this]
              rw [foldl_push, hbn]
              rfl
        · simp at h
      · simp at h
    · rename_i e n c hks hkd
      split at h
      · rename_i te hte
        split at h
        · rename_i hke
          injection h with h; injection h with h1 h2; subst h1; subst h2
          cases hx
          refine ⟨ι, w, .string ⟨⟨[]⟩⟩, ?_, .val _ rfl, Stp.refl R⟩
          simp only [convert, Sem.run_bind, ty_sli ok hts hks, ty_str ok htd hkd, Result.andThen_ok, ty_int ok hte hke]
          rfl
        · simp at h
      · simp at h
    · rename_i e s hks hkd
      split at h
      · rename_i te hte
        split at h
        · rename_i hke
          injection h with h; injection h with h1 h2; subst h1; subst h2
          cases hx
          generalize hcap : (Question.appendCap s.size 0 e).cut (w.tape w.drawn (.appendCap s.size 0 e)) = cap
          have hge : s.size ≤ cap := by rw [← hcap]; simp only [Question.cut]; omega
          have hf : (Question.appendCap s.size 0 e).forced = false := rfl
          let c : Array Value := (Array.map (fun b : UInt8 => Value.int .u8 b.toNat) s.data) ++ Array.replicate (cap - s.size) (Value.int .u8 0)
          have hcs : c.size = cap := by
            show ((Array.map (fun b : UInt8 => Value.int .u8 b.toNat) s.data) ++ Array.replicate (cap - s.size) (Value.int .u8 0)).size = cap
            have : s.data.size = s.size := rfl
            simp; omega
          have R1 : Rel ι M { w with drawn := w.drawn + 1 } := R.of_heap rfl
          have hs := Stp.alloc R1 (.cells (bytesA s) true) (.cells c e (cap, cap + 1)) ⟨w.heap.size, 0, cap⟩ rfl (by
            have hbl : (bytesA s).length = s.size := by rw [bytesA, List.length_map, Array.length_toList]; rfl
            refine ⟨hcs, by simp only; omega, ?_, fun _ k hk => by simp only; omega⟩
            rw [List.drop_zero, hbl]
            have : c.toList.take s.size = s.data.toList.map fun b => Value.int .u8 b.toNat := by
              show ((Array.map (fun b : UInt8 => Value.int .u8 b.toNat) s.data) ++ Array.replicate (cap - s.size) (Value.int .u8 0)).toList.take s.size = _
              rw [Array.toList_append, List.take_left' (by rw [Array.length_toList, Array.size_map]; rfl)]
              simp
            rw [this]
            exact VRs.bytesA s)
          have hs0 : Stp ι M w ι M { w with drawn := w.drawn + 1 } := Stp.of_heap R rfl rfl rfl rfl
          refine ⟨_, _, .slice (some ⟨w.heap.size, 0, none⟩) s.size cap, ?_, ?_, hs0.trans hs⟩
          · simp only [convert, Sem.run_bind, ty_str ok hts hks, ty_sli ok htd hkd, Result.andThen_ok, ty_int ok hte hke, Conv.stringToBytes, run_choose, hf, Bool.false_eq_true, if_false, hcap,
              newRow, run_newObj, Sem.run_pure, markStringish, run_shape]
            have hshape : World.shape? { w with heap := w.heap.push (.cells c e (0, 0)), drawn := w.drawn + 1 } w.heap.size = some (e, cap) := by
              simp [World.shape?, hcs]
            rw [hshape]
            simp only [run_freeze, Result.andThen_ok]
            congr 1
            simp only [World.freeze, Nat.succ_ne_zero, if_false]
            congr 1
            apply Array.ext_getElem?
            intro i
            rw [Array.getElem?_modify, Array.getElem?_push, Array.getElem?_push]
            by_cases hi : i = w.heap.size
            · simp [hi]
              rfl
            · rw [if_neg (fun h => hi h.symm), if_neg hi, if_neg hi]
          · exact .slI M.next 0 s.size s.size 1 cap ⟨w.heap.size, 0, cap⟩ (by simp) hge (by simp)
        · simp at h
      · simp at h
    · rename_i e e' b o n c hks hkd
      split at h
      · rename_i te hte
        split at h
        · rename_i cs hke hg
          rw [cond_eq_ite] at h
          split at h
          · rename_i hsd
            have hsd : src = dst := Nat.eq_of_beq_eq_true hsd
            injection h with h; injection h with h1 h2; subst h1; subst h2
            cases hx with
            | slE _ _ _ _ l hl =>
              obtain ⟨l', hl', hrow⟩ := R.live b _ hg
              rw [hl] at hl'; injection hl' with hl'; subst hl'
              cases hob : w.heap[l.blk]? with
              | none => rw [hob] at hrow; exact hrow.elim
              | some ob =>
                rw [hob] at hrow
                cases ob with
                | cells cc el fr =>
                  obtain ⟨lo, hi⟩ := fr
                  have hshape : w.shape? l.blk = some (el, cc.size) := by unfold World.shape?; rw [hob]
                  refine ⟨ι, w.freeze { block := l.blk, off := cc.size } 1, .slice (some ⟨l.blk, l.base + o, none⟩) n c, ?_, .slE b o n c l hl, ?_⟩
                  · simp only [convert, Sem.run_bind, ty_sli ok hts hks, ty_sli ok htd hkd, Result.andThen_ok, ty_int ok hte hke, hsd, beq_self_eq_true, markStringish, run_shape]
                    rw [hshape]
                    simp only [run_freeze, Result.andThen_ok, Sem.run_pure]
                  · refine Stp.write R hg rfl hl ?_ ?_ ?_ ?_ ?_ ?_
                    · simp [World.freeze]
                    · intro k hk
                      simp only [World.freeze, Nat.succ_ne_zero, if_false]
                      rw [Array.getElem?_modify, if_neg (fun h => hk h.symm)]
                    · simp only [World.freeze, Nat.succ_ne_zero, if_false]
                      rw [Array.getElem?_modify, if_pos rfl, hob]
                      exact ⟨hrow.1, hrow.2.1, hrow.2.2.1, fun h => by cases h⟩
                    · simp [World.freeze]
                    · simp [World.freeze]
                    · simp [World.freeze]
                | map a b => exact hrow.elim
                | _ => exact hrow.elim
          · simp at h
        · simp at h
      · simp at h
    · rename_i u _ _ _ _ _ _
      cases hx
      obtain ⟨z, hz, he⟩ := Option.map_eq_some_iff.1 h
      injection he with h1 h2; subst h1; subst h2
      exact ⟨ι, w, z, peek_run T.P _ _ hz w, VR.ofV ι z, Stp.refl R⟩
    · simp at h
  · simp at h

def intBin (op : BinOp) (k : IntKind) (a b : Int) : Option Value :=
  match op with
  | .add => some (.int k (k.wrap (a + b)))
  | .sub => some (.int k (k.wrap (a - b)))
  | .mul => some (.int k (k.wrap (a * b)))
  | .quo => cond (decide (b = 0)) none (some (.int k (k.wrap (a.tdiv b))))
  | .rem => cond (decide (b = 0)) none (some (.int k (a.tmod b)))
  | .and => some (.int k (k.wrap (BitVec.ofInt k.bits a &&& BitVec.ofInt k.bits b).toNat))
  | .or => some (.int k (k.wrap (BitVec.ofInt k.bits a ||| BitVec.ofInt k.bits b).toNat))
  | .xor => some (.int k (k.wrap (BitVec.ofInt k.bits a ^^^ BitVec.ofInt k.bits b).toNat))
  | .andNot => some (.int k (k.wrap (BitVec.ofInt k.bits a &&& ~~~BitVec.ofInt k.bits b).toNat))
  | .eql => some (.bool (a == b))
  | .neq => some (.bool (a != b))
  | .lss => some (.bool (a < b))
  | .leq => some (.bool (a ≤ b))
  | .gtr => some (.bool (a > b))
  | .geq => some (.bool (a ≥ b))
  | .shl | .shr => none

def shiftBin (op : BinOp) (k : IntKind) (a b : Int) : Option Value :=
  cond (decide (b < 0)) none
    (match op with
    | .shl => some (.int k (k.wrap (a * 2 ^ (min b.toNat k.bits))))
    | .shr => some (.int k (a.fdiv (2 ^ (min b.toNat k.bits))))
    | _ => none)

theorem intBin_ok {op : BinOp} {k : IntKind} {a b : Int} {v : Value} (h : intBin op k a b = some v) (t : TypeId) (P : Program) (w : World) : (binOp op t (.int k a) (.int k b)).run P w = .ok v w ∧ v.uno = true := by
  unfold intBin at h
  split at h <;> try (injection h with h; subst h; exact ⟨by simp [binOp, Op.intArith, Op.intBits, Op.intCmp], rfl⟩)
  · simp only [cond_eq_ite, decide_eq_true_eq] at h
    split at h
    · simp at h
    · rename_i hb
      injection h with h; subst h
      exact ⟨by simp [binOp, Op.intDiv, hb], rfl⟩
  · simp only [cond_eq_ite, decide_eq_true_eq] at h
    split at h
    · simp at h
    · rename_i hb
      injection h with h; subst h
      exact ⟨by simp [binOp, Op.intDiv, hb], rfl⟩
  · simp at h
  · simp at h

theorem shiftBin_ok {op : BinOp} {k k' : IntKind} {a b : Int} {v : Value} (h : shiftBin op k a b = some v) (t : TypeId) (P : Program) (w : World) :
    (binOp op t (.int k a) (.int k' b)).run P w = .ok v w ∧ v.uno = true := by
  unfold shiftBin at h
  simp only [cond_eq_ite, decide_eq_true_eq] at h
  split at h
  · simp at h
  · rename_i hb
    split at h
    · injection h with h; subst h
      exact ⟨by simp [binOp, Op.shift, hb], rfl⟩
    · injection h with h; subst h
      exact ⟨by simp [binOp, Op.shift, hb], rfl⟩
    · simp at h

def catB (a b : ByteArray) : ByteArray := ⟨⟨a.data.toList ++ b.data.toList⟩⟩

theorem catB_eq (a b : ByteArray) : a ++ b = catB a b := by
  apply ByteArray.ext
  rw [ByteArray.data_append]
  unfold catB
  apply Array.ext'
  simp

def beqBytes : List UInt8 → List UInt8 → Bool
  | [], [] => true
  | a :: x, b :: y => cond (Nat.beq a.toNat b.toNat) (beqBytes x y) false
  | _, _ => false

theorem beqBytes_eq : ∀ x y : List UInt8, beqBytes x y = (x == y)
  | [], [] => rfl
  | [], _ :: _ => rfl
  | _ :: _, [] => rfl
  | a :: x, b :: y => by
    rw [List.cons_beq_cons, beqBytes, beqBytes_eq x y, cond_eq_ite]
    have : Nat.beq a.toNat b.toNat = (a == b) := by
      rw [Bool.eq_iff_iff, Nat.beq_eq, beq_iff_eq]
      exact ⟨fun h => UInt8.toNat_inj.1 h, fun h => by rw [h]⟩
    rw [this]
    cases a == b <;> simp

def strBin (op : BinOp) (x y : ByteArray) : Option Value :=
  match op with
  | .add => cond (Nat.ble (x.data.toList.length + y.data.toList.length) 4611686018427387904) (some (.string (catB x y))) none
  | .eql => some (.bool (beqBytes x.data.toList y.data.toList))
  | .neq => some (.bool (!beqBytes x.data.toList y.data.toList))
  | .lss => some (.bool (Op.bytesLess x.data.toList y.data.toList))
  | .leq => some (.bool (Op.bytesLess x.data.toList y.data.toList || beqBytes x.data.toList y.data.toList))
  | .gtr => some (.bool (!(Op.bytesLess x.data.toList y.data.toList || beqBytes x.data.toList y.data.toList)))
  | .geq => some (.bool (!Op.bytesLess x.data.toList y.data.toList))
  | _ => none

theorem strBin_ok {op : BinOp} {x y : ByteArray} {v : Value} (h : strBin op x y = some v) (t : TypeId) (P : Program) (w : World) : (binOp op t (.string x) (.string y)).run P w = .ok v w ∧ v.uno = true := by
  unfold strBin at h
  split at h <;> try (injection h with h; subst h; exact ⟨by simp [binOp, Op.stringOp, ByteArray.toList_eq, beqBytes_eq], rfl⟩)
  · rw [cond_eq_ite] at h
    split at h
    · rename_i hle
      have hle := Nat.le_of_ble_eq_true hle
      injection h with h; subst h
      have h1 : x.data.toList.length = x.size := by rw [Array.length_toList]; rfl
      have h2 : y.data.toList.length = y.size := by rw [Array.length_toList]; rfl
      have hng : ¬ (((x.size + y.size : Nat) : Int) > IntKind.i64.max) := by
        have : IntKind.i64.max = 9223372036854775807 := by decide
        omega
      refine ⟨?_, rfl⟩
      simp only [binOp, Op.stringOp]
      rw [if_neg hng, catB_eq]
      rfl
    · simp at h
  · simp at h

/-- Are two values the same, one of them an address? -/
def addrEq (T : Tab) (t : TypeId) (x y : AV) : Option Bool :=
  match T.ty.get t with
  | none => none
  | some ti =>
    match ti.k, x, y with
    | .pt _, .ptr _ _, .val (.pointer none) => some false
    | .pt _, .val (.pointer none), .ptr _ _ => some false
    | .pt e, .ptr b o, .ptr b' o' =>
      match T.ty.get e with
      | some te => cond (Nat.beq te.size 0) none (cond (Nat.beq b b') (some (Nat.beq o o')) none)
      | none => none
    | .sli _, .sl _ _ _ _ _, .val (.slice none _ _) => some false
    | .sli _, .val (.slice none _ _), .sl _ _ _ _ _ => some false
    | .mp _ _, .map _, .val (.map none) => some false
    | .mp _ _, .val (.map none), .map _ => some false
    | _, _, _ => none

theorem slice_val {ι : Inj} {b o n c : Nat} {ex : Option Nat} {v : Value} (h : VR ι (.sl b o n c ex) v) : ∃ a c', v = .slice (some a) n c' := by cases h <;> exact ⟨_, _, rfl⟩

theorem addrEq_ok' {T : Tab} (ok : T.Ok) {t : TypeId} {ι : Inj} {w : World} {x y : AV} {v u : Value} {r : Bool} (hx : VR ι x v) (hy : VR ι y u) (h : addrEq T t x y = some r) (D : Nat) :
    (Op.equalIn (D + 1) t v u).run T.P w = .ok r w := by
  unfold addrEq at h
  split at h
  · simp at h
  · rename_i ti ht
    split at h
    · rename_i e b o hk
      injection h with h; subst h
      cases hx; cases hy
      simp only [Op.equalIn, Sem.run_bind, ty_pt ok ht hk, Result.andThen_ok]
      rfl
    · rename_i e b o hk
      injection h with h; subst h
      cases hx; cases hy
      simp only [Op.equalIn, Sem.run_bind, ty_pt ok ht hk, Result.andThen_ok]
      rfl
    · rename_i e b o b' o' hk
      split at h
      · rename_i te hte
        simp only [cond_eq_ite] at h
        split at h
        · simp at h
        · rename_i hz
          have hz : te.size ≠ 0 := fun he => hz (by rw [he]; rfl)
          split at h
          · rename_i hb
            have hb : b = b' := Nat.eq_of_beq_eq_true hb
            subst hb
            injection h with h; subst h
            cases hx with
            | ptr _ _ l hl =>
              cases hy with
              | ptr _ _ l' hl' =>
                rw [hl] at hl'; injection hl' with hl'; subst hl'
                have hbe : Nat.beq o o' = ((⟨l.blk, l.base + o, none⟩ : Addr) == ⟨l.blk, l.base + o', none⟩) := by
                  rw [Bool.eq_iff_iff, Nat.beq_eq, beq_iff_eq]
                  constructor
                  · intro h; rw [h]
                  · intro h; injection h with _ h _; omega
                simp only [Op.equalIn, Sem.run_bind, ty_pt ok ht hk, Result.andThen_ok, ty_size ok hte]
                rw [if_pos hz]
                simp [sameAddr, hbe]
          · simp at h
      · simp at h
    · rename_i e b o n c ex n' c' hk
      injection h with h; subst h
      obtain ⟨a, c2, rfl⟩ := slice_val hx
      cases hy
      simp only [Op.equalIn, Sem.run_bind, ty_sli ok ht hk, Result.andThen_ok]
      rfl
    · rename_i e n' c' b o n c ex hk
      injection h with h; subst h
      obtain ⟨a, c2, rfl⟩ := slice_val hy
      cases hx
      simp only [Op.equalIn, Sem.run_bind, ty_sli ok ht hk, Result.andThen_ok]
      rfl
    · rename_i hk
      injection h with h; subst h
      cases hx; cases hy
      simp only [Op.equalIn, Sem.run_bind, ty_mp ok ht hk, Result.andThen_ok]
      rfl
    · rename_i hk
      injection h with h; subst h
      cases hx; cases hy
      simp only [Op.equalIn, Sem.run_bind, ty_mp ok ht hk, Result.andThen_ok]
      rfl
    · simp at h

theorem addrEq_ok {T : Tab} (ok : T.Ok) {t : TypeId} {ι : Inj} {w : World} {x y : AV} {v u : Value} {r : Bool} (hx : VR ι x v) (hy : VR ι y u) (h : addrEq T t x y = some r) :
    (Op.equal t v u).run T.P w = .ok r w := addrEq_ok' ok hx hy h 9999

def isAddr : AV → Bool
  | .ptr _ _ | .sl _ _ _ _ _ | .map _ => true
  | _ => false

def eqRes (op : BinOp) (r : Option Bool) : Option AV :=
  match op with
  | .eql => r.map fun b => .val (.bool b)
  | .neq => r.map fun b => .val (.bool !b)
  | _ => none

def evBin (T : Tab) (op : BinOp) (t : TypeId) (xo yo : Operand) (x y : AV) : Option AV :=
  match x, y with
  | .val (.int k a), .val (.int k' b) =>
    match op with
    | .shl | .shr => (shiftBin op k a b).map .val
    | _ => cond (kindBeq k k') ((intBin op k a b).map .val) none
  | .val (.string a), .val (.string b) => (strBin op a b).map .val
  | .agg _, .agg _ =>
    match T.ty.get t with
    | some ti => match ti.eqf with
      | some _ => eqRes op (eqA T 60 t x y)
      | none => none
    | none => none
  | _, _ =>
    cond (isAddr x || isAddr y) (eqRes op (addrEq T t x y))
      (match x, y with
      | .val a, .val b => (peek T.P (do eqGuard op t xo yo a b; binOp op t a b)).map ofV
      | _, _ => none)

end Go.AM
