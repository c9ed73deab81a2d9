/- The abstract machine, part 28: small laws for reasoning with values that are not known. -/
import Derived.Test.YtpfifmemkbddjaaA27
set_option linter.unusedVariables false
set_option linter.unusedSimpArgs false
namespace Go.AM

theorem putA_some {n d : Nat} {t : Tr AV} {m : Mem} {x : AV} (h : d < n) : putA ⟨n, t, m⟩ (some d) x = some ⟨n, t.set d (some x), m⟩ := by
  unfold putA
  have : Nat.blt d n = true := by simpa using h
  simp only [this, cond_true]
theorem putA_none {st : St} {x : AV} : putA st none x = some st := rfl

theorem evBin_int {T : Tab} {op : BinOp} {t : TypeId} {xo yo : Operand} {k : IntKind} {a b : Int} (h1 : op ≠ .shl) (h2 : op ≠ .shr) : evBin T op t xo yo (.val (.int k a)) (.val (.int k b)) = (intBin op k a b).map .val := by
  have : kindBeq k k = true := by cases k <;> rfl
  unfold evBin
  cases op <;> first | (exact absurd rfl h1) | (exact absurd rfl h2) | (simp only [this, cond_true])
theorem evBin_shr {T : Tab} {t : TypeId} {xo yo : Operand} {k k' : IntKind} {a b : Int} : evBin T .shr t xo yo (.val (.int k a)) (.val (.int k' b)) = (shiftBin .shr k a b).map .val := rfl
theorem evBin_shl {T : Tab} {t : TypeId} {xo yo : Operand} {k k' : IntKind} {a b : Int} : evBin T .shl t xo yo (.val (.int k a)) (.val (.int k' b)) = (shiftBin .shl k a b).map .val := rfl

/-! ## u32 as bit vectors -/

theorem wrap_u32 (n : Int) : IntKind.u32.wrap n = n % 4294967296 := by simp [IntKind.wrap, IntKind.bits, IntKind.signed]
theorem wrap_u8 (n : Int) : IntKind.u8.wrap n = n % 256 := by simp [IntKind.wrap, IntKind.bits, IntKind.signed]
theorem wrap_u64 (n : Int) : IntKind.u64.wrap n = n % 18446744073709551616 := by simp [IntKind.wrap, IntKind.bits, IntKind.signed]

theorem wrap_u32_bv (x : BitVec 32) : IntKind.u32.wrap (x.toNat : Int) = x.toNat := by
  rw [wrap_u32]; have := x.isLt; omega
theorem wrap_u8_bv (x : BitVec 8) : IntKind.u8.wrap (x.toNat : Int) = x.toNat := by
  rw [wrap_u8]; have := x.isLt; omega
theorem ofInt_bv {n : Nat} (x : BitVec n) : BitVec.ofInt n (x.toNat : Int) = x := by
  rw [BitVec.ofInt_natCast, BitVec.ofNat_toNat]
  simp

theorem xor_u32 (a b : BitVec 32) : intBin .xor .u32 (a.toNat : Int) (b.toNat : Int) = some (.int .u32 ((a ^^^ b).toNat : Int)) := by
  show some (Value.int .u32 (IntKind.u32.wrap ((BitVec.ofInt 32 (a.toNat : Int) ^^^ BitVec.ofInt 32 (b.toNat : Int)).toNat : Int))) = _
  rw [ofInt_bv, ofInt_bv, wrap_u32_bv]
theorem and_u32 (a b : BitVec 32) : intBin .and .u32 (a.toNat : Int) (b.toNat : Int) = some (.int .u32 ((a &&& b).toNat : Int)) := by
  show some (Value.int .u32 (IntKind.u32.wrap ((BitVec.ofInt 32 (a.toNat : Int) &&& BitVec.ofInt 32 (b.toNat : Int)).toNat : Int))) = _
  rw [ofInt_bv, ofInt_bv, wrap_u32_bv]
theorem xor_u8 (a b : BitVec 8) : intBin .xor .u8 (a.toNat : Int) (b.toNat : Int) = some (.int .u8 ((a ^^^ b).toNat : Int)) := by
  show some (Value.int .u8 (IntKind.u8.wrap ((BitVec.ofInt 8 (a.toNat : Int) ^^^ BitVec.ofInt 8 (b.toNat : Int)).toNat : Int))) = _
  rw [ofInt_bv, ofInt_bv, wrap_u8_bv]
theorem shr1_u32 (a : BitVec 32) : shiftBin .shr .u32 (a.toNat : Int) 1 = some (.int .u32 ((a >>> 1).toNat : Int)) := by
  show some (Value.int .u32 (Int.fdiv (a.toNat : Int) 2)) = _
  congr 2
  rw [Int.fdiv_eq_ediv_of_nonneg _ (by omega), BitVec.toNat_ushiftRight, Nat.shiftRight_eq_div_pow]
  omega
theorem eql_bv {n : Nat} (k : IntKind) (a b : BitVec n) : intBin .eql k (a.toNat : Int) (b.toNat : Int) = some (.bool (decide (a = b))) := by
  simp only [intBin]
  congr 2
  rw [Bool.eq_iff_iff]
  simp only [beq_iff_eq, decide_eq_true_eq]
  constructor
  · intro h; exact BitVec.eq_of_toNat_eq (by omega)
  · intro h; rw [h]
theorem neq_bv {n : Nat} (k : IntKind) (a b : BitVec n) : intBin .neq k (a.toNat : Int) (b.toNat : Int) = some (.bool (decide (a ≠ b))) := by
  simp only [intBin]
  congr 2
  rw [Bool.eq_iff_iff]
  simp only [bne_iff_ne, decide_eq_true_eq, ne_eq]
  refine not_congr ⟨fun h => BitVec.eq_of_toNat_eq (by omega), fun h => by rw [h]⟩
theorem not_u32 (P : Program) (a : BitVec 32) : peek P (Op.unary .xor (.int .u32 (a.toNat : Int))) = some (.int .u32 ((~~~a).toNat : Int)) := by
  show some (Value.int .u32 (IntKind.u32.wrap ((BitVec.ofInt 32 (4294967295 : Int) ^^^ BitVec.ofInt 32 (a.toNat : Int)).toNat : Int))) = _
  rw [ofInt_bv, wrap_u32_bv, ← BitVec.allOnes_xor]
  rfl

/-! ## i64 -/

theorem lss_int (k : IntKind) (a b : Int) : intBin .lss k a b = some (.bool (decide (a < b))) := rfl
theorem leq_int (k : IntKind) (a b : Int) : intBin .leq k a b = some (.bool (decide (a ≤ b))) := rfl
theorem gtr_int (k : IntKind) (a b : Int) : intBin .gtr k a b = some (.bool (decide (a > b))) := rfl
theorem geq_int (k : IntKind) (a b : Int) : intBin .geq k a b = some (.bool (decide (a ≥ b))) := rfl
theorem eql_int (k : IntKind) (a b : Int) : intBin .eql k a b = some (.bool (decide (a = b))) := by
  simp only [intBin]; congr 2
theorem neq_int (k : IntKind) (a b : Int) : intBin .neq k a b = some (.bool (decide (a ≠ b))) := by
  simp only [intBin]; congr 2
  rw [Bool.eq_iff_iff]; simp

theorem wrap_i64' {n : Int} (h0 : -9223372036854775808 ≤ n) (h : n ≤ 9223372036854775807) : IntKind.i64.wrap n = n := by
  have e : IntKind.i64.wrap n = if (true && decide (n % 18446744073709551616 ≥ 9223372036854775808)) = true then n % 18446744073709551616 - 18446744073709551616 else n % 18446744073709551616 := rfl
  rw [e]
  simp only [Bool.true_and, decide_eq_true_eq]
  split <;> omega

theorem add_i64 {a b : Int} (h0 : -9223372036854775808 ≤ a + b) (h : a + b ≤ 9223372036854775807) : intBin .add .i64 a b = some (.int .i64 (a + b)) := by
  show some (Value.int .i64 (IntKind.i64.wrap (a + b))) = _
  rw [wrap_i64' h0 h]
theorem sub_i64 {a b : Int} (h0 : -9223372036854775808 ≤ a - b) (h : a - b ≤ 9223372036854775807) : intBin .sub .i64 a b = some (.int .i64 (a - b)) := by
  show some (Value.int .i64 (IntKind.i64.wrap (a - b))) = _
  rw [wrap_i64' h0 h]
theorem mul_i64 {a b : Int} (h0 : -9223372036854775808 ≤ a * b) (h : a * b ≤ 9223372036854775807) : intBin .mul .i64 a b = some (.int .i64 (a * b)) := by
  show some (Value.int .i64 (IntKind.i64.wrap (a * b))) = _
  rw [wrap_i64' h0 h]
/-- A counter's next number, as a natural one. -/
theorem inc_i64 {i : Nat} (h : i < 9223372036854775807) : intBin .add .i64 (i : Int) 1 = some (.int .i64 ((i + 1 : Nat) : Int)) := by
  rw [add_i64 (by omega) (by omega)]
  rfl

/-! ## Slices of integers -/

section
variable {T : Tab} {M : Mem} {k : IntKind} {x : AV} {zs : List Int} {t e : TypeId} {z : List Value} {bts ebts : Nat} {q q' : Option (List Nat)} {ez : List Value}

theorem IntsAt.len (h : IntsAt M k x zs) (ht : T.ty.get t = some ⟨.sli e, 1, bts, z, q⟩) : evLenCap T false t x M = some zs.length := by
  unfold evLenCap
  rw [ht]
  rcases h with ⟨rfl, rfl⟩ | ⟨b, o, c, cs, rw, rfl, _⟩
  · rfl
  · rfl

/-- The place of an element; what lies there. -/
theorem IntsAt.at (h : IntsAt M k x zs) (ht : T.ty.get t = some ⟨.sli e, 1, bts, z, q⟩) (he : T.ty.get e = some ⟨.int k, 1, ebts, ez, q'⟩) {i : Nat} (hi : i < zs.length) {k' : IntKind} :
    ∃ b o, evIndexAddr T t x (.val (.int k' (i : Int))) = some (.ptr b (o + i)) ∧ evLoad T e (.ptr b (o + i)) M = some (.val (.int k zs[i])) := by
  have h0 := h
  rcases h with ⟨rfl, rfl⟩ | ⟨b, o, c, cs, rw', rfl, _⟩
  · simp at hi
  · refine ⟨b, o, ?_, ?_⟩
    · unfold evIndexAddr
      rw [ht]
      simp only
      rw [he]
      simp only [Int.toNat_natCast]
      have h1 : decide (0 ≤ (i : Int)) = true := by simp
      have h2 : Nat.blt i zs.length = true := by simpa using hi
      simp only [h1, h2, cond_true, Nat.mul_one]
    · unfold evLoad
      rw [he]
      simp only [TI.isAgg, cond_false]
      exact h0.cell hi
end

theorem RdA.mono {P : Program} {c : Code} {Q : Ex → St → Prop} : ∀ {k k' : Nat} {st : St}, k ≤ k' → RdA P c Q k st → RdA P c Q k' st
  | 0, _, _, _, h => h.elim
  | k + 1, 0, _, hk, _ => absurd hk (by omega)
  | k + 1, k' + 1, st, hk, h => by
    show WpA P c st (andThen (RdA P c Q k') Q)
    refine wpa_mono h fun ex st' hq => ?_
    cases ex with
    | normal => exact RdA.mono (by omega) hq
    | _ => exact hq

/-- A loop, by how many rounds are left at the most. -/
theorem wC_rounds {T : Tab} (ok : T.Ok) {b : Code} {Q : Ex → St → Prop} (I : Nat → St → Prop) (hr : ∀ n st, I n st → wC T b st (andThen (fun st' => ∃ m, m < n ∧ I m st') Q)) {n : Nat} {st : St} (h0 : I n st) :
    WpA T.P (.loop b) st Q := by
  have key : ∀ n st, I n st → RdA T.P b Q (n + 1) st := by
    intro n
    induction n using Nat.strongRecOn with
    | _ n ih =>
      intro st h
      show WpA T.P b st (andThen (RdA T.P b Q n) Q)
      refine wpa_mono (wC_ok ok (hr n st h)) fun ex st' hq => ?_
      cases ex with
      | normal =>
        obtain ⟨m, hm, hI⟩ := hq
        exact (ih m hm st' hI).mono (by omega)
      | _ => exact hq
  exact wpa_rounds (n + 1) (key n st h0)

/-! ## An open region, one operation at a time -/

theorem wP_plain {T : Tab} {ops : Array Oper} {ms eff : List Nat} {o : Oper} {todo : List Oper} {i k : Nat} {fr fr' : Tr AV} {M M' : Mem} {fl : List Flo} {nid : Nat} {K : List Rec → List Mem → List Mem → Tr AV → Prop} {x : AV}
    (hw : wantedA ops fr o = some true) (hc : cls T o = .pure ∨ cls T o = .read) (he : evalOp T fr o M = some (x, M')) (hp : putT fr o.dst x = some fr')
    (h : wP T ops ms eff todo (i + 1) k fr' M fl nid fun rs ns aa f => K (⟨fr, x, none, M⟩ :: rs) ns aa f) : wP T ops ms eff (o :: todo) i k fr M fl nid K := by
  rw [wP_cons, hw, bindO_some]
  have hfr : setd fr o.dst x = fr' := by injection hp
  rcases hc with hc | hc <;> rw [hc]
  · rw [clsE_pure, condB_true, he, bindO_some]
    show wP T ops ms eff todo (i + 1) k (setd fr o.dst x) M fl nid _
    rw [hfr]; exact h
  · rw [clsE_read, condB_true, he, bindO_some]
    show wP T ops ms eff todo (i + 1) k (setd fr o.dst x) M fl nid _
    rw [hfr]; exact h

theorem passB_step {T : Tab} {ops : Array Oper} {ms eff : List Nat} {mems : List Mem} {o : Oper} {todo : List Oper} {r : Rec} {rs : List Rec} {i : Nat} (h : readB T ops ms eff mems o r i = true)
    (h2 : passB T ops ms eff mems todo rs (i + 1) = true) : passB T ops ms eff mems (o :: todo) (r :: rs) i = true := by
  unfold passB
  rw [h, h2]; rfl

end Go.AM
