import Derived.Test.YtmifiialedlcnaaG10
set_option linter.unusedSimpArgs false
set_option linter.unusedVariables false
/- What New calls: Clone, Mul, Repeat; bytes. -/
namespace Go.Proofs.Ytmifiialedlcnaa
open Go.AM

/-! ## Clone -/

theorem nil_nil54 (M : Mem) : eBin tb .eql 54 (.tmp 3) (.const (.slice none 0 0)) (.val (.slice none 0 0)) (.val (.slice none 0 0)) M = some (.val (.bool true), M) := eBin_some (by kernel_rfl)
theorem nil_sl54 (M : Mem) (b o n c : Nat) (ex : Option Nat) : eBin tb .eql 54 (.tmp 3) (.const (.slice none 0 0)) (.sl b o n c ex) (.val (.slice none 0 0)) M = some (.val (.bool false), M) := by
  refine eBin_some ?_
  show (eqRes .eql (addrEq tb 54 (.sl b o n c ex) (.val (.slice none 0 0)))) = _
  unfold addrEq
  rw [ty54]
  rfl

theorem flts_one (fs : List Flt) : ∀ v ∈ fs.flatMap fltC, v.one = true := by
  intro v hv
  obtain ⟨f, _, hf⟩ := List.mem_flatMap.1 hv
  simp only [fltC, List.mem_cons, List.not_mem_nil, or_false] at hf
  rcases hf with rfl | rfl | rfl <;> rfl

theorem c_cloneF (M : Mem) (hw : M.WF) (x : AV) (fs : List Flt) (hx : FltsAt M x fs) (hl : fs.length ≤ 1000) :
    CallA tb.P 63 [x] M fun y N => FltsAt N y fs ∧ Keep M N [] ∧ (∀ c, inBlk y c → M.next ≤ c) ∧ (y = .val (.slice none 0 0) ∨ ∃ b o n c ex, y = .sl b o n c ex) := by
  refine F63_ok ?_
  unfold F63
  rcases hx.2 with ⟨rfl, h0⟩ | ⟨b, o, cp, ex, rfl, _⟩
  · rw [nil_nil54, bindO_some]
    simp only [zB_bool, condB_true]
    exact ⟨hx, Keep.refl hw, fun c h => h.elim, .inl (by trivial)⟩
  refine bindO_i (nil_sl54 _ _ _ _ _ _) ?_
  simp only [zB_bool, condB_false]
  refine letP_i fun M3 hM3 => ?_
  subst hM3
  have hw3 := hw.new (.cells [] true)
  have hx3 : FltsAt (M.new (.cells [] true)) (.sl b o fs.length cp ex) fs := SlAt.keep0 hx hw (Keep.new hw _)
  by_cases h0 : fs.length = 0
  · have hnil : fs = [] := List.eq_nil_of_length_eq_zero h0
    subst hnil
    have hs : SlAt 3 (M.new (.cells [] true)) (.sl M.next 0 0 0 none) 0 [] := ⟨rfl, .inr ⟨_, _, _, _, rfl, ⟨by omega, .inl rfl⟩, .inl rfl⟩⟩
    refine bindO_i (append_zero (T := tb) (k := 3) ty54 rfl ty53 rfl hs hx3) ?_
    exact ⟨hs, Keep.new hw _, fun c hc => by exact absurd rfl hc.1, .inr ⟨_, _, _, _, _, rfl⟩⟩
  · have hfl : (fs.flatMap fltC).length = fs.length * 3 := flat_length fltC_len fs
    have hap : evAppend tb 54 54 (.sl M.next 0 0 0 none) (.sl b o fs.length cp ex) (M.new (.cells [] true)) = some (.sl (M.next + 1) 0 fs.length fs.length (some 3), (M.new (.cells [] true)).new (.cells (fs.flatMap fltC) true)) := by
      unfold evAppend isInt
      rw [ty54]
      simp only [ty53, SlAt.evLen hx3, SlAt.evFirst hx3, hfl, AM.beq_self, cond_true, Nat.zero_add, ble_not (show ¬ fs.length ≤ 0 by omega), cond_false]
      unfold evGrow roomy
      simp only [Nat.zero_add, ble_of (show (3 * fs.length + 4096) * 24 ≤ 281474976710656 by omega), ble_of (show fs.length ≤ 1152921504606846976 by omega), cond_true]
      rfl
    refine bindO_i hap ?_
    refine ⟨⟨hfl, .inr ⟨_, _, _, _, rfl, ⟨Nat.le_refl _, .inr rfl⟩, .inr ⟨fs.flatMap fltC, true, get_new (M.new (.cells [] true)) _, by omega, by rw [List.drop_zero, List.take_of_length_le (by omega)]⟩⟩⟩, (Keep.new hw _).trans0 (Keep.new hw3 _), fun c hc => by have := hc.2; omega, .inr ⟨_, _, _, _, _, rfl⟩⟩

/-! ## Mul, Repeat -/

theorem mul_fin : ∀ n : Fin 1000, (iAdd .u64 (iAdd .u64 (iMul .u64 (iShr .u64 1 32) (iShr .u64 (n.val : Int) 32)) (iShr .u64 (iAdd .u64 (iMul .u64 (iShr .u64 1 32) (iAnd .u64 (n.val : Int) 4294967295)) (iShr .u64 (iMul .u64 (iAnd .u64 1 4294967295) (iAnd .u64 (n.val : Int) 4294967295)) 32)) 32)) (iShr .u64 (iAdd .u64 (iAnd .u64 (iAdd .u64 (iMul .u64 (iShr .u64 1 32) (iAnd .u64 (n.val : Int) 4294967295)) (iShr .u64 (iMul .u64 (iAnd .u64 1 4294967295) (iAnd .u64 (n.val : Int) 4294967295)) 32)) 4294967295) (iMul .u64 (iAnd .u64 1 4294967295) (iShr .u64 (n.val : Int) 32))) 32)) = 0 ∧ iMul .u64 1 (n.val : Int) = n.val := by decide +kernel

theorem c_mul (M : Mem) (n : Nat) (hn : n < 1000) : CallA tb.P 109 [.val (.int .u64 1), .val (.int .u64 (n : Int))] M fun y N => y = .tup [.val (.int .u64 0), .val (.int .u64 (n : Int))] ∧ N = M := by
  refine F109_ok ?_
  unfold F109
  simp only [zI_int]
  have h126 : CallA tb.P 126 [.val (.int .u64 1), .val (.int .u64 (n : Int))] M fun y N => y = .tup [.val (.int .u64 0), .val (.int .u64 (n : Int))] ∧ N = M := by
    refine F126_ok ?_
    unfold F126
    simp only [zI_int]
    obtain ⟨h1, h2⟩ := mul_fin ⟨n, hn⟩
    simp only at h1 h2
    exact ⟨by rw [h1, h2], by trivial⟩
  refine h126.mono ?_
  rintro y N ⟨rfl, rfl⟩
  exact ⟨_, _, rfl, rfl, rfl⟩

/-- The beginning of a slice. -/
theorem first_some {M : Mem} {b o n c m : Nat} {ex : Option Nat} {cs : List AV} {rw' : Bool} (hg : M.get b = some (.cells cs rw')) (hm : m ≤ n) (h0 : m ≠ 0) (hle : o + m ≤ cs.length) : evFirst 1 m (.sl b o n c ex) M = some ((cs.drop o).take m) := by
  unfold evFirst
  simp only [ble_of hm, cond_true, AM.beq_ne h0, cond_false]
  unfold Mem.cellsAt
  rw [hg]
  simp only [Nat.mul_one, ble_of hle, cond_true]

theorem c_repeat (M : Mem) (hw : M.WF) (x : AV) (v : BitVec 8) (hx : BytesAt M x [v]) (n : Nat) (h1 : 1 ≤ n) (hn : n < 1000) :
    CallA tb.P 64 [x, i64 (n : Int)] M fun y N => y = .sl M.next 0 n n none ∧ N = M.new (.cells (bvs (List.replicate n v)) true) := by
  refine F64_ok ?_
  unfold F64
  simp only [i64, zI_int]
  refine condB_i (fun h => by exfalso; simp at h; omega) (fun _ => ?_)
  refine bindO_i (eLen_some hx.len) ?_
  simp only [zI_int]
  have w1 : IntKind.wrap .u64 (([v].length : Nat) : Int) = 1 := rfl
  have w2 : IntKind.wrap .u64 (n : Int) = (n : Int) := by rw [wrap_u64]; omega
  rw [w1, w2]
  refine (c_mul M n hn).mono ?_
  rintro y N ⟨rfl, rfl⟩
  refine ⟨_, _, rfl, ?_⟩
  refine letP_i fun K hK => ?_
  refine condB_i (fun h => by simp at h) (fun _ => ?_)
  rw [show decide ((n : Int) > 9223372036854775807) = false by rw [decide_eq_false_iff_not]; omega, hK]
  simp only [condB_false]
  have w3 : IntKind.wrap .i64 (n : Int) = (n : Int) := wrap_i64' (by omega) (by omega)
  rw [w3]
  have hmk := make_sl (T := tb) (M := N) ty33 rfl ty5 (l := n) (c := n) (by omega) (by simp only; omega) (by omega) (k1 := .i64) (k2 := .i64)
  simp only [ofVs, ofV, repA_one'] at hmk
  have hz : List.replicate n (AV.val (.int .u8 0)) = bvs (List.replicate n 0#8) := by simp [bvs, bv8]
  rw [hz] at hmk
  refine bindO_i hmk ?_
  have hx1 : BytesAt (N.new (.cells (bvs (List.replicate n 0#8)) true)) x [v] := SlAt.keep0 hx hw (Keep.new hw _)
  have hcp : evCopy tb 33 (.sl N.next 0 n n none) x (N.new (.cells (bvs (List.replicate n 0#8)) true)) = some (.val (.int .i64 1), N.new (.cells (bvs (List.replicate 1 v ++ List.replicate (n - 1) 0#8)) true)) := by
    unfold evCopy
    rw [ty33]
    simp only [ty5]
    have he1 : evLen (.sl N.next 0 n n none) = some n := rfl
    have hm : Nat.min [v].length n = [v].length := Nat.min_eq_left h1
    rw [he1, SlAt.evLen hx1]
    simp only [hm, SlAt.evFirst hx1]
    have hst : (N.new (.cells (bvs (List.replicate n 0#8)) true)).storeAt N.next 0 (bvs [v]) = some (N.new (.cells (bvs (List.replicate 1 v ++ List.replicate (n - 1) 0#8)) true)) := by
      unfold Mem.storeAt
      rw [Mem.get_new, if_pos rfl]
      simp only [bvs_length, List.length_replicate, List.length_cons, List.length_nil, ble_of (show 0 + (0 + 1) ≤ n by omega), cond_true, ones_of (bvs_one [v]), setAt_bvs (show 0 + [v].length ≤ (List.replicate n 0#8).length by simp; omega), Mem.new_put]
      unfold over
      simp
    rw [hst]
    rfl
  refine bindO_i hcp ?_
  simp only [zI_int]
  refine ⟨fun z q P => ∃ k : Nat, z = k ∧ q = n - k ∧ 1 ≤ k ∧ k ≤ n ∧ P = N.new (.cells (bvs (List.replicate k v ++ List.replicate (n - k) 0#8)) true), ⟨n - 1, 1, rfl, rfl, Nat.le_refl _, h1, rfl⟩, ?_⟩
  rintro _ z q P ⟨k, rfl, rfl, hk1, hk, rfl⟩
  have hlen : ∀ P : Mem, evLenCap tb false 33 (.sl N.next 0 n n none) P = some n := fun P => by unfold evLenCap; rw [ty33]; rfl
  refine bindO_i (eLen_some (hlen _)) ?_
  simp only [zI_int]
  refine condB_i (fun hlt => ?_) (fun hge => ?_)
  rotate_left
  · have hge : k = n := by have : ¬ (k : Int) < n := by simpa using hge
                           omega
    subst hge
    refine ⟨by trivial, ?_⟩
    rw [Nat.sub_self, List.replicate_zero, List.append_nil]
  have hlt : k < n := by simpa using hlt
  have hs1 : evSliceAt tb 33 (.sl N.next 0 n n none) (some (.val (.int .i64 (k : Int)))) none none = some (.sl N.next k (n - k) (n - k) none) := by
    unfold evSliceAt evSlice
    rw [ty33]
    simp only [ty5, sliceB, bndV_nat hk, Nat.mul_one, AM.beq_ne (show n ≠ k by omega), cond_false, Nat.zero_add]
  have hs2 : evSliceAt tb 33 (.sl N.next 0 n n none) none (some (.val (.int .i64 (k : Int)))) none = some (.sl N.next 0 k n none) := by
    unfold evSliceAt evSlice
    rw [ty33]
    simp only [ty5, sliceB, bndV_nat hk, Nat.mul_one, AM.beq_ne (show n ≠ 0 by omega), cond_false, Nat.zero_add, Nat.sub_zero, Nat.zero_mul]
  refine bindO_i (eSl_some hs1) ?_
  refine bindO_i (eSl_some hs2) ?_
  have hg : (N.new (.cells (bvs (List.replicate k v ++ List.replicate (n - k) 0#8)) true)).get N.next = some (.cells (bvs (List.replicate k v ++ List.replicate (n - k) 0#8)) true) := get_new _ _
  have hcl : (bvs (List.replicate k v ++ List.replicate (n - k) 0#8)).length = n := by simp; omega
  obtain ⟨m, hm⟩ : ∃ m, m = Nat.min k (n - k) := ⟨_, rfl⟩
  have hmk' : m ≤ k := by rw [hm]; exact Nat.min_le_left _ _
  have hmn : m ≤ n - k := by rw [hm]; exact Nat.min_le_right _ _
  have hm0 : m ≠ 0 := by rw [hm]; have : Nat.min k (n - k) = min k (n - k) := rfl; omega
  have hcp2 : evCopy tb 33 (.sl N.next k (n - k) (n - k) none) (.sl N.next 0 k n none) (N.new (.cells (bvs (List.replicate k v ++ List.replicate (n - k) 0#8)) true)) = some (.val (.int .i64 (m : Int)), N.new (.cells (bvs (List.replicate (k + m) v ++ List.replicate (n - (k + m)) 0#8)) true)) := by
    unfold evCopy
    rw [ty33]
    simp only [ty5]
    have he1 : evLen (.sl N.next k (n - k) (n - k) none) = some (n - k) := rfl
    have he2 : evLen (.sl N.next 0 k n none) = some k := rfl
    rw [he1, he2]
    simp only [← hm]
    rw [first_some hg hmk' hm0 (by rw [hcl]; omega)]
    simp only [AM.beq_ne hm0, cond_false]
    have hfirst : ((bvs (List.replicate k v ++ List.replicate (n - k) 0#8)).drop 0).take m = bvs (List.replicate m v) := by
      rw [List.drop_zero, bvs_append, List.take_append_of_le_length (by simp; omega)]
      unfold bvs
      rw [← List.map_take, List.take_replicate, Nat.min_eq_left hmk']
    rw [hfirst]
    have hst : (N.new (.cells (bvs (List.replicate k v ++ List.replicate (n - k) 0#8)) true)).storeAt N.next k (bvs (List.replicate m v)) = some (N.new (.cells (bvs (List.replicate (k + m) v ++ List.replicate (n - (k + m)) 0#8)) true)) := by
      unfold Mem.storeAt
      rw [hg]
      have hov : over (List.replicate k v ++ List.replicate (n - k) 0#8) k (List.replicate m v) = List.replicate (k + m) v ++ List.replicate (n - (k + m)) 0#8 := by
        unfold over
        rw [List.take_left' (by simp), List.length_replicate, ← List.drop_drop, List.drop_left' (by simp), List.drop_replicate, List.replicate_append_replicate]
        congr 2; omega
      simp only [hcl, bvs_length, List.length_replicate, ble_of (show k + m ≤ n by omega), cond_true, ones_of (bvs_one _), setAt_bvs (show k + (List.replicate m v).length ≤ (List.replicate k v ++ List.replicate (n - k) 0#8).length by simp; omega), Mem.new_put, hov]
    rw [hst]
    rfl
  refine bindO_i hcp2 ?_
  simp only [zI_int]
  refine ⟨n - (k + m), by omega, k + m, ?_, rfl, by omega, by omega, rfl⟩
  rw [iAdd, wrap_i64' (by omega) (by omega)]
  omega

/-! ## bytes -/

def pat (v : BitVec 8) (n : Nat) : List (BitVec 8) := (List.range n).map fun i => v + BitVec.ofNat 8 (i * 7)
@[simp] theorem pat_length (v : BitVec 8) (n : Nat) : (pat v n).length = n := by simp [pat]

theorem pat_step (v : BitVec 8) {k : Nat} (hk : k < 1000) : iAdd .u8 (v.toNat : Int) (IntKind.wrap .u8 (iMul .i64 (k : Int) 7)) = ((v + BitVec.ofNat 8 (k * 7)).toNat : Int) := by
  rw [iAdd, wrap_u8, wrap_u8, iMul, wrap_i64' (by omega) (by omega), BitVec.toNat_add, BitVec.toNat_ofNat]
  omega

theorem c_bytes (M : Mem) (hw : M.WF) (v : BitVec 8) (many : Int) (hmany : -9223372036854775808 ≤ many ∧ many ≤ 9223372036854775807) :
    CallA tb.P 20 [.val (.int .u8 (v.toNat : Int)), i64 many] M fun y N => y = .sl M.next 0 (min many.toNat 200) (min many.toNat 200) none ∧ N = M.new (.cells (bvs (pat v (min many.toNat 200))) true) := by
  refine F20_ok ?_
  unfold F20
  simp only [i64, zI_int]
  have hmx : eMax tb #[3, 3] 3 [.int .i64 many, .int .i64 0] M = some (.val (.int .i64 (if many < 0 then 0 else many)), M) := rfl
  refine bindO_i hmx ?_
  simp only [zI_int]
  have hmn : eMin tb #[3, 3] 3 [.int .i64 (if many < 0 then 0 else many), .int .i64 200] M = some (.val (.int .i64 ((min many.toNat 200 : Nat) : Int)), M) := by
    have : eMin tb #[3, 3] 3 [.int .i64 (if many < 0 then 0 else many), .int .i64 200] M = some (.val (.int .i64 (if (200 : Int) < (if many < 0 then 0 else many) then 200 else (if many < 0 then 0 else many))), M) := rfl
    rw [this]
    congr 4
    split <;> split <;> omega
  refine bindO_i hmn ?_
  simp only [zI_int]
  generalize hn : min many.toNat 200 = n
  have hn2 : n ≤ 200 := by omega
  have hmk := make_sl (T := tb) (M := M) ty33 rfl ty5 (l := n) (c := n) (by omega) (by simp only; omega) (by omega) (k1 := .i64) (k2 := .i64)
  simp only [ofVs, ofV, repA_one'] at hmk
  have hz : List.replicate n (AV.val (.int .u8 0)) = bvs (List.replicate n 0#8) := by simp [bvs, bv8]
  rw [hz] at hmk
  refine bindO_i hmk ?_
  refine ⟨fun z q P => ∃ k : Nat, z = k ∧ q = n - k ∧ k ≤ n ∧ P = M.new (.cells (bvs (pat v k ++ List.replicate (n - k) 0#8)) true), ⟨n, 0, rfl, rfl, Nat.zero_le _, rfl⟩, ?_⟩
  rintro _ z q P ⟨k, rfl, rfl, hk, rfl⟩
  have hlen : ∀ P : Mem, evLenCap tb false 33 (.sl M.next 0 n n none) P = some n := fun P => by unfold evLenCap; rw [ty33]; rfl
  refine bindO_i (eLen_some (hlen _)) ?_
  simp only [zI_int]
  refine condB_i (fun hlt => ?_) (fun hge => ?_)
  rotate_left
  · have hge : k = n := by have : ¬ (k : Int) < n := by simpa using hge
                           omega
    subst hge
    refine ⟨by trivial, ?_⟩
    rw [Nat.sub_self, List.replicate_zero, List.append_nil]
  have hlt : k < n := by simpa using hlt
  refine bindO_i (ia_by hlt) ?_
  simp only [zP_ptr]
  have hg : (M.new (.cells (bvs (pat v k ++ List.replicate (n - k) 0#8)) true)).get M.next = some (.cells (bvs (pat v k ++ List.replicate (n - k) 0#8)) true) := get_new _ _
  have hst := cells_store hg (i := k) (by simp; omega) (v + BitVec.ofNat 8 (k * 7))
  rw [pat_step v (by omega)]
  have hset : (pat v k ++ List.replicate (n - k) 0#8).set k (v + BitVec.ofNat 8 (k * 7)) = pat v (k + 1) ++ List.replicate (n - (k + 1)) 0#8 := by
    rw [List.set_append_right _ _ (by simp), pat_length, Nat.sub_self, show n - k = (n - (k + 1)) + 1 by omega, List.replicate_succ, List.set_cons_zero]
    unfold pat
    rw [List.range_succ, List.map_append, List.append_assoc]
    rfl
  rw [hset, Mem.new_put] at hst
  refine bindO_i (eSt_some hst) ?_
  exact ⟨n - (k + 1), by omega, k + 1, iInc (by omega), rfl, hlt, rfl⟩

end Go.Proofs.Ytmifiialedlcnaa
