/- What is lent, what is kept; the crc laws awake. -/
import Derived.Test.YtpfifmemkbddjaaD1
set_option linter.unusedVariables false
namespace Go.Proofs.Ytpfifmemkbddjaa
open Go.AM
set_option linter.unusedSimpArgs false

def lent (l : List (BitVec 8)) : List AV := bvs l ++ List.replicate 3 (.val (.int .u8 119))

theorem setAt_one {α : Type} (cs : List α) (o : Nat) (v : α) : setAt cs o [v] = cs.set o v := rfl


theorem lend (M : Mem) (x : AV) (l : List (BitVec 8)) (hw : M.WF) (hx : BytesAt M x l) (hl : l.length ≤ 1000000) :
    CallA tb.P 13 [x] M fun y N => y = .sl M.next 0 l.length (l.length + 3) none ∧ N = M.new (.cells (lent l) true) := by
  refine F13_ok ?_
  unfold F13
  refine bindO_i (eLen_some hx.len) ?_
  have e3 : iAdd .i64 (l.length : Int) 3 = ((l.length + 3 : Nat) : Int) := by rw [iAdd, wrap_i64' (by omega) (by omega)]; rfl
  simp only [zI_int, e3]
  have hmk := make_sl (T := tb) (M := M) ty22 rfl ty5 (l := 0) (c := l.length + 3) (by omega) (by simp only; omega) (by omega) (k1 := .i64) (k2 := .i64)
  simp only [ofVs, ofV, repA_one'] at hmk
  have hmk' : evMakeSlice tb 22 (.val (.int .i64 0)) (.val (.int .i64 ((l.length + 3 : Nat) : Int))) M = some (.sl M.next 0 0 (l.length + 3) none, M.new (.cells (List.replicate (l.length + 3) (.val (.int .u8 0))) true)) := hmk
  rw [hmk', bindO_some]
  -- the append
  have hx1 : BytesAt (M.new (.cells (List.replicate (l.length + 3) (.val (.int .u8 0))) true)) x l := SlAt.keep0 hx hw (Keep.new hw _)
  have hap : evAppend tb 22 22 (.sl M.next 0 0 (l.length + 3) none) x (M.new (.cells (List.replicate (l.length + 3) (.val (.int .u8 0))) true)) =
      some (.sl M.next 0 l.length (l.length + 3) none, M.new (.cells (bvs l ++ List.replicate 3 (.val (.int .u8 0))) true)) := by
    by_cases hl0 : l.length = 0
    · have hx0 : SlAt 1 (M.new (.cells (List.replicate (l.length + 3) (.val (.int .u8 0))) true)) x 0 (bvs l) := by
        have := hx1
        unfold BytesAt at this
        rwa [hl0] at this ⊢
      have hs : SlAt 1 (M.new (.cells (List.replicate (l.length + 3) (.val (.int .u8 0))) true)) (.sl M.next 0 0 (l.length + 3) none) 0 [] := ⟨rfl, .inr ⟨_, _, _, _, rfl, ⟨by omega, .inl rfl⟩, .inl rfl⟩⟩
      rw [append_zero (T := tb) (k := 1) ty22 rfl ty5 rfl hs hx0]
      have hnil : l = [] := List.eq_nil_of_length_eq_zero hl0
      subst hnil
      rfl
    · rw [append_fits (T := tb) (k := 1) ty22 rfl ty5 rfl (b := M.next) (o := 0) (len := 0) (cap := l.length + 3) (ex := none) (cs := List.replicate (l.length + 3) (.val (.int .u8 0))) hx1 (by omega) (bvs_one l) (by omega) (by rw [Mem.get_new, if_pos rfl]) (by rw [List.length_replicate]; omega)]
      have := setAt_mid (bvs l) [] (List.replicate 3 (.val (.int .u8 0))) (List.replicate l.length (.val (.int .u8 0))) (by simp)
      simp only [List.nil_append, List.length_nil, List.replicate_append_replicate] at this
      rw [Mem.new_put]
      simp only [Nat.zero_mul, Nat.add_zero, Nat.zero_add]
      rw [this]
  refine bindO_i hap ?_
  refine bindO_i (eLen_some hx.len) ?_
  simp only [zI_int]
  refine bindO_i (eLen_some hx.len) ?_
  simp only [zI_int, e3]
  have hsl := slice_both (T := tb) ty22 ty5 (b := M.next) (o := 0) (n := l.length) (c := l.length + 3) (l := l.length) (h := l.length + 3) (by omega) (by omega) (k1 := .i64) (k2 := .i64)
  rw [AM.beq_false (show l.length + 3 ≠ l.length by omega), cond_false, show l.length + 3 - l.length = 3 by omega, Nat.zero_add] at hsl
  refine bindO_i (eSl_some hsl) ?_
  refine ⟨fun z n N => ∃ i : Nat, z = i ∧ i ≤ 3 ∧ n = 3 - i ∧ N = M.new (.cells (bvs l ++ (List.replicate i (.val (.int .u8 119)) ++ List.replicate (3 - i) (.val (.int .u8 0)))) true), ⟨3, 0, rfl, by omega, rfl, by simp⟩, ?_⟩
  rintro _ z n N ⟨i, rfl, hi, rfl, rfl⟩
  refine condB_i (fun hlt => ?_) (fun hge => ?_)
  · have hlt : i < 3 := by have : (i : Int) < 3 := by simpa using hlt
                           omega
    have hia : evIndexAddr tb 22 (.sl M.next l.length 3 3 none) (.val (.int .i64 (i : Int))) = some (.ptr M.next (l.length + i)) := by
      unfold evIndexAddr
      rw [ty22]
      simp only [ty5, Int.toNat_natCast, blt_of hlt, cond_true, Nat.mul_one]
      have h0 : decide (0 ≤ (i : Int)) = true := by simp
      rw [h0, cond_true]
    refine bindO_i (eIA_some hia) ?_
    have hst : evStore tb 5 (.ptr M.next (l.length + i)) (.val (.int .u8 119)) (M.new (.cells (bvs l ++ (List.replicate i (.val (.int .u8 119)) ++ List.replicate (3 - i) (.val (.int .u8 0)))) true)) =
        some (M.new (.cells (bvs l ++ (List.replicate (i + 1) (.val (.int .u8 119)) ++ List.replicate (3 - (i + 1)) (.val (.int .u8 0)))) true)) := by
      have hcells : (AV.val (.int .u8 119)).cells = [.val (.int .u8 119)] := rfl
      unfold evStore
      rw [ty5]
      simp only [hcells, List.length_singleton, AM.beq_self, cond_true]
      unfold Mem.storeAt
      rw [Mem.get_new, if_pos rfl]
      have hlen : (bvs l ++ (List.replicate i (AV.val (.int .u8 119)) ++ List.replicate (3 - i) (AV.val (.int .u8 0)))).length = l.length + 3 := by
        simp only [List.length_append, bvs_length, List.length_replicate]; omega
      have h1 : ones [AV.val (.int .u8 119)] = true := rfl
      simp only [hlen, List.length_singleton, ble_of (show l.length + i + 1 ≤ l.length + 3 by omega), cond_true, h1, Mem.new_put]
      have := setAt_mid [AV.val (.int .u8 119)] (bvs l ++ List.replicate i (AV.val (.int .u8 119))) (List.replicate (3 - (i + 1)) (AV.val (.int .u8 0))) [AV.val (.int .u8 0)] rfl
      rw [List.length_append, bvs_length, List.length_replicate] at this
      refine congrArg (fun c => some (M.new (.cells c true))) ?_
      rw [show List.replicate (3 - i) (AV.val (.int .u8 0)) = [AV.val (.int .u8 0)] ++ List.replicate (3 - (i + 1)) (AV.val (.int .u8 0)) by rw [show 3 - i = (3 - (i + 1)) + 1 by omega]; rfl]
      rw [← List.append_assoc, ← List.append_assoc, this, List.replicate_succ']
      simp only [List.append_assoc]
    refine bindO_i (eSt_some hst) ?_
    exact ⟨3 - (i + 1), by omega, i + 1, iInc (by omega), hlt, rfl, rfl⟩
  · have hge : i = 3 := by have : ¬ (i : Int) < 3 := by simpa using hge
                           omega
    subst hge
    simp [lent]

theorem lent_length (l : List (BitVec 8)) : (lent l).length = l.length + 3 := by simp [lent]

/-- What is lent reads as these bytes. -/
theorem lent_at {M : Mem} {b : Nat} {l : List (BitVec 8)} {rw' : Bool} (h : M.get b = some (.cells (lent l) rw')) : BytesAt M (.sl b 0 l.length (l.length + 3) none) l :=
  ⟨by simp, .inr ⟨b, 0, _, _, rfl, ⟨by omega, .inl rfl⟩, .inr ⟨_, _, h, by rw [lent_length]; omega, by
    rw [List.drop_zero, Nat.mul_one]
    unfold lent
    rw [List.take_left' (by simp)]⟩⟩⟩

theorem kept (M : Mem) (b : Nat) (y : AV) (l m : List (BitVec 8)) {rw' : Bool} (hg : M.get b = some (.cells (lent l) rw')) (hy : BytesAt M y m) (hl : l.length ≤ 1000000) :
    CallA tb.P 18 [.sl b 0 l.length (l.length + 3) none, y] M fun v N => v = .val (.bool (decide (l = m))) ∧ N = M := by
  have hx := lent_at hg
  refine F18_ok ?_
  unfold F18
  have e3 : iAdd .i64 (l.length : Int) 3 = ((l.length + 3 : Nat) : Int) := by rw [iAdd, wrap_i64' (by omega) (by omega)]; rfl
  refine bindO_i (eLen_some hx.len) ?_
  simp only [zI_int]
  refine bindO_i (eLen_some hx.len) ?_
  simp only [zI_int, e3]
  have hsl := slice_both (T := tb) ty22 ty5 (b := b) (o := 0) (n := l.length) (c := l.length + 3) (l := l.length) (h := l.length + 3) (by omega) (by omega) (k1 := .i64) (k2 := .i64)
  rw [AM.beq_false (show l.length + 3 ≠ l.length by omega), cond_false, show l.length + 3 - l.length = 3 by omega, Nat.zero_add] at hsl
  refine bindO_i (eSl_some hsl) ?_
  refine ⟨fun z n N => ∃ i : Nat, z = i ∧ i ≤ 3 ∧ n = 3 - i ∧ N = M, ⟨3, 0, rfl, by omega, rfl, rfl⟩, ?_⟩
  rintro _ z n N ⟨i, rfl, hi, rfl, rfl⟩
  refine condB_i (fun hlt => ?_) (fun hge => ?_)
  · have hlt : i < 3 := by have : (i : Int) < 3 := by simpa using hlt
                           omega
    have hia : evIndexAddr tb 22 (.sl b l.length 3 3 none) (.val (.int .i64 (i : Int))) = some (.ptr b (l.length + i)) := by
      unfold evIndexAddr
      rw [ty22]
      simp only [ty5, Int.toNat_natCast, blt_of hlt, cond_true, Nat.mul_one]
      have h0 : decide (0 ≤ (i : Int)) = true := by simp
      rw [h0, cond_true]
    refine bindO_i (eIA_some hia) ?_
    have hld : evLoad tb 5 (.ptr b (l.length + i)) N = some (.val (.int .u8 119)) := by
      unfold evLoad
      rw [ty5]
      simp only [TI.isAgg, cond_false]
      unfold Mem.cellAt
      rw [hg]
      simp only [lent]
      rw [List.getElem?_append_right (by simp), bvs_length, Nat.add_sub_cancel_left, List.getElem?_replicate, if_pos hlt]
    refine bindO_i (eLd_some hld) ?_
    simp only [zI_int]
    refine condB_i (fun h => by simp at h) (fun _ => ?_)
    exact ⟨3 - (i + 1), by omega, i + 1, iInc (by omega), hlt, rfl, by trivial⟩
  · refine (same_bytes N _ y l m hx hy (by omega)).mono ?_
    rintro v N' ⟨rfl, rfl⟩
    simp only [zB_bool, and_self]

theorem wf0 : (⟨0, .e⟩ : Mem).WF := fun b r h => by simp [Mem.get, Tr.get] at h

/-- The crc laws are awake. -/
theorem crc_awake (M : Mem) (hw : M.WF) : CallA tb.P 12 [] M fun y N => y = .val (.bool true) ∧ Keep M N [] := by
  refine F12_ok ?_
  unfold F12
  simp only [letP_eq]
  have hcv : evConv tb 22 22 (.sl M.next 0 9 9 none) (M.new (.cells (bvs [49, 50, 51, 52, 53, 54, 55, 56, 57]) true)) =
      some (.sl M.next 0 9 9 none, M.new (.cells (bvs [49, 50, 51, 52, 53, 54, 55, 56, 57]) false)) := by
    unfold evConv
    rw [ty22]
    simp only [ty5, Mem.get_new, if_true, AM.beq_self, cond_true, Mem.new_put]
  refine bindO_i hcv ?_
  have hx : BytesAt (M.new (.cells (bvs [49, 50, 51, 52, 53, 54, 55, 56, 57]) false)) (.sl M.next 0 9 9 none) [49, 50, 51, 52, 53, 54, 55, 56, 57] :=
    ⟨rfl, .inr ⟨_, _, _, _, rfl, ⟨Nat.le_refl _, .inl rfl⟩, .inr ⟨_, _, by rw [Mem.get_new, if_pos rfl], Nat.le_refl _, rfl⟩⟩⟩
  refine (crc_of _ _ _ hx (by decide)).mono ?_
  rintro y N ⟨rfl, rfl⟩
  have e : (more 0#32 [49, 50, 51, 52, 53, 54, 55, 56, 57]).toNat = 3421780262 := by kernel_rfl
  rw [e]
  simp only [zI_int]
  refine condB_i (fun _ => ?_) (fun h => by simp at h)
  refine (crc_more _ 0#32 (.val (.slice none 0 0)) [] SlAt.nil (by decide)).mono ?_
  rintro y N ⟨rfl, rfl⟩
  have e : (more 0#32 []).toNat = 0 := by kernel_rfl
  rw [e]
  simp only [zI_int]
  exact ⟨rfl, Keep.new hw _⟩
end Go.Proofs.Ytpfifmemkbddjaa
