import Derived.Test.YtjffimbigamadaaG12
import Derived.Test.YtjffimbigamadaaP3
set_option linter.unusedSimpArgs false
set_option linter.unusedVariables false
/- What is lent, what is kept, what is written over. -/
namespace Go.Proofs.Ytjffimbigamadaa
open Go.AM

def lent (l : List (BitVec 8)) : List AV := bvs l ++ List.replicate 3 (.val (.int .u8 119))

theorem lend (M : Mem) (x : AV) (l : List (BitVec 8)) (hw : M.WF) (hx : BytesAt M x l) (hl : l.length ≤ 1000000) :
    CallA tb.P 81 [x] M fun y N => y = .sl M.next 0 l.length (l.length + 3) none ∧ N = M.new (.cells (lent l) true) := by
  refine F81_ok ?_
  unfold F81
  refine bindO_i (eLen_some hx.len) ?_
  have e3 : iAdd .i64 (l.length : Int) 3 = ((l.length + 3 : Nat) : Int) := by rw [iAdd, wrap_i64' (by omega) (by omega)]; rfl
  simp only [zI_int, e3]
  have hmk := make_sl (T := tb) (M := M) ty33 rfl ty5 (l := 0) (c := l.length + 3) (by omega) (by simp only; omega) (by omega) (k1 := .i64) (k2 := .i64)
  simp only [ofVs, ofV, repA_one'] at hmk
  have hmk' : evMakeSlice tb 33 (.val (.int .i64 0)) (.val (.int .i64 ((l.length + 3 : Nat) : Int))) M = some (.sl M.next 0 0 (l.length + 3) none, M.new (.cells (List.replicate (l.length + 3) (.val (.int .u8 0))) true)) := hmk
  rw [hmk', bindO_some]
  -- the append
  have hx1 : BytesAt (M.new (.cells (List.replicate (l.length + 3) (.val (.int .u8 0))) true)) x l := SlAt.keep0 hx hw (Keep.new hw _)
  have hap : evAppend tb 33 33 (.sl M.next 0 0 (l.length + 3) none) x (M.new (.cells (List.replicate (l.length + 3) (.val (.int .u8 0))) true)) =
      some (.sl M.next 0 l.length (l.length + 3) none, M.new (.cells (bvs l ++ List.replicate 3 (.val (.int .u8 0))) true)) := by
    by_cases hl0 : l.length = 0
    · have hx0 : SlAt 1 (M.new (.cells (List.replicate (l.length + 3) (.val (.int .u8 0))) true)) x 0 (bvs l) := by
        have := hx1
        unfold BytesAt at this
        rwa [hl0] at this ⊢
      have hs : SlAt 1 (M.new (.cells (List.replicate (l.length + 3) (.val (.int .u8 0))) true)) (.sl M.next 0 0 (l.length + 3) none) 0 [] := ⟨rfl, .inr ⟨_, _, _, _, rfl, ⟨by omega, .inl rfl⟩, .inl rfl⟩⟩
      rw [append_zero (T := tb) (k := 1) ty33 rfl ty5 rfl hs hx0]
      have hnil : l = [] := List.eq_nil_of_length_eq_zero hl0
      subst hnil
      rfl
    · rw [append_fits (T := tb) (k := 1) ty33 rfl ty5 rfl (b := M.next) (o := 0) (len := 0) (cap := l.length + 3) (ex := none) (cs := List.replicate (l.length + 3) (.val (.int .u8 0))) hx1 (by omega) (bvs_one l) (by omega) (by rw [Mem.get_new, if_pos rfl]) (by rw [List.length_replicate]; omega)]
      have := setAt_mid (bvs l) [] (List.replicate 3 (.val (.int .u8 0))) (List.replicate l.length (.val (.int .u8 0))) (by simp)
      simp only [List.nil_append, List.length_nil, List.replicate_append_replicate] at this
      rw [Mem.new_put]
      simp only [Nat.zero_mul, Nat.add_zero, Nat.zero_add]
      rw [this]
  refine bindO_i hap ?_
  refine bindO_i (eLen_some hx.len) ?_
  simp only [zI_int]
  refine bindO_i (eLen_some hx.len) ?_
  simp only [zI_int, e3]
  have hsl := slice_both (T := tb) ty33 ty5 (b := M.next) (o := 0) (n := l.length) (c := l.length + 3) (l := l.length) (h := l.length + 3) (by omega) (by omega) (k1 := .i64) (k2 := .i64)
  rw [AM.beq_false (show l.length + 3 ≠ l.length by omega), cond_false, show l.length + 3 - l.length = 3 by omega, Nat.zero_add] at hsl
  refine bindO_i (eSl_some hsl) ?_
  refine ⟨fun z n N => ∃ i : Nat, z = i ∧ i ≤ 3 ∧ n = 3 - i ∧ N = M.new (.cells (bvs l ++ (List.replicate i (.val (.int .u8 119)) ++ List.replicate (3 - i) (.val (.int .u8 0)))) true), ⟨3, 0, rfl, by omega, rfl, by simp⟩, ?_⟩
  rintro _ z n N ⟨i, rfl, hi, rfl, rfl⟩
  refine condB_i (fun hlt => ?_) (fun hge => ?_)
  · have hlt : i < 3 := by have : (i : Int) < 3 := by simpa using hlt
                           omega
    have hia : evIndexAddr tb 33 (.sl M.next l.length 3 3 none) (.val (.int .i64 (i : Int))) = some (.ptr M.next (l.length + i)) := by
      unfold evIndexAddr
      rw [ty33]
      simp only [ty5, Int.toNat_natCast, blt_of hlt, cond_true, Nat.mul_one]
      have h0 : decide (0 ≤ (i : Int)) = true := by simp
      rw [h0, cond_true]
    refine bindO_i (eIA_some hia) ?_
    have hst : evStore tb 5 (.ptr M.next (l.length + i)) (.val (.int .u8 119)) (M.new (.cells (bvs l ++ (List.replicate i (.val (.int .u8 119)) ++ List.replicate (3 - i) (.val (.int .u8 0)))) true)) =
        some (M.new (.cells (bvs l ++ (List.replicate (i + 1) (.val (.int .u8 119)) ++ List.replicate (3 - (i + 1)) (.val (.int .u8 0)))) true)) := by
      have hcells : (AV.val (.int .u8 119)).cells = [.val (.int .u8 119)] := rfl
      unfold evStore
      rw [ty5]
      simp only [hcells, List.length_singleton, AM.beq_self, cond_true]
      unfold Mem.storeAt
      rw [Mem.get_new, if_pos rfl]
      have hlen : (bvs l ++ (List.replicate i (AV.val (.int .u8 119)) ++ List.replicate (3 - i) (AV.val (.int .u8 0)))).length = l.length + 3 := by
        simp only [List.length_append, bvs_length, List.length_replicate]; omega
      have h1 : ones [AV.val (.int .u8 119)] = true := rfl
      simp only [hlen, List.length_singleton, ble_of (show l.length + i + 1 ≤ l.length + 3 by omega), cond_true, h1, Mem.new_put]
      have := setAt_mid [AV.val (.int .u8 119)] (bvs l ++ List.replicate i (AV.val (.int .u8 119))) (List.replicate (3 - (i + 1)) (AV.val (.int .u8 0))) [AV.val (.int .u8 0)] rfl
      rw [List.length_append, bvs_length, List.length_replicate] at this
      refine congrArg (fun c => some (M.new (.cells c true))) ?_
      rw [show List.replicate (3 - i) (AV.val (.int .u8 0)) = [AV.val (.int .u8 0)] ++ List.replicate (3 - (i + 1)) (AV.val (.int .u8 0)) by rw [show 3 - i = (3 - (i + 1)) + 1 by omega]; rfl]
      rw [← List.append_assoc, ← List.append_assoc, this, List.replicate_succ']
      simp only [List.append_assoc]
    refine bindO_i (eSt_some hst) ?_
    exact ⟨3 - (i + 1), by omega, i + 1, iInc (by omega), hlt, rfl, rfl⟩
  · have hge : i = 3 := by have : ¬ (i : Int) < 3 := by simpa using hge
                           omega
    subst hge
    simp [lent]

theorem lent_length (l : List (BitVec 8)) : (lent l).length = l.length + 3 := by simp [lent]

/-- What is lent reads as these bytes. -/
theorem lent_at {M : Mem} {b : Nat} {l : List (BitVec 8)} {rw' : Bool} (h : M.get b = some (.cells (lent l) rw')) : BytesAt M (.sl b 0 l.length (l.length + 3) none) l :=
  ⟨by simp, .inr ⟨b, 0, _, _, rfl, ⟨by omega, .inl rfl⟩, .inr ⟨_, _, h, by rw [lent_length]; omega, by
    rw [List.drop_zero, Nat.mul_one]
    unfold lent
    rw [List.take_left' (by simp)]⟩⟩⟩

theorem kept (M : Mem) (b : Nat) (y : AV) (l m : List (BitVec 8)) {rw' : Bool} (hg : M.get b = some (.cells (lent l) rw')) (hy : BytesAt M y m) (hl : l.length ≤ 1000000) :
    CallA tb.P 83 [.sl b 0 l.length (l.length + 3) none, y] M fun v N => v = .val (.bool (decide (l = m))) ∧ N = M := by
  have hx := lent_at hg
  refine F83_ok ?_
  unfold F83
  have e3 : iAdd .i64 (l.length : Int) 3 = ((l.length + 3 : Nat) : Int) := by rw [iAdd, wrap_i64' (by omega) (by omega)]; rfl
  refine bindO_i (eLen_some hx.len) ?_
  simp only [zI_int]
  refine bindO_i (eLen_some hx.len) ?_
  simp only [zI_int, e3]
  have hsl := slice_both (T := tb) ty33 ty5 (b := b) (o := 0) (n := l.length) (c := l.length + 3) (l := l.length) (h := l.length + 3) (by omega) (by omega) (k1 := .i64) (k2 := .i64)
  rw [AM.beq_false (show l.length + 3 ≠ l.length by omega), cond_false, show l.length + 3 - l.length = 3 by omega, Nat.zero_add] at hsl
  refine bindO_i (eSl_some hsl) ?_
  refine ⟨fun z n N => ∃ i : Nat, z = i ∧ i ≤ 3 ∧ n = 3 - i ∧ N = M, ⟨3, 0, rfl, by omega, rfl, rfl⟩, ?_⟩
  rintro _ z n N ⟨i, rfl, hi, rfl, rfl⟩
  refine condB_i (fun hlt => ?_) (fun hge => ?_)
  · have hlt : i < 3 := by have : (i : Int) < 3 := by simpa using hlt
                           omega
    have hia : evIndexAddr tb 33 (.sl b l.length 3 3 none) (.val (.int .i64 (i : Int))) = some (.ptr b (l.length + i)) := by
      unfold evIndexAddr
      rw [ty33]
      simp only [ty5, Int.toNat_natCast, blt_of hlt, cond_true, Nat.mul_one]
      have h0 : decide (0 ≤ (i : Int)) = true := by simp
      rw [h0, cond_true]
    refine bindO_i (eIA_some hia) ?_
    have hld : evLoad tb 5 (.ptr b (l.length + i)) N = some (.val (.int .u8 119)) := by
      unfold evLoad
      rw [ty5]
      simp only [TI.isAgg, cond_false]
      unfold Mem.cellAt
      rw [hg]
      simp only [lent]
      rw [List.getElem?_append_right (by simp), bvs_length, Nat.add_sub_cancel_left, List.getElem?_replicate, if_pos hlt]
    refine bindO_i (eLd_some hld) ?_
    simp only [zI_int]
    refine condB_i (fun h => by simp at h) (fun _ => ?_)
    exact ⟨3 - (i + 1), by omega, i + 1, iInc (by omega), hlt, rfl, by trivial⟩
  · refine (same_bytes N _ y l m hx hy (by omega)).mono ?_
    rintro v N' ⟨rfl, rfl⟩
    simp only [zB_bool, and_self]

/-- The block that a slice lies in. -/
def onBlk (x : AV) (b : Nat) : Prop := match x with
  | .sl c _ _ _ _ => c = b
  | _ => False

theorem inBlk_on {x : AV} {b : Nat} (h : inBlk x b) : onBlk x b := by
  cases x <;> first | exact h.elim | exact h.2

/-- But for a slice's block all that was there stays. -/
structure Over (M N : Mem) (x : AV) : Prop where
  wf : N.WF
  nxt : M.next ≤ N.next
  old : ∀ c, c < M.next → ¬ onBlk x c → N.get c = M.get c

theorem Over.keep {M N : Mem} {x y : AV} {l : List (BitVec 8)} (h : Over M N x) (hw : M.WF) (hy : BytesAt M y l) (hd : ∀ c, inBlk y c → ¬ onBlk x c) : BytesAt N y l :=
  SlAt.mono hy fun c r hin hc => by rw [h.old c (hw c r hc) (hd c hin)]; exact hc

theorem over_nil (M : Mem) (hw : M.WF) : CallA tb.P 80 [.val (.slice none 0 0)] M fun y N => Over M N (.val (.slice none 0 0)) := by
  refine F80_ok ?_
  unfold F80
  refine ⟨fun z q P => z = 0 ∧ q = 0 ∧ P = M, ⟨0, rfl, rfl, rfl⟩, ?_⟩
  rintro _ z q P ⟨rfl, rfl, rfl⟩
  refine bindO_i (eLen_some (BytesAt.len (M := P) (l := []) SlAt.nil)) ?_
  simp only [zI_int]
  refine condB_i (fun h => by simp at h) (fun _ => ?_)
  refine letP_i fun P1 hP1 => ?_
  subst hP1
  obtain ⟨x', N, h1, _, h3⟩ := Gr.lit (x := .val (.slice none 0 0)) (l := []) hw (.inl ⟨rfl, rfl⟩) [238#8] (by simp) (by simp)
  refine bindO_i (show evAppend tb 33 33 (.val (.slice none 0 0)) (.sl P.next 0 1 1 none) (P.new (.cells [.val (.int .u8 238)] true)) = some (x', N) from h1) ?_
  exact ⟨h3.wf, h3.nxt, fun c hc _ => h3.old c hc (fun h => h.elim)⟩

theorem t_over (M : Mem) (hw : M.WF) (b n c : Nat) (ex : Option Nat) (cs : List AV) (hg : M.get b = some (.cells cs true)) (hn : n ≤ cs.length) (hl : cs.length ≤ 1000000)
    (hex : (ex = none ∧ n < c ∧ n < cs.length) ∨ (ex = some 1 ∧ n = c ∧ 0 < n ∧ n = cs.length)) :
    CallA tb.P 80 [.sl b 0 n c ex] M fun y N => Over M N (.sl b 0 n c ex) := by
  have hblt := hw _ _ hg
  refine F80_ok ?_
  unfold F80
  refine ⟨fun z q P => ∃ i : Nat, z = i ∧ q = n - i ∧ i ≤ n ∧ P.WF ∧ P.next = M.next ∧ (∃ cs', P.get b = some (.cells cs' true) ∧ cs'.length = cs.length) ∧ ∀ d, d ≠ b → P.get d = M.get d, ⟨n, 0, rfl, rfl, Nat.zero_le _, hw, rfl, ⟨cs, hg, rfl⟩, fun d _ => rfl⟩, ?_⟩
  rintro _ z q P ⟨i, rfl, rfl, hi, hPw, hPn, ⟨cs', hg', hcl⟩, hold⟩
  have hlen : evLenCap tb false 33 (.sl b 0 n c ex) P = some n := by
    unfold evLenCap
    rw [ty33]
    rfl
  refine bindO_i (eLen_some hlen) ?_
  simp only [zI_int]
  refine condB_i (fun hlt => ?_) (fun hge => ?_)
  · have hlt : i < n := by simpa using hlt
    have hia : evIndexAddr tb 33 (.sl b 0 n c ex) (.val (.int .i64 (i : Int))) = some (.ptr b i) := by
      unfold evIndexAddr
      rw [ty33]
      have h0 : decide (0 ≤ (i : Int)) = true := by simp
      simp only [ty5, Int.toNat_natCast, blt_of hlt, cond_true, h0, Nat.mul_one, Nat.zero_add]
    refine bindO_i (eIA_some hia) ?_
    simp only [zP_ptr]
    refine bindO_i (eSt_some (st_cell ty5 rfl rfl hg' (by omega))) ?_
    refine ⟨n - (i + 1), by omega, i + 1, iInc (by omega), rfl, hlt, hPw.put (by omega) _, hPn, ⟨_, by
      show (P.put b _).get b = _
      rw [Mem.get_put, if_pos rfl], by simpa using hcl⟩, fun d hd => by
      show (P.put b _).get d = _
      rw [Mem.get_put, if_neg hd]; exact hold d hd⟩
  · refine letP_i fun P1 hP1 => ?_
    subst hP1
    have hs : BytesAt (P.new (.cells [bv8 238#8] true)) (.sl P.next 0 1 1 none) [238#8] := bytes_one (by rw [Mem.get_new, if_pos rfl])
    have hg1 : (P.new (.cells [bv8 238#8] true)).get b = some (.cells cs' true) := by rw [Mem.get_new, if_neg (by omega)]; exact hg'
    rcases hex with ⟨rfl, h1, h2⟩ | ⟨rfl, rfl, h1, h2⟩
    · have hap := append_fits (T := tb) (k := 1) ty33 rfl ty5 rfl (b := b) (o := 0) (len := n) (cap := c) (ex := none) (cs := cs') (us := bvs [238#8]) (m := 1) hs (by omega) (bvs_one _) (by omega) hg1 (by omega)
      refine bindO_i (show evAppend tb 33 33 (.sl b 0 n c none) (.sl P.next 0 1 1 none) (P.new (.cells [.val (.int .u8 238)] true)) = some (_, _) from hap) ?_
      refine ⟨(hPw.new _).put (by show b < P.next + 1; omega) _, by show M.next ≤ P.next + 1; omega, fun d hd hne => ?_⟩
      have hdb : d ≠ b := fun h => hne h.symm
      rw [Mem.get_put, if_neg hdb, Mem.get_new, if_neg (by omega)]
      exact hold d hdb
    · have hgr : Grown 1 (P.new (.cells [bv8 238#8] true)) (.sl b 0 n n (some 1)) n cs' b := ⟨rfl, h1, by omega, hg1⟩
      obtain ⟨N, hap, rfl⟩ := append_grown (T := tb) (k := 1) ty33 rfl ty5 rfl hgr hs (by simp) (bvs_one _) ⟨by simp only [List.length_cons, List.length_nil]; omega, by simp only [List.length_cons, List.length_nil]; omega⟩
      refine bindO_i (show evAppend tb 33 33 (.sl b 0 n n (some 1)) (.sl P.next 0 1 1 none) (P.new (.cells [.val (.int .u8 238)] true)) = some (_, _) from hap) ?_
      refine ⟨((hPw.new _).kill _).new _, by show M.next ≤ P.next + 1 + 1; omega, fun d hd hne => ?_⟩
      have hdb : d ≠ b := fun h => hne h.symm
      rw [Mem.get_new, if_neg (by show d ≠ P.next + 1; omega), Mem.get_kill, if_neg hdb, Mem.get_new, if_neg (by omega)]
      exact hold d hdb

theorem over_gr (M : Mem) (hw : M.WF) (x : AV) (l : List (BitVec 8)) (hx : Gr M x l) (hl : l.length ≤ 1000000) : CallA tb.P 80 [x] M fun y N => Over M N x := by
  rcases hx with ⟨rfl, _⟩ | ⟨b, rfl, h1, h2, h3⟩
  · exact over_nil M hw
  · exact t_over M hw b l.length l.length (some 1) (bvs l) h3 (by simp) (by simpa using hl) (.inr ⟨rfl, rfl, h1, by simp⟩)

theorem over_lent (M : Mem) (hw : M.WF) (b : Nat) (l : List (BitVec 8)) (hg : M.get b = some (.cells (lent l) true)) (hl : l.length ≤ 1000) : CallA tb.P 80 [.sl b 0 l.length (l.length + 3) none] M fun y N => Over M N (.sl b 0 l.length (l.length + 3) none) :=
  t_over M hw b l.length (l.length + 3) none (lent l) hg (by rw [lent_length]; omega) (by rw [lent_length]; omega) (.inl ⟨rfl, by omega, by rw [lent_length]; omega⟩)

end Go.Proofs.Ytjffimbigamadaa
