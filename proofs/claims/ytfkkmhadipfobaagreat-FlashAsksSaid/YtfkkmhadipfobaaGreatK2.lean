import Derived.Test.YtfkkmhadipfobaaGreatA37
import Derived.Test.YtfkkmhadipfobaaGreatA45
import Derived.Test.YtfkkmhadipfobaaGreatB3
import Derived.Test.YtfkkmhadipfobaaGreatK1
import Derived.Test.YtfkkmhadipfobaaGreatQA
import Derived.Shelf.SlIterI.Nil
import Derived.Shelf.SortM.Plain
import Derived.Shelf.SortM.SortNone
import Derived.Ground.GgzProg
import Derived.Ground.SlgmProg
set_option linter.unusedSimpArgs false
set_option linter.unusedVariables false
set_option linter.unusedSectionVars false
/- The chip and the document's: alike. -/
set_option maxRecDepth 100000
namespace Go.Proofs.YtfkkmhadipfobaaGreat
open Go.AM

/-- Both stand the same; at most so many operations. -/
structure Alike (n : Nat) (C : Chip) (V : Vw) : Prop where
  g : V.g = C.g
  fs : V.fs = C.fs
  ap : Apart C.fs
  off : V.off = C.off
  ops : V.ops = C.ops
  cuts : V.cuts = C.cuts
  o0 : 0 ≤ C.ops
  o1 : C.ops ≤ (n : Int)
  nx : V.nx = C.bs.map (·.next)
  wr : V.wr = C.bs.map (·.wear)
  dn : V.dn = C.bs.map (·.done)
  len : C.bs.length = C.g.bl.toNat
  pgl : V.pg.length = C.g.bl.toNat * C.g.pg.toNat
  ful : ∀ B ∈ C.bs, B.by'.length = C.g.pg.toNat * rawN C.g
  pg : ∀ (i j : Nat) (h : i < C.bs.length), j < C.g.pg.toNat → V.pg[i * C.g.pg.toNat + j]? = some (pageB C.bs[i] (rawN C.g) j)
  cut : (C.turn = 0 ∧ V.wait = 0) ∨ (1 ≤ V.wait ∧ V.wait ≤ 1073741824 ∧ C.turn = C.ops + V.wait ∧ V.cby = C.cby ∧ V.cf = C.cf)
  may : mayG C.g = true
  cby0 : 0 ≤ C.cby

theorem Alike.mono {n m : Nat} {C : Chip} {V : Vw} (h : Alike n C V) (hm : n ≤ m) : Alike m C V :=
  ⟨h.g, h.fs, h.ap, h.off, h.ops, h.cuts, h.o0, by have := h.o1; omega, h.nx, h.wr, h.dn, h.len, h.pgl, h.ful, h.pg, h.cut, h.may, h.cby0⟩

/-! ## Pages -/

/-! ## Operations -/

theorem Alike.place {n : Nat} {C : Chip} {V : Vw} (h : Alike n C V) {b k : Int} (hp : isG C.g b k = true) : ∃ (i j : Nat), b = (i : Int) ∧ k = (j : Int) ∧ i < C.bs.length ∧ j < C.g.pg.toNat := by
  obtain ⟨⟨h1, h2⟩, h3, h4⟩ := isG_iff.1 hp
  have hm := mayG_iff.1 h.may
  have := h.len
  exact ⟨b.toNat, k.toNat, by omega, by omega, by omega, by omega⟩

end Go.Proofs.YtfkkmhadipfobaaGreat

/- What is lent, what is kept, what is written over. -/
set_option maxRecDepth 100000
namespace Go.Proofs.YtfkkmhadipfobaaGreat
open Go.AM

def lent (l : List (BitVec 8)) : List AV := bvs l ++ List.replicate 3 (.val (.int .u8 119))

theorem lend (M : Mem) (x : AV) (l : List (BitVec 8)) (hw : M.WF) (hx : BytesAt M x l) (hl : l.length ≤ 1000000) :
    CallA tb.P 16 [x] M fun y N => y = .sl M.next 0 l.length (l.length + 3) none ∧ N = M.new (.cells (lent l) true) := by
  refine F16_ok ?_
  unfold F16
  refine bindO_i (eLen_some hx.len) ?_
  have e3 : iAdd .i64 (l.length : Int) 3 = ((l.length + 3 : Nat) : Int) := by rw [iAdd, wrap_i64' (by omega) (by omega)]; rfl
  simp only [zI_int, e3]
  have hmk := make_sl (T := tb) (M := M) ty23 rfl ty5 (l := 0) (c := l.length + 3) (by omega) (by simp only; omega) (by omega) (k1 := .i64) (k2 := .i64)
  simp only [ofVs, ofV, repA_one'] at hmk
  have hmk' : evMakeSlice tb 23 (.val (.int .i64 0)) (.val (.int .i64 ((l.length + 3 : Nat) : Int))) M = some (.sl M.next 0 0 (l.length + 3) none, M.new (.cells (List.replicate (l.length + 3) (.val (.int .u8 0))) true)) := hmk
  rw [hmk', bindO_some]
  -- the append
  have hx1 : BytesAt (M.new (.cells (List.replicate (l.length + 3) (.val (.int .u8 0))) true)) x l := SlAt.keep0 hx hw (Keep.new hw _)
  have hap : evAppend tb 23 23 (.sl M.next 0 0 (l.length + 3) none) x (M.new (.cells (List.replicate (l.length + 3) (.val (.int .u8 0))) true)) =
      some (.sl M.next 0 l.length (l.length + 3) none, M.new (.cells (bvs l ++ List.replicate 3 (.val (.int .u8 0))) true)) := by
    by_cases hl0 : l.length = 0
    · have hx0 : SlAt 1 (M.new (.cells (List.replicate (l.length + 3) (.val (.int .u8 0))) true)) x 0 (bvs l) := by
        have := hx1
        unfold BytesAt at this
        rwa [hl0] at this ⊢
      have hs : SlAt 1 (M.new (.cells (List.replicate (l.length + 3) (.val (.int .u8 0))) true)) (.sl M.next 0 0 (l.length + 3) none) 0 [] := ⟨rfl, .inr ⟨_, _, _, _, rfl, ⟨by omega, .inl rfl⟩, .inl rfl⟩⟩
      rw [append_zero (T := tb) (k := 1) ty23 rfl ty5 rfl hs hx0]
      have hnil : l = [] := List.eq_nil_of_length_eq_zero hl0
      subst hnil
      rfl
    · rw [append_fits (T := tb) (k := 1) ty23 rfl ty5 rfl (b := M.next) (o := 0) (len := 0) (cap := l.length + 3) (ex := none) (cs := List.replicate (l.length + 3) (.val (.int .u8 0))) hx1 (by omega) (bvs_one l) (by omega) (by rw [Mem.get_new, if_pos rfl]) (by rw [List.length_replicate]; omega)]
      have := setAt_mid (bvs l) [] (List.replicate 3 (.val (.int .u8 0))) (List.replicate l.length (.val (.int .u8 0))) (by simp)
      simp only [List.nil_append, List.length_nil, List.replicate_append_replicate] at this
      rw [Mem.new_put]
      simp only [Nat.zero_mul, Nat.add_zero, Nat.zero_add]
      rw [this]
  refine bindO_i hap ?_
  refine bindO_i (eLen_some hx.len) ?_
  simp only [zI_int]
  refine bindO_i (eLen_some hx.len) ?_
  simp only [zI_int, e3]
  have hsl := slice_both (T := tb) ty23 ty5 (b := M.next) (o := 0) (n := l.length) (c := l.length + 3) (l := l.length) (h := l.length + 3) (by omega) (by omega) (k1 := .i64) (k2 := .i64)
  rw [AM.beq_false (show l.length + 3 ≠ l.length by omega), cond_false, show l.length + 3 - l.length = 3 by omega, Nat.zero_add] at hsl
  refine bindO_i (eSl_some hsl) ?_
  refine ⟨fun z n N => ∃ i : Nat, z = i ∧ i ≤ 3 ∧ n = 3 - i ∧ N = M.new (.cells (bvs l ++ (List.replicate i (.val (.int .u8 119)) ++ List.replicate (3 - i) (.val (.int .u8 0)))) true), ⟨3, 0, rfl, by omega, rfl, by simp⟩, ?_⟩
  rintro _ z n N ⟨i, rfl, hi, rfl, rfl⟩
  refine condB_i (fun hlt => ?_) (fun hge => ?_)
  · have hlt : i < 3 := by have : (i : Int) < 3 := by simpa using hlt
                           omega
    have hia : evIndexAddr tb 23 (.sl M.next l.length 3 3 none) (.val (.int .i64 (i : Int))) = some (.ptr M.next (l.length + i)) := by
      unfold evIndexAddr
      rw [ty23]
      simp only [ty5, Int.toNat_natCast, blt_of hlt, cond_true, Nat.mul_one]
      have h0 : decide (0 ≤ (i : Int)) = true := by simp
      rw [h0, cond_true]
    refine bindO_i (eIA_some hia) ?_
    have hst : evStore tb 5 (.ptr M.next (l.length + i)) (.val (.int .u8 119)) (M.new (.cells (bvs l ++ (List.replicate i (.val (.int .u8 119)) ++ List.replicate (3 - i) (.val (.int .u8 0)))) true)) =
        some (M.new (.cells (bvs l ++ (List.replicate (i + 1) (.val (.int .u8 119)) ++ List.replicate (3 - (i + 1)) (.val (.int .u8 0)))) true)) := by
      have hcells : (AV.val (.int .u8 119)).cells = [.val (.int .u8 119)] := rfl
      unfold evStore
      rw [ty5]
      simp only [hcells, List.length_singleton, AM.beq_self, cond_true]
      unfold Mem.storeAt
      rw [Mem.get_new, if_pos rfl]
      have hlen : (bvs l ++ (List.replicate i (AV.val (.int .u8 119)) ++ List.replicate (3 - i) (AV.val (.int .u8 0)))).length = l.length + 3 := by
        simp only [List.length_append, bvs_length, List.length_replicate]; omega
      have h1 : ones [AV.val (.int .u8 119)] = true := rfl
      simp only [hlen, List.length_singleton, ble_of (show l.length + i + 1 ≤ l.length + 3 by omega), cond_true, h1, Mem.new_put]
      have := setAt_mid [AV.val (.int .u8 119)] (bvs l ++ List.replicate i (AV.val (.int .u8 119))) (List.replicate (3 - (i + 1)) (AV.val (.int .u8 0))) [AV.val (.int .u8 0)] rfl
      rw [List.length_append, bvs_length, List.length_replicate] at this
      refine congrArg (fun c => some (M.new (.cells c true))) ?_
      rw [show List.replicate (3 - i) (AV.val (.int .u8 0)) = [AV.val (.int .u8 0)] ++ List.replicate (3 - (i + 1)) (AV.val (.int .u8 0)) by rw [show 3 - i = (3 - (i + 1)) + 1 by omega]; rfl]
      rw [← List.append_assoc, ← List.append_assoc, this, List.replicate_succ']
      simp only [List.append_assoc]
    refine bindO_i (eSt_some hst) ?_
    exact ⟨3 - (i + 1), by omega, i + 1, iInc (by omega), hlt, rfl, rfl⟩
  · have hge : i = 3 := by have : ¬ (i : Int) < 3 := by simpa using hge
                           omega
    subst hge
    simp [lent]

theorem lent_length (l : List (BitVec 8)) : (lent l).length = l.length + 3 := by simp [lent]

/-- What is lent reads as these bytes. -/
theorem lent_at {M : Mem} {b : Nat} {l : List (BitVec 8)} {rw' : Bool} (h : M.get b = some (.cells (lent l) rw')) : BytesAt M (.sl b 0 l.length (l.length + 3) none) l :=
  ⟨by simp, .inr ⟨b, 0, _, _, rfl, ⟨by omega, .inl rfl⟩, .inr ⟨_, _, h, by rw [lent_length]; omega, by
    rw [List.drop_zero, Nat.mul_one]
    unfold lent
    rw [List.take_left' (by simp)]⟩⟩⟩

theorem kept (M : Mem) (b : Nat) (y : AV) (l m : List (BitVec 8)) {rw' : Bool} (hg : M.get b = some (.cells (lent l) rw')) (hy : BytesAt M y m) (hl : l.length ≤ 1000000) :
    CallA tb.P 17 [.sl b 0 l.length (l.length + 3) none, y] M fun v N => v = .val (.bool (decide (l = m))) ∧ N = M := by
  have hx := lent_at hg
  refine F17_ok ?_
  unfold F17
  have e3 : iAdd .i64 (l.length : Int) 3 = ((l.length + 3 : Nat) : Int) := by rw [iAdd, wrap_i64' (by omega) (by omega)]; rfl
  refine bindO_i (eLen_some hx.len) ?_
  simp only [zI_int]
  refine bindO_i (eLen_some hx.len) ?_
  simp only [zI_int, e3]
  have hsl := slice_both (T := tb) ty23 ty5 (b := b) (o := 0) (n := l.length) (c := l.length + 3) (l := l.length) (h := l.length + 3) (by omega) (by omega) (k1 := .i64) (k2 := .i64)
  rw [AM.beq_false (show l.length + 3 ≠ l.length by omega), cond_false, show l.length + 3 - l.length = 3 by omega, Nat.zero_add] at hsl
  refine bindO_i (eSl_some hsl) ?_
  refine ⟨fun z n N => ∃ i : Nat, z = i ∧ i ≤ 3 ∧ n = 3 - i ∧ N = M, ⟨3, 0, rfl, by omega, rfl, rfl⟩, ?_⟩
  rintro _ z n N ⟨i, rfl, hi, rfl, rfl⟩
  refine condB_i (fun hlt => ?_) (fun hge => ?_)
  · have hlt : i < 3 := by have : (i : Int) < 3 := by simpa using hlt
                           omega
    have hia : evIndexAddr tb 23 (.sl b l.length 3 3 none) (.val (.int .i64 (i : Int))) = some (.ptr b (l.length + i)) := by
      unfold evIndexAddr
      rw [ty23]
      simp only [ty5, Int.toNat_natCast, blt_of hlt, cond_true, Nat.mul_one]
      have h0 : decide (0 ≤ (i : Int)) = true := by simp
      rw [h0, cond_true]
    refine bindO_i (eIA_some hia) ?_
    have hld : evLoad tb 5 (.ptr b (l.length + i)) N = some (.val (.int .u8 119)) := by
      unfold evLoad
      rw [ty5]
      simp only [TI.isAgg, cond_false]
      unfold Mem.cellAt
      rw [hg]
      simp only [lent]
      rw [List.getElem?_append_right (by simp), bvs_length, Nat.add_sub_cancel_left, List.getElem?_replicate, if_pos hlt]
    refine bindO_i (eLd_some hld) ?_
    simp only [zI_int]
    refine condB_i (fun h => by simp at h) (fun _ => ?_)
    exact ⟨3 - (i + 1), by omega, i + 1, iInc (by omega), hlt, rfl, by trivial⟩
  · refine (same_bytes N _ y l m hx hy (by omega)).mono ?_
    rintro v N' ⟨rfl, rfl⟩
    simp only [zB_bool, and_self]

/-- The block that a slice lies in. -/
def onBlk (x : AV) (b : Nat) : Prop := match x with
  | .sl c _ _ _ _ => c = b
  | _ => False

/-- But for a slice's block all that was there stays. -/
structure Over (M N : Mem) (x : AV) : Prop where
  wf : N.WF
  nxt : M.next ≤ N.next
  old : ∀ c, c < M.next → ¬ onBlk x c → N.get c = M.get c

theorem Over.keep {M N : Mem} {x y : AV} {l : List (BitVec 8)} (h : Over M N x) (hw : M.WF) (hy : BytesAt M y l) (hd : ∀ c, inBlk y c → ¬ onBlk x c) : BytesAt N y l :=
  SlAt.mono hy fun c r hin hc => by rw [h.old c (hw c r hc) (hd c hin)]; exact hc

theorem over_nil (M : Mem) (hw : M.WF) : CallA tb.P 18 [.val (.slice none 0 0)] M fun y N => Over M N (.val (.slice none 0 0)) := by
  refine F18_ok ?_
  unfold F18
  refine ⟨fun z q P => z = 0 ∧ q = 0 ∧ P = M, ⟨0, rfl, rfl, rfl⟩, ?_⟩
  rintro _ z q P ⟨rfl, rfl, rfl⟩
  refine bindO_i (eLen_some (BytesAt.len (M := P) (l := []) SlAt.nil)) ?_
  simp only [zI_int]
  refine condB_i (fun h => by simp at h) (fun _ => ?_)
  refine letP_i fun P1 hP1 => ?_
  subst hP1
  obtain ⟨x', N, h1, _, h3⟩ := Gr.lit (x := .val (.slice none 0 0)) (l := []) hw (.inl ⟨rfl, rfl⟩) [238#8] (by simp) (by simp)
  refine bindO_i (show evAppend tb 23 23 (.val (.slice none 0 0)) (.sl P.next 0 1 1 none) (P.new (.cells [.val (.int .u8 238)] true)) = some (x', N) from h1) ?_
  exact ⟨h3.wf, h3.nxt, fun c hc _ => h3.old c hc (fun h => h.elim)⟩

theorem t_over (M : Mem) (hw : M.WF) (b n c : Nat) (ex : Option Nat) (cs : List AV) (hg : M.get b = some (.cells cs true)) (hn : n ≤ cs.length) (hl : cs.length ≤ 1000000)
    (hex : (ex = none ∧ n < c ∧ n < cs.length) ∨ (ex = some 1 ∧ n = c ∧ 0 < n ∧ n = cs.length)) :
    CallA tb.P 18 [.sl b 0 n c ex] M fun y N => Over M N (.sl b 0 n c ex) := by
  have hblt := hw _ _ hg
  refine F18_ok ?_
  unfold F18
  refine ⟨fun z q P => ∃ i : Nat, z = i ∧ q = n - i ∧ i ≤ n ∧ P.WF ∧ P.next = M.next ∧ (∃ cs', P.get b = some (.cells cs' true) ∧ cs'.length = cs.length) ∧ ∀ d, d ≠ b → P.get d = M.get d, ⟨n, 0, rfl, rfl, Nat.zero_le _, hw, rfl, ⟨cs, hg, rfl⟩, fun d _ => rfl⟩, ?_⟩
  rintro _ z q P ⟨i, rfl, rfl, hi, hPw, hPn, ⟨cs', hg', hcl⟩, hold⟩
  have hlen : evLenCap tb false 23 (.sl b 0 n c ex) P = some n := by
    unfold evLenCap
    rw [ty23]
    rfl
  refine bindO_i (eLen_some hlen) ?_
  simp only [zI_int]
  refine condB_i (fun hlt => ?_) (fun hge => ?_)
  · have hlt : i < n := by simpa using hlt
    have hia : evIndexAddr tb 23 (.sl b 0 n c ex) (.val (.int .i64 (i : Int))) = some (.ptr b i) := by
      unfold evIndexAddr
      rw [ty23]
      have h0 : decide (0 ≤ (i : Int)) = true := by simp
      simp only [ty5, Int.toNat_natCast, blt_of hlt, cond_true, h0, Nat.mul_one, Nat.zero_add]
    refine bindO_i (eIA_some hia) ?_
    simp only [zP_ptr]
    refine bindO_i (eSt_some (st_cell ty5 rfl rfl hg' (by omega))) ?_
    refine ⟨n - (i + 1), by omega, i + 1, iInc (by omega), rfl, hlt, hPw.put (by omega) _, hPn, ⟨_, by
      show (P.put b _).get b = _
      rw [Mem.get_put, if_pos rfl], by simpa using hcl⟩, fun d hd => by
      show (P.put b _).get d = _
      rw [Mem.get_put, if_neg hd]; exact hold d hd⟩
  · refine letP_i fun P1 hP1 => ?_
    subst hP1
    have hs : BytesAt (P.new (.cells [bv8 238#8] true)) (.sl P.next 0 1 1 none) [238#8] := bytes_one (by rw [Mem.get_new, if_pos rfl])
    have hg1 : (P.new (.cells [bv8 238#8] true)).get b = some (.cells cs' true) := by rw [Mem.get_new, if_neg (by omega)]; exact hg'
    rcases hex with ⟨rfl, h1, h2⟩ | ⟨rfl, rfl, h1, h2⟩
    · have hap := append_fits (T := tb) (k := 1) ty23 rfl ty5 rfl (b := b) (o := 0) (len := n) (cap := c) (ex := none) (cs := cs') (us := bvs [238#8]) (m := 1) hs (by omega) (bvs_one _) (by omega) hg1 (by omega)
      refine bindO_i (show evAppend tb 23 23 (.sl b 0 n c none) (.sl P.next 0 1 1 none) (P.new (.cells [.val (.int .u8 238)] true)) = some (_, _) from hap) ?_
      refine ⟨(hPw.new _).put (by show b < P.next + 1; omega) _, by show M.next ≤ P.next + 1; omega, fun d hd hne => ?_⟩
      have hdb : d ≠ b := fun h => hne h.symm
      rw [Mem.get_put, if_neg hdb, Mem.get_new, if_neg (by omega)]
      exact hold d hdb
    · have hgr : Grown 1 (P.new (.cells [bv8 238#8] true)) (.sl b 0 n n (some 1)) n cs' b := ⟨rfl, h1, by omega, hg1⟩
      obtain ⟨N, hap, rfl⟩ := append_grown (T := tb) (k := 1) ty23 rfl ty5 rfl hgr hs (by simp) (bvs_one _) ⟨by simp only [List.length_cons, List.length_nil]; omega, by simp only [List.length_cons, List.length_nil]; omega⟩
      refine bindO_i (show evAppend tb 23 23 (.sl b 0 n n (some 1)) (.sl P.next 0 1 1 none) (P.new (.cells [.val (.int .u8 238)] true)) = some (_, _) from hap) ?_
      refine ⟨((hPw.new _).kill _).new _, by show M.next ≤ P.next + 1 + 1; omega, fun d hd hne => ?_⟩
      have hdb : d ≠ b := fun h => hne h.symm
      rw [Mem.get_new, if_neg (by show d ≠ P.next + 1; omega), Mem.get_kill, if_neg hdb, Mem.get_new, if_neg (by omega)]
      exact hold d hdb

theorem over_gr (M : Mem) (hw : M.WF) (x : AV) (l : List (BitVec 8)) (hx : Gr M x l) (hl : l.length ≤ 1000000) : CallA tb.P 18 [x] M fun y N => Over M N x := by
  rcases hx with ⟨rfl, _⟩ | ⟨b, rfl, h1, h2, h3⟩
  · exact over_nil M hw
  · exact t_over M hw b l.length l.length (some 1) (bvs l) h3 (by simp) (by simpa using hl) (.inr ⟨rfl, rfl, h1, by simp⟩)

theorem over_lent (M : Mem) (hw : M.WF) (b : Nat) (l : List (BitVec 8)) (hg : M.get b = some (.cells (lent l) true)) (hl : l.length ≤ 1000) : CallA tb.P 18 [.sl b 0 l.length (l.length + 3) none] M fun y N => Over M N (.sl b 0 l.length (l.length + 3) none) :=
  t_over M hw b l.length (l.length + 3) none (lent l) hg (by rw [lent_length]; omega) (by rw [lent_length]; omega) (.inl ⟨rfl, by omega, by rw [lent_length]; omega⟩)

end Go.Proofs.YtfkkmhadipfobaaGreat

/- A chip with one fault that comes later: blocks that it has not, and the one that it has. -/
set_option maxRecDepth 100000
namespace Go.Proofs.YtfkkmhadipfobaaGreat
open Go.AM

/-- Powered, no cut waits, one fault on block i. -/
structure Fx (C : Chip) (g : Geo) (i a : Nat) : Prop where
  g : C.g = g
  fs : C.fs = [⟨(i : Int), false, (a : Int)⟩]
  off : C.off = false
  turn : C.turn = 0
/-- What is known of a block: what it did, too. -/
def BlkD (C : Chip) (i : Nat) (l : List (BitVec 8)) (nx wr : Int) (dn : Nat) : Prop := ∃ B, C.bs[i]? = some B ∧ B.by' = l ∧ B.next = nx ∧ B.wear = wr ∧ B.done = (dn : Int)

section
variable {C : Chip} {g : Geo} {i a : Nat} {l : List (BitVec 8)} {nx wr : Int} {dn : Nat}

theorem Fx.bg (h : Fx C g i a) : bgn C = false ∧ Fx (bgC C) g i a ∧ (bgC C).bs = C.bs := by
  have h1 : bgn C = false := by unfold bgn; rw [h.turn]; rfl
  have h2 : bgC C = { C with ops := iAdd .i64 C.ops 1 } := by unfold bgC; rw [h1]; rfl
  rw [h2]
  exact ⟨h1, ⟨h.g, h.fs, h.off, h.turn⟩, rfl⟩

theorem Fx.askd (h : Fx C g i a) {b k : Int} : Go.Proofs.YtfkkmhadipfobaaGreat.askd C b k = if isG g b k = true then 0 else 2 := by
  unfold Go.Proofs.YtfkkmhadipfobaaGreat.askd
  rw [h.off, h.g]; rfl

theorem Fx.fails (h : Fx C g i a) (dn : Nat) : failsF C.fs (i : Int) dn = decide (a ≤ dn) := by
  rw [h.fs]
  unfold failsF findF
  simp only [List.find?, beq_self_eq_true]
  rw [decide_eq_decide]; omega
theorem Fx.bad (h : Fx C g i a) (b : Int) : badF C.fs b = false := by
  rw [h.fs]
  unfold badF findF
  simp only [List.find?]
  cases hb : (((i : Nat) : Int) == b) <;> simp

theorem Fx.failed (h : Fx C g i a) (hb : BlkD C i l nx wr dn) : Go.Proofs.YtfkkmhadipfobaaGreat.failed C (i : Int) = decide (a ≤ dn) := by
  obtain ⟨B, hB, _, _, _, hd⟩ := hb
  unfold Go.Proofs.YtfkkmhadipfobaaGreat.failed
  rw [Int.toNat_natCast, hB, decide_eq_true (by omega), Bool.true_and]
  simp only [hd, h.fails]

theorem blkD_bs {C C' : Chip} (e : C'.bs = C.bs) {k : Nat} {l : List (BitVec 8)} {nx wr : Int} {dn : Nat} (h : BlkD C k l nx wr dn) : BlkD C' k l nx wr dn := by
  unfold BlkD at *; rw [e]; exact h
/-- A page is read. -/
theorem Fx.rd (h : Fx C g i a) (hb : BlkD C i l nx wr dn) {j : Nat} (hp : isG g i j = true) :
    rdE C i j = 0 ∧ rdB C i j = (l.drop (j * rawN g)).take (rawN g) ∧ Fx (rdC C i j) g i a ∧ BlkD (rdC C i j) i l nx wr dn := by
  obtain ⟨h1, h2, h3⟩ := h.bg
  have e : rdE C i j = 0 := by
    unfold rdE
    rw [h.askd, if_pos hp, if_pos rfl, h1]; rfl
  have e2 : rdC C i j = bgC C := by
    unfold rdC
    rw [h.askd, if_pos hp, if_pos rfl]
  refine ⟨e, ?_, by rw [e2]; exact h2, by rw [e2]; exact blkD_bs h3 hb⟩
  obtain ⟨B, hB, hl, _⟩ := hb
  unfold rdB pageB
  rw [if_pos e, Int.toNat_natCast, Int.toNat_natCast, hB]
  simp only [hl, h.g]

end

end Go.Proofs.YtfkkmhadipfobaaGreat

/- Acts; what acts on other blocks leave. -/
set_option maxRecDepth 100000
namespace Go.Proofs.YtfkkmhadipfobaaGreat
open Go.AM
open Go.ChangeShapes Go.WideShapes Go.RowKit

structure Act where
  do' : Int
  b : Int
  k : Int
  n : BitVec 8
  len : Int
  op : Int
  by' : Int
  f : BitVec 8
/-- A block that others leave alone. -/
structure Wx (C : Chip) (g : Geo) (i : Nat) (l : List (BitVec 8)) (nx wr : Int) (o : Nat) : Prop where
  g : C.g = g
  fs : C.fs = []
  blk : BlkIs C i l nx wr
  o0 : 0 ≤ C.ops
  o1 : C.ops ≤ (o : Int)

section
variable {C : Chip} {g : Geo} {i : Nat} {l : List (BitVec 8)} {nx wr : Int} {o : Nat}

theorem Wx.mono {o' : Nat} (h : Wx C g i l nx wr o) (ho : o ≤ o') : Wx C g i l nx wr o' := ⟨h.g, h.fs, h.blk, h.o0, by have := h.o1; omega⟩
theorem Wx.bg (h : Wx C g i l nx wr o) (ho : o ≤ 1000000) : Wx (bgC C) g i l nx wr (o + 1) ∧ (bgC C).bs = C.bs := by
  have h0 := h.o0
  have h1 := h.o1
  have e : iAdd .i64 C.ops 1 = C.ops + 1 := by rw [iAdd, wrap_i64' (by omega) (by omega)]
  unfold bgC
  split
  · exact ⟨⟨h.g, h.fs, h.blk, by show 0 ≤ iAdd .i64 C.ops 1; rw [e]; omega, by show iAdd .i64 C.ops 1 ≤ _; rw [e]; omega⟩, rfl⟩
  · exact ⟨⟨h.g, h.fs, h.blk, by show 0 ≤ iAdd .i64 C.ops 1; rw [e]; omega, by show iAdd .i64 C.ops 1 ≤ _; rw [e]; omega⟩, rfl⟩
theorem Wx.up (h : Wx C g i l nx wr o) {k : Nat} (hk : i ≠ k) (B : Blk) : Wx (C.upB k B) g i l nx wr o := ⟨h.g, h.fs, blk_other hk B h.blk, h.o0, h.o1⟩

theorem askd_nn {C : Chip} {b k : Int} (h : askd C b k = 0) : 0 ≤ b := (isG_iff.1 (askd_zero h).2).1.1

theorem Wx.pg (h : Wx C g i l nx wr o) (ho : o ≤ 1000000) {b : Int} (hb : b ≠ (i : Int)) (k : Int) (d : List (BitVec 8)) : Wx (pgR C b k d).1 g i l nx wr (o + 1) := by
  obtain ⟨h1, _⟩ := h.bg ho
  unfold pgR
  split
  · rename_i ha
    have hn := askd_nn ha
    have hbi : i ≠ b.toNat := by omega
    split
    · unfold pgS
      split
      · exact h1
      · split
        · exact h1
        · split
          · exact h1
          · split
            · exact h1.up hbi _
            · exact h1.up hbi _
    · exact h.mono (by omega)
  · exact h.mono (by omega)

end

/-- Powered; a cut that waits far off. -/
structure Rx (C : Chip) (g : Geo) (i : Nat) (l : List (BitVec 8)) (nx wr : Int) (o t : Nat) : Prop where
  g : C.g = g
  fs : C.fs = []
  off : C.off = false
  blk : BlkIs C i l nx wr
  ops : C.ops = (o : Int)
  turn : C.turn = (t : Int)

theorem Rx.rd {C : Chip} {g : Geo} {i : Nat} {l : List (BitVec 8)} {nx wr : Int} {o t : Nat} (h : Rx C g i l nx wr o t) (ho : o ≤ 1000000) (hn : o + 1 ≠ t) {j : Nat} (hp : isG g i j = true) :
    rdE C i j = 0 ∧ rdB C i j = (l.drop (j * rawN g)).take (rawN g) ∧ Rx (rdC C i j) g i l nx wr (o + 1) t := by
  have h1 : bgn C = false := by
    unfold bgn
    rw [h.turn, h.ops, inc1 ho]
    have h2 : (((o + 1 : Nat) : Int) != (t : Int)) = true := by rw [bne_iff_ne]; omega
    rw [h2]; simp
  have h2 : bgC C = { C with ops := ((o + 1 : Nat) : Int) } := by unfold bgC; rw [h1, h.ops, inc1 ho]; rfl
  have hask : askd C i j = 0 := by
    unfold askd
    rw [h.off, h.g, hp]; rfl
  have e : rdE C i j = 0 := by
    unfold rdE
    rw [hask, if_pos rfl, h1]; rfl
  refine ⟨e, ?_, ?_⟩
  · obtain ⟨B, hB, hl, _⟩ := h.blk
    unfold rdB pageB
    rw [if_pos e, Int.toNat_natCast, Int.toNat_natCast, hB]
    simp only [hl, h.g]
  · unfold rdC
    rw [hask, if_pos rfl, h2]
    exact ⟨h.g, h.fs, h.off, h.blk, rfl, h.turn⟩

end Go.Proofs.YtfkkmhadipfobaaGreat

/- The chip and the document's, side by side; an act of both. -/
set_option maxRecDepth 100000
namespace Go.Proofs.YtfkkmhadipfobaaGreat
open Go.AM

theorem DocAt.keepS {M N : Mem} {p : Nat} {S : DocS} {T : List Nat} (h : DocAt M p S) (hw : M.WF) (hk : Keep M N T) (h1 : ∀ c ∈ own p S, c ∉ T) (h2 : ∀ c, inBlk S.d.fsA c → c ∉ T) (h3 : ∀ q ∈ S.pg, ∀ c, inBlk q.1 c → c ∉ T) : DocAt N p S :=
  ⟨hk.get hw h.main (h1 _ (by simp [own])), SlAt.keep h.flt hw hk h2, h.pgA, h.nxA, h.wrA, h.dnA, hk.get hw h.pgs (h1 _ (by simp [own])), hk.get hw h.nxs (h1 _ (by simp [own])), hk.get hw h.wrs (h1 _ (by simp [own])), hk.get hw h.dns (h1 _ (by simp [own])),
    fun q hq => ⟨SlAt.keep (h.byt q hq).1 hw hk (h3 q hq), (h.byt q hq).2⟩, h.nd, h.fsx, h.fsl, h.may, h.pgl, h.nxl, h.wrl, h.dnl, h.raw, h.cby0⟩

theorem DocAt.lt {M : Mem} {p : Nat} {S : DocS} (h : DocAt M p S) (hw : M.WF) : ∀ c ∈ own p S, c < M.next := fun c hc => by
  simp only [own, List.mem_cons, List.not_mem_nil, or_false] at hc
  rcases hc with rfl | rfl | rfl | rfl | rfl
  · exact hw _ _ h.main
  · exact hw _ _ h.pgs
  · exact hw _ _ h.nxs
  · exact hw _ _ h.wrs
  · exact hw _ _ h.dns

/-- A chip, the document's chip, and what a law keeps beside them: 'F' where the chip begins, 'B' where the document's does, 'X' the law's own blocks behind that. -/
structure Both (M : Mem) (p : Nat) (C : Chip) (r : Nat) (S : DocS) (F B : Nat) (X : List Nat) : Prop where
  c : ChipAt M p C
  d : DocAt M r S
  wf : M.WF
  fb : F ≤ B
  nxt : B ≤ M.next
  cr : ∀ c ∈ foot p C, F ≤ c ∧ c < B
  cs : ∀ c, inBlk C.fsA c → F ≤ c ∧ c < B
  dr : ∀ c ∈ own r S, B ≤ c ∧ c ∉ X
  ds : ∀ c, inBlk S.d.fsA c → B ≤ c ∧ c ∉ X
  dp : ∀ q ∈ S.pg, ∀ c, inBlk q.1 c → B ≤ c ∧ c ∉ X
  xr : ∀ x ∈ X, B ≤ x ∧ x < M.next

/-- What a law keeps stays. -/
def Fr (M N : Mem) (F : Nat) (X : List Nat) : Prop := ∀ c row, (c < F ∨ c ∈ X) → M.get c = some row → N.get c = some row
theorem Fr.refl {M : Mem} {F : Nat} {X : List Nat} : Fr M M F X := fun _ _ _ h => h
theorem Fr.trans {M N P : Mem} {F : Nat} {X : List Nat} (h : Fr M N F X) (k : Fr N P F X) : Fr M P F X := fun c r hc hg => k c r hc (h c r hc hg)
theorem Fr.mono {M N : Mem} {F : Nat} {X Y : List Nat} (h : Fr M N F X) (hy : ∀ c ∈ Y, c ∈ X) : Fr M N F Y := fun c r hc hg => h c r (hc.imp id (hy c)) hg
theorem Fr.keep {M N : Mem} {F : Nat} {X : List Nat} (hw : M.WF) (k : Keep M N []) : Fr M N F X := fun c r _ hg => k.get hw hg (by simp)

section
variable {M N : Mem} {p : Nat} {C C' : Chip} {r : Nat} {S S' : DocS} {F B : Nat} {X : List Nat}

theorem Both.keep (h : Both M p C r S F B X) (k : Keep M N []) : Both N p C r S F B X :=
  ⟨h.c.keep h.wf k, h.d.keep h.wf k, k.wf, h.fb, Nat.le_trans h.nxt k.nxt, h.cr, h.cs, h.dr, h.ds, h.dp, fun x hx => ⟨(h.xr x hx).1, Nat.lt_of_lt_of_le (h.xr x hx).2 k.nxt⟩⟩

theorem Both.drop {Y : List Nat} (h : Both M p C r S F B X) (hy : ∀ c ∈ Y, c ∈ X) : Both M p C r S F B Y :=
  ⟨h.c, h.d, h.wf, h.fb, h.nxt, h.cr, h.cs, fun c hc => ⟨(h.dr c hc).1, fun hm => (h.dr c hc).2 (hy c hm)⟩, fun c hc => ⟨(h.ds c hc).1, fun hm => (h.ds c hc).2 (hy c hm)⟩, fun q hq c hc => ⟨(h.dp q hq c hc).1, fun hm => (h.dp q hq c hc).2 (hy c hm)⟩, fun x hx => h.xr x (hy x hx)⟩

end

end Go.Proofs.YtfkkmhadipfobaaGreat

/- A page as it is looked at: by leaf, and by the document. -/
set_option maxRecDepth 100000
namespace Go.Proofs.YtfkkmhadipfobaaGreat
open Go.AM

structure Tg where
  k : Int
  p : Int
  s : Int
  e : Int
def tgA (t : Tg) : AV := tagA t.k t.p t.s t.e
def tgC (t : Tg) : List AV := [i64 t.k, i64 t.p, i64 t.s, i64 t.e]
def tg0 : Tg := ⟨0, 0, 0, 0⟩
def tgOf (l : List (BitVec 8)) : Tg := ⟨fK (l.drop (l.length - 16)), fP (l.drop (l.length - 16)), fS (l.drop (l.length - 16)), fE (l.drop (l.length - 16))⟩
/-- What a page that answered 'e', 'l' holds: its tag, its data, its state. -/
def lkT (e : Int) (l : List (BitVec 8)) : Tg := if e = 0 ∧ state l = 1 then tgOf l else tg0
def lkD (e : Int) (l : List (BitVec 8)) : List (BitVec 8) := if e = 0 ∧ state l = 1 then l.take (l.length - 16) else []
def lkS (e : Int) (l : List (BitVec 8)) : Int := if e = 0 then (state l : Int) else 0
def ldE (e : Int) (l : List (BitVec 8)) : Int := if e = 0 then (if state l = 1 then 0 else 5) else e

theorem tg_st {N : Mem} {b : Nat} {cs : List AV} (t : Tg) (hg : N.get b = some (.cells cs true)) (hl : cs.length = 4) : eSt tb 64 (.ptr b 0) (tgA t) N = some (undefA, N.put b (.cells (tgC t) true)) := by
  obtain ⟨k, p, s, e⟩ := t
  exact eSt_some (st_tag k p s e hg hl)
theorem tg_ld {N : Mem} {b : Nat} {t : Tg} (hg : N.get b = some (.cells (tgC t) true)) : evLoad tb 64 (.ptr b 0) N = some (tgA t) := (tag_ld hg).2.2.2.2
theorem tg_res4 {N : Mem} {b : Nat} {t : Tg} {x y z : AV} (hg : N.get b = some (.cells (tgC t) true)) : eRes tb [.v x, .c 64 (.ptr b 0), .v y, .v z] N = some (.tup [x, tgA t, y, z]) := by
  have la := tg_ld hg
  unfold eRes resC resC resC resC resC
  simp only [la, Option.map_some]
theorem tg_res3 {N : Mem} {b : Nat} {t : Tg} {x y : AV} (hg : N.get b = some (.cells (tgC t) true)) : eRes tb [.v x, .c 64 (.ptr b 0), .v y] N = some (.tup [x, tgA t, y]) := by
  have la := tg_ld hg
  unfold eRes resC resC resC resC
  simp only [la, Option.map_some]

theorem rdB_len {M : Mem} {p : Nat} {C : Chip} (h : ChipAt M p C) (b k : Int) : (rdB C b k).length ≤ 80 := by
  have hm := mayG_iff.1 h.may
  unfold rdB
  split
  · split
    · unfold pageB
      rw [List.length_take]
      unfold rawN; omega
    · simp
  · simp

/-- A new block written once more. -/
theorem keep_put_new {M N : Mem} (k : Keep M N []) {b : Nat} (h1 : M.next ≤ b) (h2 : b < N.next) (row : Row) : Keep M (N.put b row) [] :=
  ⟨k.wf.put h2 _, k.nxt, fun c hc _ => by rw [Mem.get_put, if_neg (by omega)]; exact k.old c hc (by simp)⟩
theorem step_put_new {M N : Mem} {p : Nat} {C C' : Chip} (s : Step M N p C C') (hw : M.WF) (h : ChipAt M p C) {b : Nat} (h1 : M.next ≤ b) (h2 : b < N.next) (row : Row) : Step M (N.put b row) p C C' := by
  have k : Keep N (N.put b row) [b] := Keep.put s.wf h2 row
  have hf : ∀ c ∈ [b], c ∉ foot p C' ∧ ¬ inBlk C'.fsA c := fun c hc => by
    simp only [List.mem_singleton] at hc
    subst hc
    refine ⟨fun hm => ?_, fun hm => ?_⟩
    · rw [s.foot] at hm
      have := h.lt hw _ hm; omega
    · rw [s.fsA] at hm
      have := SlAt.blk_lt h.flt hw hm; omega
  refine ⟨s.at'.keepS s.wf k hf, ⟨k.wf, Nat.le_trans s.keep.nxt k.nxt, fun c hc hn => ?_⟩, s.foot, s.fsA, s.fs, s.g⟩
  rw [Mem.get_put, if_neg (by omega)]
  exact s.keep.old c hc hn

theorem c_look (M : Mem) (hw : M.WF) (p : Nat) (C : Chip) (h : ChipAt M p C) (b k : Int) :
    CallA tb.P 51 [.ptr p 0, placeA b k] M fun y N => ∃ u, y = .tup [u, tgA (lkT (rdE C b k) (rdB C b k)), i64 (lkS (rdE C b k) (rdB C b k)), i64 (rdE C b k)] ∧ Gr N u (lkD (rdE C b k) (rdB C b k)) ∧ (∀ c, inBlk u c → M.next ≤ c) ∧ Step M N p C (rdC C b k) := by
  refine F51_ok ?_
  unfold F51
  refine ⟨_, _, rfl, ?_⟩
  refine letP_i fun M3 hM3 => ?_
  have hM3' : M3 = M.new (.cells [i64 b, i64 k] true) := hM3
  have hk3 : Keep M M3 [] := by rw [hM3']; exact Keep.new hw _
  have hpl3 : M3.get M.next = some (.cells [i64 b, i64 k] true) := by rw [hM3']; exact get_new _ _
  clear hM3 hM3'
  refine letP_i fun M4 hM4 => ?_
  have hM4' : M4 = M3.new (.cells (tgC tg0) true) := hM4
  have hk4 : Keep M3 M4 [] := by rw [hM4']; exact Keep.new hk3.wf _
  have hb4 : M4.get M3.next = some (.cells (tgC tg0) true) := by rw [hM4']; exact get_new _ _
  clear hM4 hM4'
  have hK4 := hk3.trans0 hk4
  have h4 := h.keep hw hK4
  have hpl4 := hk4.get hk3.wf hpl3 (by simp)
  obtain ⟨_, _, l2⟩ := place_ld hpl4
  refine bindO_i (eLd_some l2) ?_
  refine ⟨_, _, rfl, ?_⟩
  refine (c_read M4 hK4.wf p C h4 b k).mono ?_
  rintro y M9 ⟨u, rfl, hu, hfu, s9⟩
  refine ⟨u, _, rfl, ?_⟩
  have hbM : M.next ≤ M3.next := hk3.nxt
  have hb3 : M3.next < M4.next := hk4.wf _ _ hb4
  have hb9 : M9.get M3.next = some (.cells (tgC tg0) true) := step_get s9 hK4.wf hb4 (fun hm => by have := h.lt hw _ hm; omega)
  have hn9 : M3.next < M9.next := Nat.lt_of_lt_of_le hb3 s9.keep.nxt
  have s9M : Step M M9 p C (rdC C b k) := s9.pre hK4
  have hlen := rdB_len h b k
  refine condB_i (fun q => ?_) (fun q => ?_)
  · have q : ¬ rdE C b k = 0 := by simpa using q
    refine bindO_i (tg_st tg0 hb9 rfl) ?_
    refine bindO_i (tg_res4 (t := tg0) (by rw [Mem.get_put, if_pos rfl])) ?_
    have e1 : lkT (rdE C b k) (rdB C b k) = tg0 := by unfold lkT; rw [if_neg (fun hh => q hh.1)]
    have e2 : lkS (rdE C b k) (rdB C b k) = 0 := by unfold lkS; rw [if_neg q]
    have e3 : lkD (rdE C b k) (rdB C b k) = [] := by unfold lkD; rw [if_neg (fun hh => q hh.1)]
    rw [e1, e2, e3]
    exact ⟨.val (.slice none 0 0), rfl, .inl ⟨rfl, rfl⟩, fun c hc => hc.elim, step_put_new s9M hw h hbM hn9 _⟩
  have q : rdE C b k = 0 := by simpa using q
  rw [q]
  generalize rdB C b k = l at *
  have h9 := s9.at'
  refine (t_read M9 s9.wf u l hu.at (by omega)).mono ?_
  rintro y M15 ⟨hk15, hres⟩
  have fin : ∀ (x : AV) (t : Tg) (st : Int), y = .tup [x, tgA t, i64 st] → Gr M15 x (lkD 0 l) → (∀ c, inBlk x c → M9.next ≤ c) → lkT 0 l = t → lkS 0 l = st →
      (∃ (x16 : AV) (z17 z18 z19 z20 z21 : Int), y = .tup [x16, .agg [.val (.int .i64 z17), .val (.int .i64 z18), .val (.int .i64 z19), .val (.int .i64 z20)], .val (.int .i64 z21)] ∧
        letP (M15.new (.cells [.val (.int .i64 0), .val (.int .i64 0), .val (.int .i64 0), .val (.int .i64 0)] true)) fun M22 =>
        bindO (eSt tb 64 (.ptr M15.next 0) (.agg [.val (.int .i64 z17), .val (.int .i64 z18), .val (.int .i64 z19), .val (.int .i64 z20)]) M22) fun y23 =>
        bindO (eLd tb 64 (.ptr M15.next 0) y23.2) fun y24 => ∃ z25 z26 z27 z28, y24.1 = .agg [.val (.int .i64 z25), .val (.int .i64 z26), .val (.int .i64 z27), .val (.int .i64 z28)] ∧
        bindO (eSt tb 64 (.ptr M3.next 0) (.agg [.val (.int .i64 z25), .val (.int .i64 z26), .val (.int .i64 z27), .val (.int .i64 z28)]) y23.2) fun y29 =>
        bindO (eRes tb [.v x16, .c 64 (.ptr M3.next 0), .v (.val (.int .i64 z21)), .v (.val (.int .i64 0))] y29.2) fun x30 =>
          ∃ u, x30 = .tup [u, tgA (lkT 0 l), i64 (lkS 0 l), i64 0] ∧ Gr y29.2 u (lkD 0 l) ∧ (∀ c, inBlk u c → M.next ≤ c) ∧ Step M y29.2 p C (rdC C b k)) := by
    intro x t st hy hx hfx ht hst
    refine ⟨x, t.k, t.p, t.s, t.e, st, hy, ?_⟩
    refine letP_i fun M22 hM22 => ?_
    subst hM22
    have hg := get_new M15 (.cells [.val (.int .i64 0), .val (.int .i64 0), .val (.int .i64 0), .val (.int .i64 0)] true)
    refine bindO_i (tg_st t hg rfl) ?_
    rw [Mem.new_put]
    have hk22 := Keep.new hk15.wf (.cells (tgC t) true)
    have hg22 := get_new M15 (.cells (tgC t) true)
    have hb22 := hk22.get hk15.wf (hk15.get s9.wf hb9 (by simp)) (by simp)
    generalize M15.new (.cells (tgC t) true) = M23 at hk22 hg22 hb22 ⊢
    refine bindO_i (eLd_some (tg_ld hg22)) ?_
    refine ⟨_, _, _, _, rfl, ?_⟩
    refine bindO_i (tg_st t hb22 rfl) ?_
    refine bindO_i (tg_res4 (t := t) (by rw [Mem.get_put, if_pos rfl])) ?_
    have s23 : Step M M23 p C (rdC C b k) := s9M.post (hk15.trans0 hk22)
    have hn : M3.next < M23.next := hk22.wf _ _ hb22
    have hx23 : Gr M23 x (lkD 0 l) := hx.mono fun c row _ hr => hk22.get hk15.wf hr (by simp)
    refine ⟨x, by rw [ht, hst]; rfl, hx23.mono fun c row hc hr => ?_, fun c hc => ?_, step_put_new s23 hw h hbM hn _⟩
    · have := hfx c hc
      rw [Mem.get_put, if_neg (by omega)]; exact hr
    · have := hfx c hc
      have := s9.keep.nxt
      have := hK4.nxt
      omega
  rcases hres with ⟨hst, x, rfl, hx, hfx⟩ | ⟨hst, rfl⟩
  · refine fin x (tgOf l) 1 rfl ?_ hfx ?_ ?_
    · unfold lkD; rw [if_pos ⟨rfl, hst⟩]; exact hx
    · unfold lkT; rw [if_pos ⟨rfl, hst⟩]
    · unfold lkS; rw [if_pos rfl, hst]; rfl
  · refine fin (.val (.slice none 0 0)) tg0 (state l) rfl ?_ (fun c hc => hc.elim) ?_ ?_
    · unfold lkD; rw [if_neg (fun hh => hst hh.2)]; exact .inl ⟨rfl, rfl⟩
    · unfold lkT; rw [if_neg (fun hh => hst hh.2)]
    · unfold lkS; rw [if_pos rfl]

end Go.Proofs.YtfkkmhadipfobaaGreat

/- State, Load: leaf's and the document's. -/
set_option maxRecDepth 100000
namespace Go.Proofs.YtfkkmhadipfobaaGreat
open Go.AM

theorem c_load (M : Mem) (hw : M.WF) (p : Nat) (C : Chip) (h : ChipAt M p C) (b k : Int) :
    CallA tb.P 30 [.ptr p 0, placeA b k] M fun y N => ∃ u, y = .tup [u, tgA (lkT (rdE C b k) (rdB C b k)), i64 (ldE (rdE C b k) (rdB C b k))] ∧ Gr N u (lkD (rdE C b k) (rdB C b k)) ∧ (∀ c, inBlk u c → M.next ≤ c) ∧ Step M N p C (rdC C b k) := by
  refine F30_ok ?_
  unfold F30
  refine ⟨_, _, rfl, ?_⟩
  refine letP_i fun M3 hM3 => ?_
  have hM3' : M3 = M.new (.cells [i64 b, i64 k] true) := hM3
  have hk3 : Keep M M3 [] := by rw [hM3']; exact Keep.new hw _
  have hpl3 : M3.get M.next = some (.cells [i64 b, i64 k] true) := by rw [hM3']; exact get_new _ _
  clear hM3 hM3'
  refine letP_i fun M4 hM4 => ?_
  have hM4' : M4 = M3.new (.cells (tgC tg0) true) := hM4
  have hk4 : Keep M3 M4 [] := by rw [hM4']; exact Keep.new hk3.wf _
  have hb4 : M4.get M3.next = some (.cells (tgC tg0) true) := by rw [hM4']; exact get_new _ _
  clear hM4 hM4'
  have hK4 := hk3.trans0 hk4
  have hpl4 := hk4.get hk3.wf hpl3 (by simp)
  have hbM : M.next ≤ M3.next := hk3.nxt
  have hb3 : M3.next < M4.next := hk4.wf _ _ hb4
  obtain ⟨_, _, l2⟩ := place_ld hpl4
  refine bindO_i (eLd_some l2) ?_
  refine ⟨_, _, rfl, ?_⟩
  refine (c_look M4 hK4.wf p C (h.keep hw hK4) b k).mono ?_
  rintro y M9 ⟨u, rfl, hu, hfu, s9⟩
  have hb9 : M9.get M3.next = some (.cells (tgC tg0) true) := step_get s9 hK4.wf hb4 (fun hm => by have := h.lt hw _ hm; omega)
  generalize hE : rdE C b k = e at *
  generalize hL : rdB C b k = l at *
  have s9M : Step M M9 p C (rdC C b k) := s9.pre hK4
  have htg : ¬ (e = 0 ∧ state l = 1) → lkT e l = tg0 ∧ lkD e l = [] := fun hn => by
    unfold lkT lkD
    rw [if_neg hn, if_neg hn]; exact ⟨rfl, rfl⟩
  refine ⟨u, (lkT e l).k, (lkT e l).p, (lkT e l).s, (lkT e l).e, _, _, rfl, ?_⟩
  refine letP_i fun M17 hM17 => ?_
  subst hM17
  refine bindO_i (tg_st (lkT e l) (get_new M9 _) rfl) ?_
  rw [Mem.new_put]
  have hk18 := Keep.new s9.wf (.cells (tgC (lkT e l)) true)
  have hg18 := get_new M9 (.cells (tgC (lkT e l)) true)
  generalize M9.new (.cells (tgC (lkT e l)) true) = M18 at hk18 hg18 ⊢
  have hb18 := hk18.get s9.wf hb9 (by simp)
  have s18 := s9M.post hk18
  have hn18 : M3.next < M18.next := hk18.wf _ _ hb18
  have hM9 : M.next ≤ M9.next := s9M.keep.nxt
  have none : ∀ z : Int, ¬ (e = 0 ∧ state l = 1) → ldE e l = z → bindO (eSt tb 64 (.ptr M3.next 0) (tgA tg0) M18) fun y19 => bindO (eRes tb [.v (.val (.slice none 0 0)), .c 64 (.ptr M3.next 0), .v (.val (.int .i64 z))] y19.2) fun x20 =>
      ∃ u, x20 = .tup [u, tgA (lkT e l), i64 (ldE e l)] ∧ Gr y19.2 u (lkD e l) ∧ (∀ c, inBlk u c → M.next ≤ c) ∧ Step M y19.2 p C (rdC C b k) := by
    intro z hn hz
    obtain ⟨h1, h2⟩ := htg hn
    refine bindO_i (tg_st tg0 hb18 rfl) ?_
    refine bindO_i (tg_res3 (t := tg0) (by rw [Mem.get_put, if_pos rfl])) ?_
    rw [h1, h2, hz]
    exact ⟨.val (.slice none 0 0), rfl, .inl ⟨rfl, rfl⟩, fun c hc => hc.elim, step_put_new s18 hw h hbM hn18 _⟩
  refine condB_i (fun q => ?_) (fun q => ?_)
  · have q : ¬ e = 0 := by simpa using q
    exact none e (fun hh => q hh.1) (by unfold ldE; rw [if_neg q])
  have q : e = 0 := by simpa using q
  subst q
  have hS : lkS 0 l = (state l : Int) := by unfold lkS; rw [if_pos rfl]
  refine condB_i (fun q => ?_) (fun q => ?_)
  · have q : ¬ state l = 1 := by
      rw [hS] at q
      intro e
      rw [e] at q; simp at q
    exact none 5 (fun hh => q hh.2) (by unfold ldE; rw [if_pos rfl, if_neg q])
  have q : state l = 1 := by
    rw [hS] at q
    have : ((state l : Nat) : Int) = 1 := by simpa using q
    omega
  refine bindO_i (eLd_some (tg_ld hg18)) ?_
  refine ⟨_, _, _, _, rfl, ?_⟩
  refine bindO_i (tg_st (lkT 0 l) hb18 rfl) ?_
  refine bindO_i (tg_res3 (t := lkT 0 l) (by rw [Mem.get_put, if_pos rfl])) ?_
  have hE0 : ldE 0 l = 0 := by unfold ldE; rw [if_pos rfl, if_pos q]
  rw [hE0]
  have hu18 : Gr M18 u (lkD 0 l) := hu.mono fun c row _ hr => hk18.get s9.wf hr (by simp)
  refine ⟨u, rfl, hu18.mono fun c row hc hr => ?_, fun c hc => ?_, step_put_new s18 hw h hbM hn18 _⟩
  · have := hfu c hc
    rw [Mem.get_put, if_neg (by omega)]; exact hr
  · have := hfu c hc
    have := hK4.nxt
    omega

end Go.Proofs.YtfkkmhadipfobaaGreat

/- What is told of both. -/
set_option maxRecDepth 100000
namespace Go.Proofs.YtfkkmhadipfobaaGreat
open Go.AM
theorem eqA_int (n : Nat) (a b : Int) : eqA tb (n + 1) 3 (i64 a) (i64 b) = some (a == b) := by
  unfold eqA
  rw [ty3]
  rfl
theorem geo_st {M : Mem} {b : Nat} {cs : List AV} (g : Geo) (hg : M.get b = some (.cells cs true)) (hl : cs.length = 5) : eSt tb 40 (.ptr b 0) (geoA g) M = some (undefA, M.put b (.cells (geoC g) true)) :=
  eSt_some (st_all ty40 rfl hg hl (by intro v hv; simp only [geoC, List.mem_cons, List.not_mem_nil, or_false] at hv; rcases hv with rfl | rfl | rfl | rfl | rfl <;> rfl))
theorem geo_res {M : Mem} {b : Nat} {g : Geo} (hg : M.get b = some (.cells (geoC g) true)) : eRes tb [.c 40 (.ptr b 0)] M = some (geoA g) := by
  have l := (geo_ld hg).2.2.2.2.2
  unfold eRes resC resC
  simp only [l, Option.map_some]

theorem c_geo (M : Mem) (hw : M.WF) (p : Nat) (C : Chip) (h : ChipAt M p C) : CallA tb.P 27 [.ptr p 0] M fun y N => y = geoA C.g ∧ Keep M N [] := by
  refine F27_ok ?_
  unfold F27
  refine letP_i fun M1 hM1 => ?_
  subst hM1
  have hK := Keep.new hw (.cells [i64 0, i64 0, i64 0, i64 0, i64 0] true)
  have hg := get_new M (.cells [i64 0, i64 0, i64 0, i64 0, i64 0] true)
  have h1 := h.keep hw hK
  have lg := ld_g h1
  simp only [i64] at lg h1 hg hK
  simp only [nil_eq, bindO_some, zB_bool, condB_false, eNil_ptr, fa0, zP_ptr, lg]
  refine ⟨_, _, _, _, _, rfl, ?_⟩
  refine bindO_i (geo_st C.g hg rfl) ?_
  refine bindO_i (geo_res (g := C.g) (by rw [Mem.get_put, if_pos rfl])) ?_
  refine ⟨by trivial, ?_⟩
  rw [Mem.new_put]
  exact Keep.new hw _

end Go.Proofs.YtfkkmhadipfobaaGreat

/- Places, one behind the other; leaf goes over a chip. -/
set_option maxRecDepth 100000
namespace Go.Proofs.YtfkkmhadipfobaaGreat
open Go.AM

theorem c_numberV (M : Mem) (hw : M.WF) (g : Geo) (h : mayG g = true) (b p : Int) (hi : isG g b p = true) : CallA tb.P 48 [geoA g, placeA b p] M fun y N => y = i64 (b * g.pg + p) ∧ Keep M N [] := by
  refine F48_ok ?_
  unfold F48
  refine ⟨_, _, _, _, _, rfl, _, _, rfl, ?_⟩
  simp only [letP_eq]
  have hg := get_new M (.cells (geoC g) true)
  have hK := Keep.new hw (.cells (geoC g) true)
  have hK2 := Keep.new hK.wf (.cells [i64 b, i64 p] true)
  have hg2 := hK2.get hK.wf hg (by simp)
  have hp2 := get_new (M.new (.cells (geoC g) true)) (.cells [i64 b, i64 p] true)
  obtain ⟨l0, l1, l2, l3, l4, l5⟩ := geo_ld hg2
  refine bindO_i (eLd_some l5) ?_
  refine ⟨_, _, _, _, _, rfl, ?_⟩
  refine (c_may102 _ hK2.wf g).mono ?_
  rintro y N ⟨rfl, hk⟩
  simp only [zB_bool, h]
  refine condB_i (fun h => by simp at h) (fun _ => ?_)
  have hgN := hk.get hK2.wf hg2 (by simp)
  have hpN := hk.get hK2.wf hp2 (by simp)
  obtain ⟨_, _, _, _, _, k5⟩ := geo_ld hgN
  obtain ⟨_, _, p2⟩ := place_ld hpN
  refine bindO_i (eLd_some k5) ?_
  refine ⟨_, _, _, _, _, rfl, ?_⟩
  refine bindO_i (eLd_some p2) ?_
  refine ⟨_, _, rfl, ?_⟩
  refine (c_is _ hk.wf g h b p).mono ?_
  rintro y N' ⟨rfl, hk'⟩
  simp only [zB_bool]
  have hall := hK.trans0 (hK2.trans0 (hk.trans0 hk'))
  refine condB_i (fun hi' => by rw [hi] at hi'; cases hi') (fun _ => ?_)
  obtain ⟨_, k1, _⟩ := geo_ld (hk'.get hk.wf hgN (by simp))
  obtain ⟨p0, p1, _⟩ := place_ld (hk'.get hk.wf hpN (by simp))
  refine bindO_i (eLd_some p0) ?_
  simp only [i64, zI_int]
  refine bindO_i (eLd_some k1) ?_
  simp only [i64, zI_int]
  refine bindO_i (eLd_some p1) ?_
  simp only [i64, zI_int]
  have hm := mayG_iff.1 h
  have hi2 := isG_iff.1 hi
  have hb := mul_bnd (a := b) (b := g.pg) (by omega) (by omega) (by omega) (by omega)
  have hn : 0 ≤ b * g.pg := Int.mul_nonneg (by omega) (by omega)
  rw [iMul, wrap_i64' (n := b * g.pg) (by omega) (by omega), iAdd, wrap_i64' (by omega) (by omega)]
  exact ⟨by trivial, hall⟩

theorem quo_some {xo yo : Operand} {a b : Nat} {M : Mem} (hb : b ≠ 0) (ha : a < 4611686018427387904) : eBin tb .quo 3 xo yo (.val (.int .i64 (a : Int))) (.val (.int .i64 (b : Int))) M = some (.val (.int .i64 ((a / b : Nat) : Int)), M) := by
  refine eBin_some ?_
  have hnn : (b : Int) ≠ 0 := by omega
  have hlt : a / b ≤ a := Nat.div_le_self a b
  rw [evBin_int (by simp) (by simp)]
  simp only [intBin, hnn, decide_false, cond_false, Option.map_some]
  have e : ((a : Int).tdiv (b : Int)) = ((a / b : Nat) : Int) := by rw [Int.tdiv_eq_ediv_of_nonneg (by omega)]; exact (Int.natCast_ediv a b).symm
  rw [e]
  generalize a / b = q at hlt
  rw [wrap_i64' (by omega) (by omega)]
theorem rem_some {xo yo : Operand} {a b : Nat} {M : Mem} (hb : b ≠ 0) : eBin tb .rem 3 xo yo (.val (.int .i64 (a : Int))) (.val (.int .i64 (b : Int))) M = some (.val (.int .i64 ((a % b : Nat) : Int)), M) := by
  refine eBin_some ?_
  have hnn : (b : Int) ≠ 0 := by omega
  rw [evBin_int (by simp) (by simp)]
  simp only [intBin, hnn, decide_false, cond_false, Option.map_some]
  have e : ((a : Int).tmod (b : Int)) = ((a % b : Nat) : Int) := by rw [Int.tmod_eq_emod_of_nonneg (by omega)]; exact (Int.natCast_emod a b).symm
  rw [e]

/-- How many pages there are. -/
def nP (g : Geo) : Nat := g.bl.toNat * g.pg.toNat
def plB (g : Geo) (i : Nat) : Nat := i / g.pg.toNat
def plK (g : Geo) (i : Nat) : Nat := i % g.pg.toNat
theorem nP_bnd {g : Geo} (h : mayG g = true) : 1 ≤ nP g ∧ nP g ≤ 160 ∧ g.bl = (g.bl.toNat : Int) ∧ g.pg = (g.pg.toNat : Int) ∧ 4 ≤ g.pg.toNat ∧ g.pg.toNat ≤ 8 ∧ 8 ≤ g.bl.toNat ∧ g.bl.toNat ≤ 20 := by
  have hm := mayG_iff.1 h
  have h1 : g.bl.toNat * g.pg.toNat ≤ 20 * 8 := Nat.mul_le_mul (by omega) (by omega)
  have h2 : 8 * 4 ≤ g.bl.toNat * g.pg.toNat := Nat.mul_le_mul (by omega) (by omega)
  unfold nP
  omega
theorem pl_is {g : Geo} (h : mayG g = true) {i : Nat} (hi : i < nP g) : isG g (plB g i) (plK g i) = true ∧ plB g i < g.bl.toNat ∧ plK g i < g.pg.toNat ∧ plB g i * g.pg.toNat + plK g i = i := by
  obtain ⟨_, _, h1, h2, h3, _, _, _⟩ := nP_bnd h
  have hk : plK g i < g.pg.toNat := Nat.mod_lt _ (by omega)
  have hb : plB g i < g.bl.toNat := by
    unfold plB
    rw [Nat.div_lt_iff_lt_mul (by omega)]
    exact hi
  have he : plB g i * g.pg.toNat + plK g i = i := by unfold plB plK; exact Nat.div_add_mod' i g.pg.toNat
  refine ⟨isG_iff.2 ⟨⟨by omega, by omega⟩, by omega, by omega⟩, hb, hk, he⟩

theorem place_stE {M : Mem} {b : Nat} {cs : List AV} (x y : Int) (hg : M.get b = some (.cells cs true)) (hl : cs.length = 2) : eSt tb 50 (.ptr b 0) (placeA x y) M = some (undefA, M.put b (.cells [i64 x, i64 y] true)) :=
  eSt_some (st_all ty50 rfl hg hl (by intro v hv; simp only [List.mem_cons, List.not_mem_nil, or_false] at hv; rcases hv with rfl | rfl <;> rfl))
theorem place_res {M : Mem} {b : Nat} {x y : Int} {z : AV} (hg : M.get b = some (.cells [i64 x, i64 y] true)) : eRes tb [.c 50 (.ptr b 0), .v z] M = some (.tup [placeA x y, z]) := by
  have l := (place_ld hg).2.2
  unfold eRes resC resC resC
  simp only [l, Option.map_some]

/-- The place behind the i-th one. -/
theorem c_next (M : Mem) (hw : M.WF) (g : Geo) (h : mayG g = true) (i : Nat) (hi : i < nP g) :
    CallA tb.P 28 [geoA g, placeA (plB g i) (plK g i)] M fun y N => Keep M N [] ∧ ((i + 1 < nP g ∧ y = .tup [placeA (plB g (i + 1)) (plK g (i + 1)), .val (.bool true)]) ∨ (i + 1 = nP g ∧ y = .tup [placeA 0 0, .val (.bool false)])) := by
  obtain ⟨hn1, hn2, h1, h2, h3, _, _, _⟩ := nP_bnd h
  obtain ⟨hp, _, _, he⟩ := pl_is h hi
  refine F28_ok ?_
  unfold F28
  refine ⟨_, _, _, _, _, rfl, _, _, rfl, ?_⟩
  refine letP_i fun M8 hM8 => ?_
  have hM8' : M8 = M.new (.cells (geoC g) true) := hM8
  have hk8 : Keep M M8 [] := by rw [hM8']; exact Keep.new hw _
  have hg8 : M8.get M.next = some (.cells (geoC g) true) := by rw [hM8']; exact get_new _ _
  clear hM8 hM8'
  refine letP_i fun M9 hM9 => ?_
  have hM9' : M9 = M8.new (.cells [i64 (plB g i : Int), i64 (plK g i : Int)] true) := hM9
  have hk9 : Keep M8 M9 [] := by rw [hM9']; exact Keep.new hk8.wf _
  have hp9 : M9.get M8.next = some (.cells [i64 (plB g i : Int), i64 (plK g i : Int)] true) := by rw [hM9']; exact get_new _ _
  clear hM9 hM9'
  refine letP_i fun M10 hM10 => ?_
  have hM10' : M10 = M9.new (.cells [i64 0, i64 0] true) := hM10
  have hk10 : Keep M9 M10 [] := by rw [hM10']; exact Keep.new hk9.wf _
  have hr10 : M10.get M9.next = some (.cells [i64 0, i64 0] true) := by rw [hM10']; exact get_new _ _
  clear hM10 hM10'
  have hK := hk8.trans0 (hk9.trans0 hk10)
  have hg10 := (hk9.trans0 hk10).get hk8.wf hg8 (by simp)
  have hp10 := hk10.get hk9.wf hp9 (by simp)
  obtain ⟨_, _, _, _, _, l5⟩ := geo_ld hg10
  refine bindO_i (eLd_some l5) ?_
  refine ⟨_, _, _, _, _, rfl, ?_⟩
  refine bindO_i (eLd_some (place_ld hp10).2.2) ?_
  refine ⟨_, _, rfl, ?_⟩
  refine (c_numberV M10 hK.wf g h _ _ hp).mono ?_
  rintro y M21 ⟨rfl, hk21⟩
  have hnum : (plB g i : Int) * g.pg + (plK g i : Int) = (i : Int) := by
    rw [h2, ← Int.natCast_mul, ← Int.natCast_add, he]
  rw [hnum]
  simp only [i64, zI_int]
  have hM9 : M.next ≤ M9.next := (hk8.trans0 hk9).nxt
  have hres : ∀ (N : Mem) (x y : Int) (z : AV), Keep M10 N [] → ∃ N', eSt tb 50 (.ptr M9.next 0) (placeA x y) N = some (undefA, N') ∧ eRes tb [.c 50 (.ptr M9.next 0), .v z] N' = some (.tup [placeA x y, z]) ∧ Keep M N' [] := by
    intro N x y z hk
    have hrN := hk.get hK.wf hr10 (by simp)
    exact ⟨_, place_stE x y hrN rfl, place_res (by rw [Mem.get_put, if_pos rfl]), keep_put_new (hK.trans0 hk) hM9 (hk.wf _ _ hrN) _⟩
  refine letP_i fun K38 hK38 => ?_
  have stop : ∀ N, Keep M10 N [] → i + 1 = nP g → K38 true N := by
    intro N hk hn
    rw [hK38]
    simp only [condB_true]
    obtain ⟨N', e1, e2, e3⟩ := hres N 0 0 (.val (.bool false)) hk
    refine bindO_i e1 ?_
    refine bindO_i e2 ?_
    exact ⟨e3, .inr ⟨hn, rfl⟩⟩
  have go : ∀ N, Keep M10 N [] → i + 1 < nP g → K38 false N := by
    intro N hk hn
    rw [hK38]
    simp only [condB_false]
    have hgN := hk.get hK.wf hg10 (by simp)
    have l1 : eLd tb 3 (.ptr M.next 1) N = some (.val (.int .i64 (g.pg.toNat : Int)), N) := by rw [← h2]; exact eLd_some (geo_ld hgN).2.1
    rw [iInc (by omega)]
    simp only [l1, bindO_some, zI_int]
    refine bindO_i (quo_some (by omega) (by omega)) ?_
    simp only [zI_int]
    refine bindO_i (rem_some (by omega)) ?_
    simp only [zI_int]
    obtain ⟨N', e1, e2, e3⟩ := hres N (plB g (i + 1)) (plK g (i + 1)) (.val (.bool true)) hk
    refine bindO_i e1 ?_
    refine bindO_i e2 ?_
    exact ⟨e3, .inl ⟨hn, rfl⟩⟩
  clear hK38
  have hg21 := hk21.get hK.wf hg10 (by simp)
  obtain ⟨_, _, _, _, _, m5⟩ := geo_ld hg21
  refine bindO_i (eLd_some m5) ?_
  refine ⟨_, _, _, _, _, rfl, ?_⟩
  refine (c_may102 M21 hk21.wf g).mono ?_
  rintro y M30 ⟨rfl, hk30⟩
  have hk30' := hk21.trans0 hk30
  rw [h]
  simp only [zB_bool, Bool.not_true, condB_false]
  rw [iInc (by omega)]
  refine condB_i (fun hz => ?_) (fun _ => ?_)
  · exfalso
    have : ((i + 1 : Nat) : Int) = 0 := by simpa using hz
    omega
  have hg30 := hk30'.get hK.wf hg10 (by simp)
  have n0 : eLd tb 3 (.ptr M.next 0) M30 = some (.val (.int .i64 g.bl), M30) := eLd_some (geo_ld hg30).1
  have n1 : eLd tb 3 (.ptr M.next 1) M30 = some (.val (.int .i64 g.pg), M30) := eLd_some (geo_ld hg30).2.1
  simp only [n0, n1, bindO_some, zI_int]
  have hmul : iMul .i64 g.bl g.pg = ((nP g : Nat) : Int) := by
    have : ((nP g : Nat) : Int) = g.bl * g.pg := by unfold nP; rw [Int.natCast_mul, ← h1, ← h2]
    rw [iMul, ← this, wrap_i64' (by omega) (by omega)]
  rw [hmul]
  by_cases hn : i + 1 = nP g
  · rw [show (((i + 1 : Nat) : Int) == ((nP g : Nat) : Int)) = true by rw [hn]; exact beq_self_eq_true _]
    exact stop M30 hk30' hn
  · rw [show (((i + 1 : Nat) : Int) == ((nP g : Nat) : Int)) = false by rw [beq_eq_false_iff_ne]; omega]
    exact go M30 hk30' (by omega)

theorem rdC_same (C : Chip) (b k : Int) : (rdC C b k).g = C.g ∧ (rdC C b k).fs = C.fs ∧ (rdC C b k).bs = C.bs := by
  have h := bgC_bs C
  unfold rdC
  split
  · exact ⟨h.2.1, h.2.2.1, h.1⟩
  · exact ⟨rfl, rfl, rfl⟩

end Go.Proofs.YtfkkmhadipfobaaGreat

/- Scan, Count: leaf's. -/
set_option maxRecDepth 100000
namespace Go.Proofs.YtfkkmhadipfobaaGreat
open Go.AM

structure Fd where
  b : Int
  k : Int
  t : Tg
def fdC (f : Fd) : List AV := [i64 f.b, i64 f.k, i64 f.t.k, i64 f.t.p, i64 f.t.s, i64 f.t.e]
theorem fdC_len (f : Fd) : (fdC f).length = 6 := rfl
theorem fdC_one (f : Fd) : ∀ v ∈ fdC f, v.one = true := by
  intro v hv
  simp only [fdC, List.mem_cons, List.not_mem_nil, or_false] at hv
  rcases hv with rfl | rfl | rfl | rfl | rfl | rfl <;> rfl
theorem ty69 : tb.ty.get 69 = some ⟨.sli 73, 1, 24, [.slice none 0 0], none⟩ := by kernel_rfl
theorem ty73 : tb.ty.get 73 = some ⟨.st [(0, 2, true), (2, 4, true)], 6, 48, [.int .i64 0, .int .i64 0, .int .i64 0, .int .i64 0, .int .i64 0, .int .i64 0], some [50, 64]⟩ := by kernel_rfl
/-- Founds: none yet, or what append alone has made. -/
def GrF (M : Mem) (x : AV) (l : List Fd) : Prop := (x = .val (.slice none 0 0) ∧ l = []) ∨ ∃ b, Grown 6 M x l.length (l.flatMap fdC) b
def FdsAt (M : Mem) (x : AV) (l : List Fd) : Prop := SlAt 6 M x l.length (l.flatMap fdC)
theorem GrF.at {M : Mem} {x : AV} {l : List Fd} (h : GrF M x l) : FdsAt M x l := by
  rcases h with ⟨rfl, rfl⟩ | ⟨b, h⟩
  · exact SlAt.nil
  · exact h.at
theorem GrF.mono {M N : Mem} {x : AV} {l : List Fd} (h : GrF M x l) (hk : ∀ c r, inBlk x c → M.get c = some r → N.get c = some r) : GrF N x l := by
  rcases h with h | ⟨b, h1, h2, h3, h4⟩
  · exact .inl h
  · exact .inr ⟨b, h1, h2, h3, hk b _ (by rw [h1]; exact ⟨by omega, rfl⟩) h4⟩
theorem GrF.one {M : Mem} {x : AV} {l : List Fd} (h : GrF M x l) : x.one = true := by
  rcases h with ⟨rfl, rfl⟩ | ⟨b, h1, _⟩
  · rfl
  · rw [h1]; rfl

theorem GrF.grow {M : Mem} {x : AV} {l : List Fd} (hw : M.WF) (h : GrF M x l) (f : Fd) (hb : l.length ≤ 10000) :
    ∃ x' N, evAppend tb 69 69 x (.sl M.next 0 1 1 none) (M.new (.cells (fdC f) true)) = some (x', N) ∧ GrF N x' (l ++ [f]) ∧ GrowTo M N x x' ∧ ∀ c, inBlk x' c → M.next ≤ c := by
  have hw1 := hw.new (.cells (fdC f) true)
  have hs : SlAt 6 (M.new (.cells (fdC f) true)) (.sl M.next 0 1 1 none) 1 (fdC f) := ⟨rfl, .inr ⟨_, _, _, _, rfl, ⟨Nat.le_refl _, .inl rfl⟩, .inr ⟨_, _, get_new _ _, by rw [fdC_len]; exact Nat.le_refl _, by rw [List.drop_zero, List.take_of_length_le (by rw [fdC_len]; exact Nat.le_refl _)]⟩⟩⟩
  have ef : [f].flatMap fdC = fdC f := by simp
  rcases h with ⟨rfl, rfl⟩ | ⟨b, hg⟩
  · obtain ⟨N, h1, rfl⟩ := append_nil (T := tb) (k := 6) ty69 rfl ty73 rfl hs (by omega) ⟨by simp only; omega, by omega⟩
    refine ⟨_, _, h1, .inr ⟨M.next + 1, rfl, by simp, by simp [fdC_len], ?_⟩, ⟨hw1.new _, by show M.next ≤ M.next + 1 + 1; omega, fun c hc _ => ?_, fun c hc => .inl (by rw [← hc.2]; exact Nat.le_succ _)⟩, fun c hc => by rw [← hc.2]; exact Nat.le_succ _⟩
    · rw [List.nil_append, ef, Mem.get_new, if_pos (by rfl)]
    · rw [Mem.get_new, if_neg (by show c ≠ M.next + 1; omega), Mem.get_new, if_neg (by omega)]
  · have hbM := hw _ _ hg.2.2.2
    have hg1 : Grown 6 (M.new (.cells (fdC f) true)) x l.length (l.flatMap fdC) b := ⟨hg.1, hg.2.1, hg.2.2.1, by rw [Mem.get_new, if_neg (by omega)]; exact hg.2.2.2⟩
    obtain ⟨N, h1, rfl⟩ := append_grown (T := tb) (k := 6) ty69 rfl ty73 rfl hg1 hs (by omega) (fdC_one f) ⟨by simp only; omega, by omega⟩
    refine ⟨_, _, h1, .inr ⟨M.next + 1, by simp, by simp, ?_, ?_⟩, ⟨(hw1.kill _).new _, by show M.next ≤ M.next + 1 + 1; omega, fun c hc hn => ?_, fun c hc => .inl (by rw [← hc.2]; exact Nat.le_succ _)⟩, fun c hc => by rw [← hc.2]; exact Nat.le_succ _⟩
    · rw [flat_length fdC_len]
    · rw [Mem.get_new, if_pos (by rfl), List.flatMap_append, ef]
    · have hcb : c ≠ b := fun he => hn (by rw [he, hg.1]; exact ⟨by have := hg.2.1; omega, rfl⟩)
      rw [Mem.get_new, if_neg (by show c ≠ M.next + 1; omega), Mem.get_kill, if_neg hcb, Mem.get_new, if_neg (by omega)]

end Go.Proofs.YtfkkmhadipfobaaGreat

/- Scan, Count: the document's; both alike. -/
set_option maxRecDepth 100000
namespace Go.Proofs.YtfkkmhadipfobaaGreat
open Go.AM

theorem DocAt.of_get {M N : Mem} {p : Nat} {S : DocS} (h : DocAt M p S) (hg : ∀ c row, (c ∈ own p S ∨ inBlk S.d.fsA c ∨ ∃ q ∈ S.pg, inBlk q.1 c) → M.get c = some row → N.get c = some row) : DocAt N p S :=
  ⟨hg _ _ (.inl (by simp [own])) h.main, SlAt.mono h.flt fun c r hc hr => hg c r (.inr (.inl hc)) hr, h.pgA, h.nxA, h.wrA, h.dnA, hg _ _ (.inl (by simp [own])) h.pgs, hg _ _ (.inl (by simp [own])) h.nxs, hg _ _ (.inl (by simp [own])) h.wrs, hg _ _ (.inl (by simp [own])) h.dns,
    fun q hq => ⟨SlAt.mono (h.byt q hq).1 fun c r hc hr => hg c r (.inr (.inr ⟨q, hq, hc⟩)) hr, (h.byt q hq).2⟩, h.nd, h.fsx, h.fsl, h.may, h.pgl, h.nxl, h.wrl, h.dnl, h.raw, h.cby0⟩

/-- The document's chip on the way of a look over it. -/
structure DInv (M : Mem) (r : Nat) (S : DocS) (P : Mem) (S' : DocS) : Prop where
  wf : P.WF
  nxt : M.next ≤ P.next
  at' : DocAt P r S'
  pg : S'.pg = S.pg
  ow : own r S' = own r S
  fsA : S'.d.fsA = S.d.fsA
  g : S'.d.g = S.d.g
  fs : S'.fs = S.fs
  old : ∀ c, c < M.next → c ∉ own r S → P.get c = M.get c

theorem DInv.step {M : Mem} {r : Nat} {S : DocS} {P N : Mem} {S' S'' : DocS} (h : DInv M r S P S') (s : DStep P N r S' S'') (hpg : S''.pg = S'.pg) (hg : S''.d.g = S'.d.g) (hfs : S''.fs = S'.fs) : DInv M r S N S'' :=
  ⟨s.keep.wf, Nat.le_trans h.nxt s.keep.nxt, s.at', hpg.trans h.pg, s.own.trans h.ow, s.fsA.trans h.fsA, hg.trans h.g, hfs.trans h.fs, fun c hc hn => by
    rw [s.keep.old c (Nat.lt_of_lt_of_le hc h.nxt) (by rw [h.ow]; exact hn)]; exact h.old c hc hn⟩
/-- What lies elsewhere is written. -/
theorem DInv.grow {M : Mem} {r : Nat} {S : DocS} {P N : Mem} {S' : DocS} (h : DInv M r S P S') (hM : DocAt M r S) (hw : M.WF) (hwN : N.WF) (hn : P.next ≤ N.next) (hold : ∀ c, c < M.next → N.get c = P.get c) : DInv M r S N S' := by
  refine ⟨hwN, Nat.le_trans h.nxt hn, h.at'.of_get fun c row hc hr => ?_, h.pg, h.ow, h.fsA, h.g, h.fs, fun c hc hne => by rw [hold c hc]; exact h.old c hc hne⟩
  have hlt : c < M.next := by
    rcases hc with hc | hc | ⟨q, hq, hc⟩
    · rw [h.ow] at hc; exact hM.lt hw c hc
    · rw [h.fsA] at hc; exact SlAt.blk_lt hM.flt hw hc
    · rw [h.pg] at hq; exact SlAt.blk_lt (hM.byt q hq).1 hw hc
  rw [hold c hlt]; exact hr
theorem DInv.keep {M : Mem} {r : Nat} {S : DocS} {P N : Mem} {S' : DocS} (h : DInv M r S P S') (hM : DocAt M r S) (hw : M.WF) (k : Keep P N []) : DInv M r S N S' :=
  h.grow hM hw k.wf k.nxt fun c hc => k.old c (Nat.lt_of_lt_of_le hc h.nxt) (by simp)
end Go.Proofs.YtfkkmhadipfobaaGreat

/- Bytes behind a slice: append of noughts; the laws' raw pages. -/
set_option maxRecDepth 100000
namespace Go.Proofs.YtfkkmhadipfobaaGreat
open Go.AM

structure Put where
  b : Int
  k : Int
  n : BitVec 8
  t : Tg
  torn : Int
end Go.Proofs.YtfkkmhadipfobaaGreat

/- Founds compared, written over; a chip and the document's with pages. -/
set_option maxRecDepth 100000
namespace Go.Proofs.YtfkkmhadipfobaaGreat
open Go.AM

theorem FdsAt.len {M M' : Mem} {x : AV} {l : List Fd} (h : FdsAt M x l) : evLenCap tb false 69 x M' = some l.length := SlAt.len h ty69 rfl
theorem FdsAt.at {M : Mem} {x : AV} {l : List Fd} (h : FdsAt M x l) {i : Nat} (hi : i < l.length) :
    ∃ b o, evIndexAddr tb 69 x (.val (.int .i64 (i : Int))) = some (.ptr b o) ∧ evLoad tb 73 (.ptr b o) M = some (.agg (fdC l[i])) := by
  obtain ⟨b, o, g1, g2⟩ := SlAt.ldAgg h ty69 rfl ty73 rfl rfl hi (k' := .i64)
  rw [flat_at fdC_len hi] at g2
  exact ⟨b, o, g1, g2⟩

/-! ## Both, with pages -/

structure Calm (C : Chip) : Prop where
  off : C.off = false
  turn : C.turn = 0

theorem Calm.bg {C : Chip} (h : Calm C) : bgn C = false ∧ bgC C = { C with ops := iAdd .i64 C.ops 1 } ∧ Calm (bgC C) := by
  have h1 : bgn C = false := by unfold bgn; rw [h.turn]; rfl
  have h2 : bgC C = { C with ops := iAdd .i64 C.ops 1 } := by unfold bgC; rw [h1]; rfl
  exact ⟨h1, h2, by rw [h2]; exact ⟨h.off, h.turn⟩⟩
theorem Calm.pg {C : Chip} (h : Calm C) (b k : Int) (d : List (BitVec 8)) : Calm (pgR C b k d).1 := by
  obtain ⟨_, _, h3⟩ := h.bg
  unfold pgR
  split
  · split
    · unfold pgS
      split
      · exact h3
      · split
        · exact h3
        · split
          · exact h3
          · split <;> exact ⟨h3.off, h3.turn⟩
    · exact h
  · exact h
end Go.Proofs.YtfkkmhadipfobaaGreat

/- A calm chip looked over; the leaf laws awake. -/
set_option maxRecDepth 100000
namespace Go.Proofs.YtfkkmhadipfobaaGreat
open Go.AM

/-- What the i-th page of a chip holds. -/
def pgI (C : Chip) (i : Nat) : List (BitVec 8) := match C.bs[plB C.g i]? with | some B => pageB B (rawN C.g) (plK C.g i) | none => []
theorem calm_rd {C : Chip} (h : Calm C) {i : Nat} (hm : mayG C.g = true) (hi : i < nP C.g) : rdE C (plB C.g i) (plK C.g i) = 0 ∧ rdB C (plB C.g i) (plK C.g i) = pgI C i ∧ Calm (rdC C (plB C.g i) (plK C.g i)) := by
  obtain ⟨h1, h2, h3⟩ := h.bg
  obtain ⟨hp, _⟩ := pl_is hm hi
  have ha : askd C (plB C.g i) (plK C.g i) = 0 := by unfold askd; rw [h.off, hp]; rfl
  have he : rdE C (plB C.g i) (plK C.g i) = 0 := by unfold rdE; rw [ha, if_pos rfl, h1]; rfl
  refine ⟨he, ?_, by unfold rdC; rw [if_pos ha]; exact h3⟩
  unfold rdB
  rw [if_pos he, Int.toNat_natCast, Int.toNat_natCast]
  rfl

theorem pgI_same {C C' : Chip} (hg : C'.g = C.g) (hb : C'.bs = C.bs) (i : Nat) : pgI C' i = pgI C i := by
  unfold pgI; rw [hg, hb]

/-! ## Awake -/

theorem state_blank {n : Nat} (h1 : 40 ≤ n) (h2 : n ≤ 80) : state (List.replicate n 255#8) = 0 := by
  unfold state lenOk
  rw [List.length_replicate, decide_eq_true ⟨h1, h2⟩, if_pos rfl]
  have : allFF (List.replicate n 255#8) = true := by
    unfold allFF
    rw [List.all_eq_true]
    intro b hb
    rw [List.eq_of_mem_replicate hb]; rfl
  rw [if_pos this]
end Go.Proofs.YtfkkmhadipfobaaGreat

/- What a calm chip tells: which pages, how many. -/
set_option maxRecDepth 100000
namespace Go.Proofs.YtfkkmhadipfobaaGreat
open Go.AM

/-! ## Cells of a found -/

theorem cellsAt_sub {M : Mem} {b o n : Nat} {cs : List AV} (h : M.cellsAt b o n = some cs) {j m : Nat} (hjm : j + m ≤ n) : M.cellsAt b (o + j) m = some ((cs.drop j).take m) := by
  unfold Mem.cellsAt at h ⊢
  split at h
  · rename_i ds rw' hg
    rw [cond_eq_ite] at h
    split at h
    · rename_i hle
      have hle := Nat.le_of_ble_eq_true hle
      injection h with h
      rw [ble_of (show o + j + m ≤ ds.length by omega), cond_true, ← h]
      rw [List.drop_take, List.take_take, List.drop_drop, Nat.min_eq_left (by omega)]
    · cases h
  · cases h
theorem cellsAt_cell {M : Mem} {b o n : Nat} {cs : List AV} (h : M.cellsAt b o n = some cs) {j : Nat} {v : AV} (hj : j < n) (hv : cs[j]? = some v) : M.cellAt b (o + j) = some v := by
  unfold Mem.cellsAt at h
  unfold Mem.cellAt
  split at h
  · rename_i ds rw' hg
    rw [cond_eq_ite] at h
    split at h
    · rename_i hle
      have hle := Nat.le_of_ble_eq_true hle
      injection h with h
      rw [← h, List.getElem?_take, if_pos hj, List.getElem?_drop] at hv
      exact hv
    · cases h
  · cases h

theorem FdsAt.all {M : Mem} {x : AV} {l : List Fd} (h : FdsAt M x l) {i : Nat} (hi : i < l.length) :
    ∃ b o, (∀ N, eIA tb 69 x (.val (.int .i64 (i : Int))) N = some (.ptr b o, N)) ∧ eLd tb 73 (.ptr b o) M = some (.agg (fdC l[i]), M) ∧ eLd tb 3 (.ptr b o) M = some (.val (.int .i64 l[i].b), M) ∧ eLd tb 50 (.ptr b o) M = some (placeA l[i].b l[i].k, M) ∧ eLd tb 64 (.ptr b (o + 2)) M = some (tgA l[i].t, M) := by
  obtain ⟨b, o, g1, _, g3, g4⟩ := SlAt.at h ty69 rfl ty73 rfl hi (k' := .i64)
  rw [flat_at fdC_len hi] at g4
  refine ⟨b, o, fun N => eIA_some g1, eLd_some ?_, eLd_some ?_, eLd_some ?_, eLd_some ?_⟩
  · unfold evLoad
    rw [ty73]
    simp only [TI.isAgg, cond_true, g4, Option.map_some]
  · unfold evLoad
    rw [ty3]
    simp only [TI.isAgg, cond_false]
    have := cellsAt_cell g4 (j := 0) (v := i64 l[i].b) (by omega) rfl
    rw [Nat.add_zero] at this
    exact this
  · unfold evLoad
    rw [ty50]
    simp only [TI.isAgg, cond_true]
    have := cellsAt_sub g4 (j := 0) (m := 2) (by omega)
    rw [Nat.add_zero] at this
    rw [this]; rfl
  · unfold evLoad
    rw [ty64]
    simp only [TI.isAgg, cond_true]
    have := cellsAt_sub g4 (j := 2) (m := 4) (by omega)
    rw [this]; rfl

theorem ChipAt.of_get {M N : Mem} {p : Nat} {C : Chip} (h : ChipAt M p C) (hg : ∀ c row, (c ∈ foot p C ∨ inBlk C.fsA c) → M.get c = some row → N.get c = some row) : ChipAt N p C := by
  refine ⟨hg _ _ (.inl (by simp [foot])) h.main, hg _ _ (.inl (by simp [foot])) h.tab, fun B hB => hg _ _ (.inl ?_) (h.dat B hB), SlAt.mono h.flt fun c row hc hr => hg c row (.inr hc) hr, h.nd, h.fsx, h.one, h.fsl, h.may, h.len, h.ful, h.cby0⟩
  simp only [foot, List.mem_cons, List.mem_map]
  exact .inr (.inr ⟨B, hB, rfl⟩)

/-- A calm chip is read; it stays calm, and the same. -/
structure Rd (C C' : Chip) : Prop where
  g : C'.g = C.g
  fs : C'.fs = C.fs
  bs : C'.bs = C.bs
  calm : Calm C'
theorem Rd.refl {C : Chip} (h : Calm C) : Rd C C := ⟨rfl, rfl, rfl, h⟩
theorem Rd.trans {C C' C'' : Chip} (h : Rd C C') (k : Rd C' C'') : Rd C C'' := ⟨k.g.trans h.g, k.fs.trans h.fs, k.bs.trans h.bs, k.calm⟩
theorem Rd.pgI {C C' : Chip} (h : Rd C C') (i : Nat) : pgI C' i = pgI C i := pgI_same h.g h.bs i
theorem Rd.rd {C C' : Chip} (h : Rd C C') (hm : mayG C.g = true) {i : Nat} (hi : i < nP C.g) : rdE C' (plB C.g i) (plK C.g i) = 0 ∧ rdB C' (plB C.g i) (plK C.g i) = Go.Proofs.YtfkkmhadipfobaaGreat.pgI C i ∧ Rd C (rdC C' (plB C.g i) (plK C.g i)) := by
  obtain ⟨r1, r2, r3⟩ := calm_rd h.calm (i := i) (by rw [h.g]; exact hm) (by rw [h.g]; exact hi)
  rw [h.g] at r1 r2 r3
  rw [h.pgI] at r2
  obtain ⟨q1, q2, q3⟩ := rdC_same C' (plB C.g i) (plK C.g i)
  exact ⟨r1, r2, q1.trans h.g, q2.trans h.fs, q3.trans h.bs, r3⟩
end Go.Proofs.YtfkkmhadipfobaaGreat

/- Audit: what is grown of ints and bools; Wears, wears. -/
set_option maxRecDepth 100000
namespace Go.Proofs.YtfkkmhadipfobaaGreat
open Go.AM
abbrev bv (b : Bool) : AV := .val (.bool b)
/-- Elements of one cell each. -/
def VsAt (M : Mem) (x : AV) (vs : List AV) : Prop := SlAt 1 M x vs.length vs
def GrV (M : Mem) (x : AV) (vs : List AV) : Prop := (x = .val (.slice none 0 0) ∧ vs = []) ∨ ∃ b, Grown 1 M x vs.length vs b
theorem GrV.at {M : Mem} {x : AV} {l : List AV} (h : GrV M x l) : VsAt M x l := by
  rcases h with ⟨rfl, rfl⟩ | ⟨b, h⟩
  · exact SlAt.nil
  · exact h.at
theorem GrV.mono {M N : Mem} {x : AV} {l : List AV} (h : GrV M x l) (hk : ∀ c r, inBlk x c → M.get c = some r → N.get c = some r) : GrV N x l := by
  rcases h with h | ⟨b, h1, h2, h3, h4⟩
  · exact .inl h
  · exact .inr ⟨b, h1, h2, h3, hk b _ (by rw [h1]; exact ⟨by omega, rfl⟩) h4⟩
theorem GrV.keep0 {M N : Mem} {x : AV} {l : List AV} (h : GrV M x l) (hw : M.WF) (hk : Keep M N []) : GrV N x l := h.mono fun c r _ hr => hk.get hw hr (by simp)

theorem GrV.grow {t e : TypeId} {te : TI} (ht : tb.ty.get t = some ⟨.sli e, 1, 24, [.slice none 0 0], none⟩) (he : tb.ty.get e = some te) (hs : te.size = 1) (hbt : te.bytes ≤ 8) {M : Mem} {x : AV} {l : List AV} (hw : M.WF) (h : GrV M x l) (v : AV) (hv : v.one = true) (hb : l.length ≤ 10000) :
    ∃ x' N, evAppend tb t t x (.sl M.next 0 1 1 none) (M.new (.cells [v] true)) = some (x', N) ∧ GrV N x' (l ++ [v]) ∧ GrowTo M N x x' ∧ ∀ c, inBlk x' c → M.next ≤ c := by
  have hw1 := hw.new (.cells [v] true)
  have hsl : SlAt 1 (M.new (.cells [v] true)) (.sl M.next 0 1 1 none) 1 [v] := ⟨rfl, .inr ⟨_, _, _, _, rfl, ⟨Nat.le_refl _, .inl rfl⟩, .inr ⟨_, _, get_new _ _, by simp, by simp⟩⟩⟩
  have hroom : ∀ n, n ≤ 20000 → (3 * n + 4096) * te.bytes ≤ 281474976710656 := fun n hn => by
    have : (3 * n + 4096) * te.bytes ≤ (3 * 20000 + 4096) * 8 := Nat.mul_le_mul (by omega) hbt
    omega
  rcases h with ⟨rfl, rfl⟩ | ⟨b, hg⟩
  · obtain ⟨N, h1, rfl⟩ := append_nil (T := tb) (k := 1) ht rfl he hs hsl (by omega) ⟨hroom 1 (by omega), by omega⟩
    refine ⟨_, _, h1, .inr ⟨M.next + 1, rfl, by simp, by simp, ?_⟩, ⟨hw1.new _, by show M.next ≤ M.next + 1 + 1; omega, fun c hc _ => ?_, fun c hc => .inl (by rw [← hc.2]; exact Nat.le_succ _)⟩, fun c hc => by rw [← hc.2]; exact Nat.le_succ _⟩
    · rw [List.nil_append, Mem.get_new, if_pos (by rfl)]
    · rw [Mem.get_new, if_neg (by show c ≠ M.next + 1; omega), Mem.get_new, if_neg (by omega)]
  · have hbM := hw _ _ hg.2.2.2
    have hg1 : Grown 1 (M.new (.cells [v] true)) x l.length l b := ⟨hg.1, hg.2.1, hg.2.2.1, by rw [Mem.get_new, if_neg (by omega)]; exact hg.2.2.2⟩
    obtain ⟨N, h1, rfl⟩ := append_grown (T := tb) (k := 1) ht rfl he hs hg1 hsl (by omega) (fun u hu => by rw [List.mem_singleton.1 hu]; exact hv) ⟨hroom _ (by omega), by omega⟩
    refine ⟨_, _, h1, .inr ⟨M.next + 1, by simp, by simp, by simp, ?_⟩, ⟨(hw1.kill _).new _, by show M.next ≤ M.next + 1 + 1; omega, fun c hc hn => ?_, fun c hc => .inl (by rw [← hc.2]; exact Nat.le_succ _)⟩, fun c hc => by rw [← hc.2]; exact Nat.le_succ _⟩
    · rw [Mem.get_new, if_pos (by rfl)]
    · have hcb : c ≠ b := fun he => hn (by rw [he, hg.1]; exact ⟨by have := hg.2.1; omega, rfl⟩)
      rw [Mem.get_new, if_neg (by show c ≠ M.next + 1; omega), Mem.get_kill, if_neg hcb, Mem.get_new, if_neg (by omega)]

/-- An element. -/
theorem VsAt.one {t e : TypeId} {te : TI} (ht : tb.ty.get t = some ⟨.sli e, 1, 24, [.slice none 0 0], none⟩) (he : tb.ty.get e = some te) (hs : te.size = 1) (ha : te.isAgg = false) {M : Mem} {x : AV} {l : List AV} (h : VsAt M x l) {i : Nat} (hi : i < l.length) :
    ∃ b o, (∀ N, eIA tb t x (.val (.int .i64 (i : Int))) N = some (.ptr b o, N)) ∧ inBlk x b ∧ eLd tb e (.ptr b o) M = some (l[i], M) := by
  obtain ⟨b, o, h1, h0, h2, _⟩ := SlAt.at h ht rfl he hs hi (k' := .i64)
  refine ⟨b, o, fun N => eIA_some h1, h0, eLd_some ?_⟩
  unfold evLoad
  rw [he]
  have := h2 0 (by omega)
  simp only [ha, cond_false]
  rw [Nat.add_zero, Nat.mul_one, Nat.add_zero, List.getElem?_eq_getElem hi] at this
  exact this

def wsN (C : Chip) (n : Nat) : List Int := (List.range n).map fun (b : Nat) => wearOf C (b : Int)
def gdN (C : Chip) (n : Nat) : List Bool := (List.range n).map fun (b : Nat) => !badF C.fs (b : Int) && !failed C (b : Int)
end Go.Proofs.YtfkkmhadipfobaaGreat

/- wear's Least, Most, Spread; the document's. -/
set_option maxRecDepth 100000
namespace Go.Proofs.YtfkkmhadipfobaaGreat
open Go.AM
theorem int_one {M : Mem} {x : AV} {ws : List Int} (h : VsAt M x (ws.map i64)) {i : Nat} (hi : i < ws.length) :
    ∃ b o, (∀ N, eIA tb 36 x (.val (.int .i64 (i : Int))) N = some (.ptr b o, N)) ∧ inBlk x b ∧ eLd tb 3 (.ptr b o) M = some (.val (.int .i64 (ws.getD i 0)), M) := by
  obtain ⟨b, o, h1, h2, h3⟩ := h.one ty36 ty3 rfl rfl (i := i) (by rw [List.length_map]; exact hi)
  refine ⟨b, o, h1, h2, ?_⟩
  rw [h3, List.getElem_map, List.getD_eq_getElem?_getD, List.getElem?_eq_getElem hi]
  rfl
theorem ints_len {M : Mem} {x : AV} {ws : List Int} (h : VsAt M x (ws.map i64)) : eLen tb false 36 x M = some (.val (.int .i64 (ws.length : Int)), M) := by
  have := eLen_some (T := tb) (t := 36) (M := M) (SlAt.len h ty36 rfl)
  rw [List.length_map] at this
  exact this
end Go.Proofs.YtfkkmhadipfobaaGreat

/- Audit's Spread, Limit, lost, twice, Why. -/
set_option maxRecDepth 100000
namespace Go.Proofs.YtfkkmhadipfobaaGreat
open Go.AM
theorem Rd.ws {C C' : Chip} (h : Rd C C') (n : Nat) : wsN C' n = wsN C n ∧ gdN C' n = gdN C n := by
  constructor
  · unfold wsN wearOf; rw [h.bs]
  · unfold gdN failed; rw [h.bs, h.fs]
end Go.Proofs.YtfkkmhadipfobaaGreat

/- LeafErases. -/
set_option maxRecDepth 100000
namespace Go.Proofs.YtfkkmhadipfobaaGreat
open Go.AM
end Go.Proofs.YtfkkmhadipfobaaGreat

/- AuditWears. -/
set_option maxRecDepth 100000
namespace Go.Proofs.YtfkkmhadipfobaaGreat
open Go.AM

/-- Calm, blank, and erased so often at most. -/
structure Tm (C : Chip) (i : Nat) : Prop where
  calm : Calm C
  pgs : ∀ B ∈ C.bs, B.by' = List.replicate (C.g.pg.toNat * rawN C.g) 255#8
  wear : ∀ B ∈ C.bs, 0 ≤ B.wear ∧ B.wear ≤ (i : Int)

theorem Tm.new {g : Geo} {fsA : AV} {fs : List Flt} {bb : Nat} {bs : List Blk} (h : blank g bs) : Tm (newChip g fsA fs bb bs) 0 :=
  ⟨⟨rfl, rfl⟩, fun B hB => by have := h B hB; rw [this]; rfl, fun B hB => by have := h B hB; rw [this]; exact ⟨Int.le_refl _, Int.le_refl _⟩⟩

/-! ## Awake -/

end Go.Proofs.YtfkkmhadipfobaaGreat

/- AuditTwice. -/
set_option maxRecDepth 100000
namespace Go.Proofs.YtfkkmhadipfobaaGreat
open Go.AM
end Go.Proofs.YtfkkmhadipfobaaGreat

/- slices.Sorted(maps.Keys(m)), keys of the kind int: by the library's contracts. -/
set_option maxRecDepth 100000
namespace Go.Proofs.YtfkkmhadipfobaaGreat
open Go.AM
open Go.RowKit Go.Maps Go.Sort Go.Shelf Go.Proofs

def Tryz.keysA_ren : Go.Shelf.Ren := ⟨fun | 7 => 54 | 10 => 82 | n => n, fun | 23 => 94 | 26 => 3 | 3 => 73 | 28 => 98 | 0 => 0 | 27 => 97 | 33 => 38 | 4 => 4 | n => n, fun | n => n⟩
def Tryz.sortA_ren : Go.Shelf.Ren := ⟨fun | 5 => 81 | 8 => 84 | 7 => 113 | 19 => 122 | 20 => 123 | 10 => 136 | 11 => 137 | 12 => 138 | 13 => 139 | 14 => 140 | 15 => 141 | 16 => 142 | 17 => 143 | 18 => 144 | 30 => 156 | 31 => 146 | 32 => 147 | 33 => 157 | 34 => 158 | 35 => 85 | 40 => 160 | n => n, fun | 23 => 36 | 25 => 3 | 3 => 3 | 32 => 112 | 22 => 36 | 0 => 0 | 44 => 141 | 46 => 144 | 4 => 4 | 36 => 156 | 35 => 155 | 41 => 135 | 5 => 5 | 9 => 9 | 53 => 178 | 57 => 182 | 63 => 189 | 64 => 190 | n => n, fun | n => n⟩
def Tryz.sortedA_ren : Go.Shelf.Ren := ⟨fun | 6 => 53 | 8 => 80 | 9 => 81 | 11 => 112 | 13 => 84 | 12 => 113 | 23 => 122 | 24 => 123 | 14 => 136 | 15 => 137 | 16 => 138 | 17 => 139 | 18 => 140 | 19 => 141 | 20 => 142 | 21 => 143 | 22 => 144 | 25 => 156 | 26 => 146 | 27 => 147 | 28 => 157 | 29 => 158 | 30 => 85 | 31 => 160 | n => n, fun | 26 => 3 | 28 => 98 | 24 => 36 | 0 => 0 | 3 => 3 | 37 => 112 | 48 => 141 | 50 => 144 | 4 => 4 | 40 => 156 | 39 => 155 | 45 => 135 | 5 => 5 | 9 => 9 | 51 => 178 | 55 => 182 | 57 => 189 | 58 => 190 | 33 => 38 | n => n, fun | n => n⟩
theorem Tryz.keysA : SlLaysZI.n7 Tryz.prog Tryz.keysA_ren := {
  mixed := by kernel_rfl
  f7 := ⟨Tryz.f54.name, by decide, Tryz.func54.trans (congrArg some (by kernel_rfl))⟩
  f10 := ⟨Tryz.f82.name, by decide, Tryz.func82.trans (congrArg some (by kernel_rfl))⟩
  t0 := Tryz.underlying0
  a0 := Tryz.isAgg0
  z0 := Tryz.sizeOf0
  v0 := Tryz.zeroValue0
  t4 := Tryz.underlying4
  a4 := Tryz.isAgg4
  z4 := Tryz.sizeOf4
  v4 := Tryz.zeroValue4
  t23 := Tryz.underlying94
  a23 := Tryz.isAgg94
  z23 := Tryz.sizeOf94
  v23 := Tryz.zeroValue94
  t26 := Tryz.underlying3
  a26 := Tryz.isAgg3
  z26 := Tryz.sizeOf3
  v26 := Tryz.zeroValue3
  t27 := Tryz.underlying97
  a27 := Tryz.isAgg97
  z27 := Tryz.sizeOf97
  v27 := Tryz.zeroValue97
  t28 := Tryz.underlying98
  a28 := Tryz.isAgg98
  z28 := Tryz.sizeOf98
  v28 := Tryz.zeroValue98
  t33 := Tryz.underlying38
  a33 := Tryz.isAgg38
  z33 := Tryz.sizeOf38
  v33 := Tryz.zeroValue38 }
theorem Tryz.sortedA : SlLaysZI.n6 Tryz.prog Tryz.sortedA_ren := {
  mixed := by kernel_rfl
  f6 := ⟨Tryz.f53.name, by decide, Tryz.func53.trans (congrArg some (by kernel_rfl))⟩
  f8 := ⟨Tryz.f80.name, by decide, Tryz.func80.trans (congrArg some (by kernel_rfl))⟩
  f11 := ⟨Tryz.f112.name, by decide, Tryz.func112.trans (congrArg some (by kernel_rfl))⟩
  t0 := Tryz.underlying0
  a0 := Tryz.isAgg0
  z0 := Tryz.sizeOf0
  v0 := Tryz.zeroValue0
  t24 := Tryz.underlying36
  a24 := Tryz.isAgg36
  z24 := Tryz.sizeOf36
  v24 := Tryz.zeroValue36
  t26 := Tryz.underlying3
  a26 := Tryz.isAgg3
  z26 := Tryz.sizeOf3
  v26 := Tryz.zeroValue3
  t28 := Tryz.underlying98
  a28 := Tryz.isAgg98
  z28 := Tryz.sizeOf98
  v28 := Tryz.zeroValue98
  i26 := by kernel_rfl }
theorem Tryz.sortA : SlLaysM.n5 Tryz.prog Tryz.sortA_ren := {
  mixed := by kernel_rfl
  f5 := ⟨Tryz.f81.name, by decide, Tryz.func81.trans (congrArg some (by kernel_rfl))⟩
  f7 := ⟨Tryz.f113.name, by decide, Tryz.func113.trans (congrArg some (by kernel_rfl))⟩
  f8 := Tryz.func84.trans (congrArg some (by kernel_rfl))
  f10 := ⟨Tryz.f136.name, by decide, Tryz.func136.trans (congrArg some (by kernel_rfl))⟩
  f11 := ⟨Tryz.f137.name, by decide, Tryz.func137.trans (congrArg some (by kernel_rfl))⟩
  f12 := ⟨Tryz.f138.name, by decide, Tryz.func138.trans (congrArg some (by kernel_rfl))⟩
  f13 := ⟨Tryz.f139.name, by decide, Tryz.func139.trans (congrArg some (by kernel_rfl))⟩
  f14 := ⟨Tryz.f140.name, by decide, Tryz.func140.trans (congrArg some (by kernel_rfl))⟩
  f15 := ⟨Tryz.f141.name, by decide, Tryz.func141.trans (congrArg some (by kernel_rfl))⟩
  f16 := ⟨Tryz.f142.name, by decide, Tryz.func142.trans (congrArg some (by kernel_rfl))⟩
  f17 := ⟨Tryz.f143.name, by decide, Tryz.func143.trans (congrArg some (by kernel_rfl))⟩
  f18 := ⟨Tryz.f144.name, by decide, Tryz.func144.trans (congrArg some (by kernel_rfl))⟩
  f19 := Tryz.func122.trans (congrArg some (by kernel_rfl))
  f20 := Tryz.func123.trans (congrArg some (by kernel_rfl))
  f30 := ⟨Tryz.f156.name, by decide, Tryz.func156.trans (congrArg some (by kernel_rfl))⟩
  f31 := Tryz.func146.trans (congrArg some (by kernel_rfl))
  f32 := Tryz.func147.trans (congrArg some (by kernel_rfl))
  f33 := ⟨Tryz.f157.name, by decide, Tryz.func157.trans (congrArg some (by kernel_rfl))⟩
  f34 := ⟨Tryz.f158.name, by decide, Tryz.func158.trans (congrArg some (by kernel_rfl))⟩
  f35 := ⟨Tryz.f85.name, by decide, Tryz.func85.trans (congrArg some (by kernel_rfl))⟩
  f40 := ⟨Tryz.f160.name, by decide, Tryz.func160.trans (congrArg some (by kernel_rfl))⟩
  t0 := Tryz.underlying0
  a0 := Tryz.isAgg0
  z0 := Tryz.sizeOf0
  v0 := Tryz.zeroValue0
  t3 := Tryz.underlying3
  a3 := Tryz.isAgg3
  z3 := Tryz.sizeOf3
  v3 := Tryz.zeroValue3
  t4 := Tryz.underlying4
  a4 := Tryz.isAgg4
  z4 := Tryz.sizeOf4
  v4 := Tryz.zeroValue4
  t5 := Tryz.underlying5
  a5 := Tryz.isAgg5
  z5 := Tryz.sizeOf5
  v5 := Tryz.zeroValue5
  t9 := Tryz.underlying9
  a9 := Tryz.isAgg9
  z9 := Tryz.sizeOf9
  v9 := Tryz.zeroValue9
  t22 := Tryz.underlying36
  a22 := Tryz.isAgg36
  z22 := Tryz.sizeOf36
  v22 := Tryz.zeroValue36
  t23 := Tryz.underlying36
  a23 := Tryz.isAgg36
  z23 := Tryz.sizeOf36
  v23 := Tryz.zeroValue36
  t25 := Tryz.underlying3
  a25 := Tryz.isAgg3
  z25 := Tryz.sizeOf3
  v25 := Tryz.zeroValue3
  t32 := Tryz.underlying112
  a32 := Tryz.isAgg112
  z32 := Tryz.sizeOf112
  v32 := Tryz.zeroValue112
  t35 := Tryz.underlying155
  a35 := Tryz.isAgg155
  z35 := Tryz.sizeOf155
  v35 := Tryz.zeroValue155
  t36 := Tryz.underlying156
  a36 := Tryz.isAgg156
  z36 := Tryz.sizeOf156
  v36 := Tryz.zeroValue156
  t41 := Tryz.underlying135
  a41 := Tryz.isAgg135
  z41 := Tryz.sizeOf135
  v41 := Tryz.zeroValue135
  t44 := Tryz.underlying141
  a44 := Tryz.isAgg141
  z44 := Tryz.sizeOf141
  v44 := Tryz.zeroValue141
  t46 := Tryz.underlying144
  a46 := Tryz.isAgg144
  z46 := Tryz.sizeOf144
  v46 := Tryz.zeroValue144
  t53 := Tryz.underlying178
  a53 := Tryz.isAgg178
  z53 := Tryz.sizeOf178
  v53 := Tryz.zeroValue178
  t57 := Tryz.underlying182
  a57 := Tryz.isAgg182
  z57 := Tryz.sizeOf182
  v57 := Tryz.zeroValue182
  t63 := Tryz.underlying189
  a63 := Tryz.isAgg189
  z63 := Tryz.sizeOf189
  v63 := Tryz.zeroValue189
  t64 := Tryz.underlying190
  a64 := Tryz.isAgg190
  z64 := Tryz.sizeOf190
  v64 := Tryz.zeroValue190 }

theorem sortsA (m : Nat) : AnyZI.SortsIn Tryz.prog Tryz.sortedA_ren Fence.wide m :=
  ⟨fun blk off cap ss W hH hblk hsz => callsIn_wide.2 (AnyM.slices_Sort_int Tryz.sortA blk off cap ss W hH hblk hsz),
   fun p cap W => callsIn_wide.2 (AnyM.slices_Sort_int_none Tryz.sortA p cap W)⟩

set_option maxHeartbeats 1000000 in
/-- In the world: of the iterator that maps.Keys has made, whose box lies at a block's beginning. -/
theorem sorted_world {H : Type} (q b nn : Nat) (D0 : DataW H) (R : Value → Option (DataW H × List MemPlace)) (w : World) (hq : q < w.heap.size) (hcell : w.cell? ⟨q, 0, none⟩ = some (.map (some b))) (hown : w.ownsMap Tryz.prog 3 R b nn D0) (hmax : Maps.size D0 ≤ maxLen) (hbytes : Maps.size D0 * 8 ≤ 140737488355328) :
    Calls Tryz.prog 53 #[.func (.func 82) #[] #[.pointer (some ⟨q, 0, none⟩)]] w fun e w' => ∃ (v : Value) (ss : List Int), e = .returned v ∧ ss.Perm (intKeys D0) ∧
      w'.ownsRow w.heap.size 3 1 v ss.length ((ss.mergeSort (fun x y => decide (x ≤ y))).map encZ) ∧ (v = .slice none 0 0 ↔ ss = []) ∧ Below w.heap.size w w' := by
  refine (callsIn_wide (n := 5)).1 ?_
  have hseq : SeqGives Fence.wide 2 Tryz.prog 82 #[.pointer (some ⟨q, 0, none⟩)] encZ (fun ss => ss.Perm (intKeys D0)) (Maps.size D0) w :=
    AnyZI.keys_gives (ρ := Tryz.keysA_ren) { Tryz.keysA with } Fence.wide _ trivial rfl (by omega) q b nn D0 _ hq hcell hown
  have cS := AnyZI.sorted_in Tryz.sortedA Fence.wide 5 trivial trivial trivial trivial rfl (by omega) (sortsA _) (enters_of Tryz.func81 (by kernel_rfl) rfl) 82 #[.pointer (some ⟨q, 0, none⟩)] trivial (enters_of Tryz.func82 (by kernel_rfl) rfl) _ _ hmax hbytes _ hseq
  change CallsIn _ _ Tryz.prog 53 _ _ _ at cS
  exact cS.mono fun e w' ⟨v, ss, h1, h2, h3, h4, h5⟩ => ⟨v, ss, h1, h2, h3, h4, h5⟩

end Go.Proofs.YtfkkmhadipfobaaGreat

/- slices.Sorted(maps.Keys(m)) as a call of the abstract machine. -/
set_option maxRecDepth 100000
namespace Go.Proofs.YtfkkmhadipfobaaGreat
open Go.AM
open Go.RowKit Go.Maps Go.Sort Go.Shelf Go.Proofs Go.WideElems

/-- A value is looked at no further. -/
def noVal : Value → Option (DataW Unit × List MemPlace) := fun _ => some (.nil, [])

theorem key_int {z : Int} (hz : -9223372036854775808 ≤ z ∧ z ≤ 9223372036854775807) : keyOf Tryz.prog 3 (.int .i64 z) = some (.int .i64 z) := by
  have hw : (Lit.int .i64 z).wf = true := by
    simp only [Lit.wf, Bool.and_eq_true, decide_eq_true_eq]
    exact hz
  have hu : Tryz.prog.underlying 3 = some (.int .i64) := Tryz.underlying3
  unfold keyOf
  rw [hu]
  simp only
  unfold mapKey
  rw [hu]
  simp [hw]

set_option maxRecDepth 100000 in
theorem sorted_keys (M : Mem) (hw : M.WF) (q b : Nat) (rw' : Bool) (es : List (AV × AV)) (ks : List Int) (hq : M.get q = some (.cells [.map b] rw')) (hb : M.get b = some (.map es)) (hes : es.map (·.1) = ks.map i64) (hnd : ks.Nodup)
    (hr : ∀ k ∈ ks, -9223372036854775808 ≤ k ∧ k ≤ 9223372036854775807) (hlen : ks.length ≤ 1000) :
    CallA tb.P 53 [.fn 82 [] [.ptr q 0]] M fun y N => ∃ ss : List Int, ss.Perm ks ∧ GrV N y ((ss.mergeSort (fun x y => decide (x ≤ y))).map i64) ∧ Keep M N [] ∧ ∀ c, inBlk y c → M.next ≤ c := by
  intro ι w vs hv R
  obtain ⟨vl⟩ := vs
  cases hv with
  | cons _ v0 _ _ h1 h2 =>
  cases h2
  cases h1 with
  | fn _ _ _ vf vc hf hc =>
  obtain ⟨vfl⟩ := vf
  obtain ⟨vcl⟩ := vc
  cases hf
  cases hc with
  | cons _ p0 _ _ h3 h4 =>
  cases h4
  cases h3 with
  | ptr _ _ lq hlq =>
  have h0 : lq.base = 0 := R.bas _ _ hlq
  obtain ⟨lb, hlb, hrowb⟩ := R.live b _ hb
  obtain ⟨ms, clock, hob, hE, hbo⟩ := R.obj hb hlb
  obtain ⟨u, hu, hvu⟩ := R.cell (b := q) (o := 0) (x := .map b) (by unfold Mem.cellAt; rw [hq]; rfl) hlq
  have hu' : u = .map (some lb.blk) := by
    cases hvu with
    | map _ l hl => rw [hlb] at hl; injection hl with hl; rw [hl]
  subst hu'
  rw [h0] at hu ⊢
  have hkeys := hE.keys hes
  have hmsl : ms.toList.length = ks.length := by
    have := congrArg List.length hkeys
    simpa using this
  have hql : lq.blk < w.heap.size := by
    obtain ⟨l', k1, k2⟩ := R.live q _ hq
    rw [hlq] at k1; injection k1 with k1; subst k1
    exact row_lt k2
  have hml : (1000 : Nat) ≤ maxLen := by decide
  have hread : ∀ x ∈ ms.toList, ∃ z, x.key = .int .i64 z ∧ z ∈ ks ∧ rd Tryz.prog 3 noVal x = some (.int .i64 z, .nil) := fun x hx => by
    have : x.key ∈ ms.toList.map (·.key) := List.mem_map.2 ⟨x, hx, rfl⟩
    rw [hkeys] at this
    obtain ⟨z, hz, hzx⟩ := List.mem_map.1 this
    refine ⟨z, hzx.symm, hz, ?_⟩
    unfold WideElems.rd
    rw [← hzx, key_int (hr z hz)]
    rfl
  have hfit : Fit Tryz.prog 3 noVal ms clock := ⟨by rw [← Array.length_toList, hmsl]; omega, ⟨hbo.1, hbo.2, by rw [hkeys]; exact (List.pairwise_map.2 (hnd.imp fun hne e => hne (by injection e)))⟩, fun x hx => by obtain ⟨z, _, _, h⟩ := hread x hx; exact ⟨_, h⟩⟩
  have hown : w.ownsMap Tryz.prog 3 noVal lb.blk ms.size (.map ((ms.toList.map (rg Tryz.prog 3 noVal)).foldr DataW.insert [])) := ⟨ms, clock, hob, hfit, Nat.le_refl _, rfl⟩
  have hik : (intKeys (.map ((ms.toList.map (rg Tryz.prog 3 noVal)).foldr DataW.insert [])) : List Int).Perm ks := by
    show ((((ms.toList.map (rg Tryz.prog 3 noVal)).foldr DataW.insert []).map fun p => Go.intOf p.1) : List Int).Perm ks
    refine ((WideShapes.sorted_perm _).map _).trans ?_
    rw [List.map_map]
    have : ms.toList.map ((fun p => Go.intOf p.1) ∘ rg Tryz.prog 3 noVal) = ks := by
      have h5 : ms.toList.map ((fun p => Go.intOf p.1) ∘ rg Tryz.prog 3 noVal) = (ms.toList.map (·.key)).map (fun v => match v with | .int _ z => z | _ => 0) := by
        rw [List.map_map]
        apply List.map_congr_left
        intro x hx
        obtain ⟨z, h6, _, h7⟩ := hread x hx
        show Go.intOf (rg Tryz.prog 3 noVal x).1 = _
        rw [rg_of h7]
        show z = (match x.key with | .int _ z => z | _ => 0)
        rw [h6]
      rw [h5, hkeys, List.map_map]
      simp [Function.comp_def]
    rw [this]
  have hsz : Maps.size (.map ((ms.toList.map (rg Tryz.prog 3 noVal)).foldr DataW.insert []) : DataW Unit) = ks.length := by
    show ((ms.toList.map (rg Tryz.prog 3 noVal)).foldr DataW.insert []).length = _
    rw [length_sorted, List.length_map, hmsl]
  refine (sorted_world lq.blk lb.blk ms.size _ noVal w hql hu hown (by rw [hsz]; omega) (by rw [hsz]; omega)).mono ?_
  rintro e w' ⟨v, ss, rfl, hperm, hrow, hnil, hbel⟩
  have hss := hperm.trans hik
  have hlt : ∀ k, LvAt ι M k → k < w.heap.size := fun k h => h.lt R
  have S0 : Stp ι M w ι M w' := (Stp.refl R).side (r := w.heap.size) (Nat.le_refl _) (fun h => absurd (hlt _ h) (Nat.lt_irrefl _)) hbel.size (fun k hk _ => hbel.block k hk) hbel.os hbel.tape hbel.output
  rcases hrow.2 with ⟨rfl, hz⟩ | ⟨g, cap, cur, rfl, hg, hgo, hle, hcap, hcs, htk⟩
  · have : ss = [] := List.eq_nil_of_length_eq_zero hz
    subst this
    exact ⟨ι, _, .val (.slice none 0 0), M, rfl, .val _ rfl, S0, [], hss, .inl ⟨rfl, by simp⟩, Keep.refl hw, fun c hc => hc.elim⟩
  · have hne : ss ≠ [] := fun e => by have := hnil.2 e; cases this
    have hpos : 0 < ss.length := List.length_pos_iff.2 hne
    have hml : (ss.mergeSort (fun x y => decide (x ≤ y))).length = ss.length := List.length_mergeSort _
    rw [Nat.mul_one] at hcs htk
    have hrr : RowR (fun c => if c = M.next then some ⟨g, 0, cur.size⟩ else ι c) ⟨g, 0, cur.size⟩ (.cells ((ss.mergeSort (fun x y => decide (x ≤ y))).map i64) true) (some (.cells cur 3 (0, 0))) := by
      refine ⟨rfl, by simp only [List.length_map, hml]; omega, ?_, fun _ k _ => by simp⟩
      simp only [List.drop_zero, List.length_map, hml]
      rw [htk]
      have : ∀ l : List Int, VRs (fun c => if c = M.next then some ⟨g, 0, cur.size⟩ else ι c) (l.map i64) (l.map encZ) := fun l => by
        induction l with
        | nil => exact .nil
        | cons a l ih => exact .cons _ _ _ _ (.val _ rfl) ih
      exact this _
    have S1 := Stp.adopt S0 hg hgo hrr hlt
    refine ⟨_, _, .sl M.next 0 ss.length ss.length (some 1), _, rfl, ?_, S1, ss, hss, .inr ⟨M.next, by rw [List.length_map, hml], by rw [List.length_map, hml]; exact hpos, by simp, by rw [Mem.get_new, if_pos rfl]⟩, Keep.new hw _, fun c hc => by rw [← hc.2]; exact Nat.le_refl _⟩
    exact VR.slI M.next 0 ss.length ss.length 1 cap ⟨g, 0, cur.size⟩ (by simp) hle (by simp only; omega)

end Go.Proofs.YtfkkmhadipfobaaGreat

/- rank: Last, Stale. -/
set_option maxRecDepth 100000
namespace Go.Proofs.YtfkkmhadipfobaaGreat
open Go.AM

theorem max_int (M : Mem) (a b : Int) : eMax tb #[3, 3] 3 [.int .i64 a, .int .i64 b] M = some (.val (.int .i64 (max a b)), M) := by
  unfold eMax
  have : peek tb.P (Builtin.max_ #[3, 3] 3 ⟨[.int .i64 a, .int .i64 b]⟩) = some (.int .i64 (if b > a then b else a)) := rfl
  have hm : (if b > a then b else a) = max a b := by
    rw [Int.max_def]
    split <;> split <;> omega
  rw [this, hm]
  rfl

/-- The epoch that was committed last, of so many founds. -/
def lastN (l : List Fd) : Nat → Int
  | 0 => 0
  | i + 1 => match l[i]? with
    | some f => if f.t.k = 3 then max (lastN l i) f.t.e else lastN l i
    | none => lastN l i
def lastF (l : List Fd) : Int := lastN l l.length
def staleN (l : List Fd) (e : Int) (n : Nat) : List Fd := (l.take n).filter fun f => decide (f.t.e > e)

theorem box_fd {P : Mem} {f : Fd} {K : AV × Mem → Prop} (h : ∀ N, N = P.new (.cells (fdC f) true) → K (undefA, N)) : ∀ M, M = P.new (.cells [i64 0, i64 0, i64 0, i64 0, i64 0, i64 0] true) → bindO (eSt tb 73 (.ptr P.next 0) (.agg (fdC f)) M) K := by
  intro M hM
  have hst : evStore tb 73 (.ptr P.next 0) (.agg (fdC f)) M = some (M.put P.next (.cells (fdC f) true)) := by
    refine st_all ty73 rfl (cs := [i64 0, i64 0, i64 0, i64 0, i64 0, i64 0]) ?_ rfl (fdC_one _)
    rw [hM]; exact get_new _ _
  refine bindO_i (eSt_some hst) (h _ ?_)
  subst hM
  rw [Mem.new_put]

theorem r_last (M : Mem) (hw : M.WF) (x : AV) (l : List Fd) (hx : FdsAt M x l) (hl : l.length ≤ 10000) : CallA tb.P 58 [x] M fun y N => y = i64 (lastF l) ∧ Keep M N [] := by
  refine F58_ok ?_
  unfold F58
  refine bindO_i (eLen_some hx.len) ?_
  simp only [zI_int]
  refine ⟨fun a i n P => ∃ j : Nat, a = lastN l j ∧ i = j ∧ n = l.length - j ∧ j ≤ l.length ∧ Keep M P [], ⟨l.length, 0, rfl, rfl, rfl, Nat.zero_le _, Keep.refl hw⟩, ?_⟩
  rintro _ a i n P ⟨j, rfl, rfl, rfl, hj, hk⟩
  refine condB_i (fun hlt => ?_) (fun hge => ?_)
  · have hlt : j < l.length := Int.ofNat_lt.1 (of_decide_eq_true hlt)
    refine letP_i fun K29 hK29 => ?_
    have hxP : FdsAt P x l := SlAt.keep0 hx hw hk
    obtain ⟨b, o, f1, f2, _⟩ := hxP.all hlt
    refine bindO_i (f1 P) ?_
    simp only [zP_ptr]
    refine bindO_i f2 ?_
    refine ⟨_, _, _, _, _, _, rfl, ?_⟩
    refine letP_i fun M19 hM19 => ?_
    refine box_fd (f := l[j]) ?_ M19 hM19
    clear hM19 M19
    intro M20 hM20
    have hk20 : Keep P M20 [] := by rw [hM20]; exact Keep.new hk.wf _
    have hb20 : M20.get P.next = some (.cells (fdC l[j]) true) := by rw [hM20]; exact get_new _ _
    clear hM20
    have l2 : eLd tb 3 (.ptr P.next 2) M20 = some (.val (.int .i64 l[j].t.k), M20) := eLd_some (ld_cell ty3 rfl hb20 rfl)
    have l5 : eLd tb 3 (.ptr P.next 5) M20 = some (.val (.int .i64 l[j].t.e), M20) := eLd_some (ld_cell ty3 rfl hb20 rfl)
    have hstep : lastN l (j + 1) = if l[j].t.k = 3 then max (lastN l j) l[j].t.e else lastN l j := by
      rw [lastN, List.getElem?_eq_getElem hlt]
    have next : ∀ z, z = lastN l (j + 1) → K29 z M20 := fun z hz => by
      rw [hK29, hz]
      exact ⟨l.length - (j + 1), by omega, j + 1, rfl, iInc (by omega), rfl, hlt, hk.trans0 hk20⟩
    refine bindO_i l2 ?_
    simp only [zI_int]
    refine condB_i (fun h3 => ?_) (fun h3 => ?_)
    · have h3 : l[j].t.k = 3 := by simpa using h3
      refine bindO_i l5 ?_
      simp only [zI_int]
      refine bindO_i (max_int _ _ _) ?_
      simp only [zI_int]
      exact next _ (by rw [hstep, if_pos h3])
    · have h3 : ¬ l[j].t.k = 3 := by simpa using h3
      exact next _ (by rw [hstep, if_neg h3])
  · have hge : j = l.length := by have : ¬ (j : Int) < l.length := of_decide_eq_false hge
                                  omega
    subst hge
    exact ⟨rfl, hk⟩

theorem r_stale (M : Mem) (hw : M.WF) (x : AV) (l : List Fd) (hx : FdsAt M x l) (hl : l.length ≤ 1000) : CallA tb.P 33 [x] M fun y N => GrF N y (l.filter fun f => decide (f.t.e > lastF l)) ∧ Keep M N [] ∧ ∀ c, inBlk y c → M.next ≤ c := by
  refine F33_ok ?_
  unfold F33
  refine (r_last M hw x l hx (by omega)).mono ?_
  rintro y M2 ⟨rfl, hk2⟩
  simp only [i64, zI_int]
  have hx2 : FdsAt M2 x l := SlAt.keep0 hx hw hk2
  refine bindO_i (eLen_some hx2.len) ?_
  simp only [zI_int]
  refine ⟨fun v i n P => ∃ j : Nat, i = j ∧ n = l.length - j ∧ j ≤ l.length ∧ Keep M P [] ∧ GrF P v (staleN l (lastF l) j) ∧ ∀ c, inBlk v c → M.next ≤ c, ⟨l.length, 0, rfl, rfl, Nat.zero_le _, hk2, .inl ⟨rfl, by simp [staleN]⟩, fun c hc => hc.elim⟩, ?_⟩
  rintro _ v i n P ⟨j, rfl, rfl, hj, hk, hv, hfv⟩
  have hsl : (staleN l (lastF l) j).length ≤ 1000 := by
    have h1 := List.length_filter_le (fun f : Fd => decide (f.t.e > lastF l)) (l.take j)
    rw [List.length_take] at h1
    unfold staleN; omega
  refine condB_i (fun hlt => ?_) (fun hge => ?_)
  · have hlt : j < l.length := Int.ofNat_lt.1 (of_decide_eq_true hlt)
    have hstep : staleN l (lastF l) (j + 1) = staleN l (lastF l) j ++ (if l[j].t.e > lastF l then [l[j]] else []) := by
      unfold staleN
      rw [List.take_add_one, List.getElem?_eq_getElem hlt, List.filter_append]
      congr 1
      simp only [Option.toList_some, List.filter_cons, List.filter_nil, decide_eq_true_eq]
    refine letP_i fun K37 hK37 => ?_
    have hxP : FdsAt P x l := SlAt.keep0 hx hw hk
    obtain ⟨b, o, f1, f2, _⟩ := hxP.all hlt
    refine bindO_i (f1 P) ?_
    simp only [zP_ptr]
    refine bindO_i f2 ?_
    refine ⟨_, _, _, _, _, _, rfl, ?_⟩
    refine letP_i fun M22 hM22 => ?_
    refine box_fd (f := l[j]) ?_ M22 hM22
    clear hM22 M22
    intro M23 hM23
    have hk23 : Keep P M23 [] := by rw [hM23]; exact Keep.new hk.wf _
    have hb23 : M23.get P.next = some (.cells (fdC l[j]) true) := by rw [hM23]; exact get_new _ _
    clear hM23
    have hv23 : GrF M23 v (staleN l (lastF l) j) := hv.mono fun c r _ hr => hk23.get hk.wf hr (by simp)
    have l5 : eLd tb 3 (.ptr P.next 5) M23 = some (.val (.int .i64 l[j].t.e), M23) := eLd_some (ld_cell ty3 rfl hb23 rfl)
    refine bindO_i l5 ?_
    simp only [zI_int]
    refine condB_i (fun h3 => ?_) (fun h3 => ?_)
    · have h3 : l[j].t.e > lastF l := of_decide_eq_true h3
      refine bindO_i (eLd_some (ld_agg (n := 6) ty73 rfl rfl hb23 (by simp [fdC_len]))) ?_
      refine ⟨_, _, _, _, _, _, rfl, ?_⟩
      refine letP_i fun M33 hM33 => ?_
      subst hM33
      obtain ⟨v', N, g1, g2, g3, g4⟩ := GrF.grow hk23.wf hv23 l[j] (by omega)
      refine bindO_i g1 ?_
      rw [hK37]
      have hKN := hk.trans0 hk23
      refine ⟨l.length - (j + 1), by omega, j + 1, iInc (by omega), rfl, hlt, ⟨g3.wf, Nat.le_trans hKN.nxt g3.nxt, fun c hc _ => ?_⟩, by rw [hstep, if_pos h3]; exact g2, fun c hc => Nat.le_trans hKN.nxt (g4 c hc)⟩
      rw [g3.old c (Nat.lt_of_lt_of_le hc hKN.nxt) (fun hm => by have := hfv c hm; omega)]
      exact hKN.old c hc (by simp)
    · have h3 : ¬ l[j].t.e > lastF l := of_decide_eq_false h3
      rw [hK37]
      exact ⟨l.length - (j + 1), by omega, j + 1, iInc (by omega), rfl, hlt, hk.trans0 hk23, by rw [hstep, if_neg h3, List.append_nil]; exact hv23, hfv⟩
  · have hge : j = l.length := by have : ¬ (j : Int) < l.length := of_decide_eq_false hge
                                  omega
    subst hge
    have : staleN l (lastF l) l.length = l.filter fun f => decide (f.t.e > lastF l) := by unfold staleN; rw [List.take_length]
    rw [this] at hv
    exact ⟨hv, hk, hfv⟩

end Go.Proofs.YtfkkmhadipfobaaGreat

/- rank: maps of founds by pages. -/
set_option maxRecDepth 100000
namespace Go.Proofs.YtfkkmhadipfobaaGreat
open Go.AM

theorem ty94' : tb.ty.get 94 = some ⟨.mp 3 73, 1, 8, [.map none], none⟩ := by kernel_rfl
theorem ty94 : ∃ ti, tb.ty.get 94 = some ti ∧ ti.k = .mp 3 73 := ⟨_, ty94', rfl⟩

def fd0 : Fd := ⟨0, 0, ⟨0, 0, 0, 0⟩⟩
def mF (m : List (Int × Fd)) : List (AV × AV) := m.map fun q => (i64 q.1, .agg (fdC q.2))
def lkF : List (Int × Fd) → Int → Option (Nat × Fd)
  | [], _ => none
  | q :: m, p => if p = q.1 then some (0, q.2) else (lkF m p).map fun r => (r.1 + 1, r.2)
def updF (m : List (Int × Fd)) (p : Int) (f : Fd) : List (Int × Fd) := match lkF m p with
  | none => m ++ [(p, f)]
  | some q => m.set q.1 (p, f)

theorem find_mF (p : Int) : ∀ (m : List (Int × Fd)) (o : Nat), findA tb 3 (i64 p) (mF m) o = some ((lkF m p).map fun q => (o + q.1, i64 p, AV.agg (fdC q.2)))
  | [], _ => rfl
  | q :: m, o => by
    show (match eqA tb 60 3 (i64 p) (i64 q.1) with | some true => some (some (o, i64 q.1, AV.agg (fdC q.2))) | some false => findA tb 3 (i64 p) (mF m) (o + 1) | none => none) = _
    rw [eqA_int]
    by_cases h : p = q.1
    · subst h
      simp [lkF]
    · have hb : (p == q.1) = false := by simpa using h
      rw [hb]
      simp only
      rw [find_mF p m (o + 1)]
      rw [show lkF (q :: m) p = (lkF m p).map (fun r => (r.1 + 1, r.2)) by rw [lkF, if_neg h], Option.map_map]
      congr 1
      cases lkF m p with
      | none => rfl
      | some r => simp [Nat.add_assoc, Nat.add_comm 1 r.1]

theorem lkF_lt : ∀ {m : List (Int × Fd)} {p : Int} {q : Nat × Fd}, lkF m p = some q → m[q.1]? = some (p, q.2)
  | [], _, _, h => by cases h
  | r :: m, p, q, h => by
    rw [lkF] at h
    by_cases e : p = r.1
    · rw [if_pos e] at h
      injection h with h
      subst h e
      rfl
    · rw [if_neg e] at h
      obtain ⟨s, hs, rfl⟩ := Option.map_eq_some_iff.1 h
      have := lkF_lt hs
      simpa using this

theorem look_mF {M : Mem} {b : Nat} {m : List (Int × Fd)} (hg : M.get b = some (.map (mF m))) (p : Int) (ok : Bool) :
    evLookup tb 94 (.map b) (i64 p) ok M = some (cond ok (.tup [.agg (fdC (((lkF m p).map (·.2)).getD fd0)), .val (.bool (lkF m p).isSome)]) (.agg (fdC (((lkF m p).map (·.2)).getD fd0)))) := by
  obtain ⟨ti, h1, h2⟩ := ty94
  unfold evLookup
  rw [h1]
  simp only [h2]
  rw [ty3, ty73]
  have he : entsOf M (.map b) = some (mF m) := by unfold entsOf; simp only; rw [hg]
  rw [he]
  have hk : keyOk tb 60 3 (i64 p) = true := by unfold keyOk; rw [ty3]
  simp only [hk, cond_true]
  rw [find_mF]
  cases h : lkF m p with
  | none => cases ok <;> rfl
  | some q => cases ok <;> rfl

theorem put_mF {M : Mem} {b : Nat} {m : List (Int × Fd)} (hg : M.get b = some (.map (mF m))) (p : Int) (f : Fd) : evMapUpdate tb 94 (.map b) (i64 p) (.agg (fdC f)) M = some (M.put b (.map (mF (updF m p f)))) := by
  obtain ⟨ti, h1, h2⟩ := ty94
  unfold evMapUpdate
  rw [h1]
  simp only [h2]
  rw [ty3, hg]
  have hk : keyOk tb 60 3 (i64 p) = true := by unfold keyOk; rw [ty3]
  simp only [hk, cond_true]
  rw [find_mF]
  unfold updF
  cases h : lkF m p with
  | none => simp [mF]
  | some q =>
    have hf : (i64 p).flat = some (.int .i64 p) := rfl
    have hs : sameV (.int .i64 p) (.int .i64 p) = true := by
      unfold sameV
      simp [sameScalar]
    simp only [Option.map_some, hf, hs, cond_true, Nat.zero_add]
    simp [mF, List.map_set]

end Go.Proofs.YtfkkmhadipfobaaGreat

/- rank: newest. -/
set_option maxRecDepth 100000
namespace Go.Proofs.YtfkkmhadipfobaaGreat
open Go.AM

def newer (a b : Tg) : Bool := decide (a.e > b.e) || (a.e == b.e && decide (a.s > b.s))

theorem r_newer (M : Mem) (hw : M.WF) (a b : Tg) : CallA tb.P 79 [tgA a, tgA b] M fun y N => y = .val (.bool (newer a b)) ∧ Keep M N [] := by
  refine F79_ok ?_
  unfold F79
  refine ⟨_, _, _, _, rfl, _, _, _, _, rfl, ?_⟩
  refine letP_i fun M1 hM1 => ?_
  have hM1' : M1 = M.new (.cells (tgC a) true) := hM1
  have hk1 : Keep M M1 [] := by rw [hM1']; exact Keep.new hw _
  have ha1 : M1.get M.next = some (.cells (tgC a) true) := by rw [hM1']; exact get_new _ _
  clear hM1 hM1'
  refine letP_i fun M2 hM2 => ?_
  have hM2' : M2 = M1.new (.cells (tgC b) true) := hM2
  have hk2 : Keep M1 M2 [] := by rw [hM2']; exact Keep.new hk1.wf _
  have hb2 : M2.get M1.next = some (.cells (tgC b) true) := by rw [hM2']; exact get_new _ _
  clear hM2 hM2'
  have ha2 := hk2.get hk1.wf ha1 (by simp)
  have hK := hk1.trans0 hk2
  obtain ⟨_, _, as', ae, _⟩ := tag_ld ha2
  obtain ⟨_, _, bs', be', _⟩ := tag_ld hb2
  refine letP_i fun K hKK => ?_
  have fin : ∀ w : Bool, w = newer a b → K w := fun w hw' => by rw [hKK, hw']; exact ⟨rfl, hK⟩
  clear hKK
  refine bindO_i (eLd_some ae) ?_
  simp only [i64, zI_int]
  refine bindO_i (eLd_some be') ?_
  simp only [i64, zI_int]
  refine condB_i (fun h1 => fin _ (by unfold newer; rw [h1]; rfl)) (fun h1 => ?_)
  refine bindO_i (eLd_some ae) ?_
  simp only [i64, zI_int]
  refine bindO_i (eLd_some be') ?_
  simp only [i64, zI_int]
  refine condB_i (fun h2 => ?_) (fun h2 => fin _ (by unfold newer; rw [h1, h2]; rfl))
  refine bindO_i (eLd_some as') ?_
  simp only [i64, zI_int]
  refine bindO_i (eLd_some bs') ?_
  simp only [i64, zI_int]
  exact fin _ (by unfold newer; rw [h1, h2]; rfl)

/-- Which version of a page counts, found by found. -/
def nwS (last : Int) (m : List (Int × Fd)) (f : Fd) : List (Int × Fd) :=
  if (f.t.k ≠ 1 ∧ f.t.k ≠ 2) ∨ f.t.e > last then m
  else match lkF m f.t.p with
    | none => updF m f.t.p f
    | some g => if newer f.t g.2.t = true then updF m f.t.p f else m
def nwN (last : Int) (l : List Fd) (n : Nat) : List (Int × Fd) := (l.take n).foldl (nwS last) []
def nwF (l : List Fd) : List (Int × Fd) := nwN (lastF l) l l.length
theorem nwN_succ {last : Int} {l : List Fd} {n : Nat} (h : n < l.length) : nwN last l (n + 1) = nwS last (nwN last l n) l[n] := by
  unfold nwN
  rw [List.take_add_one, List.getElem?_eq_getElem h, List.foldl_append]
  rfl

theorem r_newest (M : Mem) (hw : M.WF) (x : AV) (l : List Fd) (hx : FdsAt M x l) (hl : l.length ≤ 1000) : CallA tb.P 52 [x] M fun y N => ∃ b, y = .map b ∧ M.next ≤ b ∧ N.get b = some (.map (mF (nwF l))) ∧ Keep M N [] := by
  refine F52_ok ?_
  unfold F52
  refine (r_last M hw x l hx (by omega)).mono ?_
  rintro y M2 ⟨rfl, hk2⟩
  simp only [i64, zI_int]
  refine letP_i fun M4 hM4 => ?_
  have hk4 : Keep M2 M4 [] := by rw [hM4]; exact Keep.new hk2.wf _
  have hm4 : M4.get M2.next = some (.map (mF (nwN (lastF l) l 0))) := by rw [hM4]; exact get_new _ _
  clear hM4
  have hK4 := hk2.trans0 hk4
  have hx4 : FdsAt M4 x l := SlAt.keep0 hx hw hK4
  refine bindO_i (eLen_some hx4.len) ?_
  simp only [zI_int]
  refine ⟨fun i n P => ∃ j : Nat, i = j ∧ n = l.length - j ∧ j ≤ l.length ∧ Keep M P [] ∧ M2.next < P.next ∧ P.get M2.next = some (.map (mF (nwN (lastF l) l j))), ⟨l.length, 0, rfl, rfl, Nat.zero_le _, hK4, hk4.wf _ _ hm4, hm4⟩, ?_⟩
  rintro _ i n P ⟨j, rfl, rfl, hj, hk, hmn, hm⟩
  refine condB_i (fun hlt => ?_) (fun hge => ?_)
  · have hlt : j < l.length := Int.ofNat_lt.1 (of_decide_eq_true hlt)
    refine letP_i fun K73 hK73 => ?_
    have again : ∀ N, Keep P N [M2.next] → N.get M2.next = some (.map (mF (nwN (lastF l) l (j + 1)))) → K73 N := fun N hkN hmN => by
      rw [hK73]
      refine ⟨l.length - (j + 1), by omega, j + 1, iInc (by omega), rfl, hlt, hk.trans hkN (by simp) (fun c hc hlt => ?_), Nat.lt_of_lt_of_le hmn hkN.nxt, hmN⟩
      rw [List.mem_singleton] at hc
      have := hk2.nxt
      omega
    clear hK73
    rw [nwN_succ hlt] at again
    have hxP : FdsAt P x l := SlAt.keep0 hx hw hk
    obtain ⟨b, o, f1, f2, _⟩ := hxP.all hlt
    refine bindO_i (f1 P) ?_
    simp only [zP_ptr]
    refine bindO_i f2 ?_
    refine ⟨_, _, _, _, _, _, rfl, ?_⟩
    refine letP_i fun M22 hM22 => ?_
    refine box_fd (f := l[j]) ?_ M22 hM22
    clear hM22 M22
    intro M23 hM23
    have hk23 : Keep P M23 [] := by rw [hM23]; exact Keep.new hk.wf _
    have hb23 : M23.get P.next = some (.cells (fdC l[j]) true) := by rw [hM23]; exact get_new _ _
    clear hM23
    have hm23 := hk23.get hk.wf hm (by simp)
    generalize hf : l[j] = f at *
    generalize nwN (lastF l) l j = m at *
    have l2 : eLd tb 3 (.ptr P.next 2) M23 = some (.val (.int .i64 f.t.k), M23) := eLd_some (ld_cell ty3 rfl hb23 rfl)
    have l3 : ∀ N, N.get P.next = some (.cells (fdC f) true) → eLd tb 3 (.ptr P.next 3) N = some (.val (.int .i64 f.t.p), N) := fun N h => eLd_some (ld_cell ty3 rfl h rfl)
    have l5 : eLd tb 3 (.ptr P.next 5) M23 = some (.val (.int .i64 f.t.e), M23) := eLd_some (ld_cell ty3 rfl hb23 rfl)
    refine letP_i fun K33 hK33 => ?_
    have skip : ((f.t.k ≠ 1 ∧ f.t.k ≠ 2) ∨ f.t.e > lastF l) → K33 true := fun hs => by
      rw [hK33]
      simp only [condB_true]
      refine again M23 (hk23.mono (by simp)) ?_
      unfold nwS
      rw [if_pos hs]
      exact hm23
    have take : ¬ ((f.t.k ≠ 1 ∧ f.t.k ≠ 2) ∨ f.t.e > lastF l) → K33 false := fun hs => by
      rw [hK33]
      simp only [condB_false]
      refine bindO_i (l3 M23 hb23) ?_
      simp only [zI_int]
      obtain ⟨g0, hg0⟩ : ∃ g, g = ((lkF m f.t.p).map (·.2)).getD fd0 := ⟨_, rfl⟩
      obtain ⟨s0, hs0⟩ : ∃ s, s = (lkF m f.t.p).isSome := ⟨_, rfl⟩
      have lk := look_mF hm23 f.t.p true
      rw [← hg0, ← hs0, cond_true] at lk
      refine bindO_i (eLk_some lk) ?_
      refine ⟨_, _, _, _, _, _, _, rfl, ?_⟩
      refine letP_i fun M44 hM44 => ?_
      refine box_fd (f := g0) ?_ M44 hM44
      clear hM44 M44
      intro M45 hM45
      have hk45 : Keep M23 M45 [] := by rw [hM45]; exact Keep.new hk23.wf _
      have hb45 : M45.get M23.next = some (.cells (fdC g0) true) := by rw [hM45]; exact get_new _ _
      clear hM45
      have hf45 := hk45.get hk23.wf hb23 (by simp)
      have hm45 := hk45.get hk23.wf hm23 (by simp)
      refine letP_i fun K61 hK61 => ?_
      have put : ∀ N, Keep M45 N [] → nwS (lastF l) m f = updF m f.t.p f → K61 true N := fun N hkN he => by
        rw [hK61]
        simp only [condB_true]
        have hfN := hkN.get hk45.wf hf45 (by simp)
        have hmN := hkN.get hk45.wf hm45 (by simp)
        refine bindO_i (l3 N hfN) ?_
        simp only [zI_int]
        refine bindO_i (eLd_some (ld_agg (n := 6) ty73 rfl rfl hfN (by simp [fdC_len]))) ?_
        refine ⟨_, _, _, _, _, _, rfl, ?_⟩
        refine bindO_i (eMU_some (put_mF hmN f.t.p f)) ?_
        have hlt' : M2.next < N.next := hkN.wf _ _ hmN
        refine again _ (((hk23.trans0 hk45).trans0 hkN).trans (Keep.put hkN.wf hlt' _) (by simp) (fun c hc _ => hc)) ?_
        rw [he]
        show (N.put M2.next _).get M2.next = _
        rw [Mem.get_put, if_pos rfl]
      have no : ∀ N, Keep M45 N [] → nwS (lastF l) m f = m → K61 false N := fun N hkN he => by
        rw [hK61]
        simp only [condB_false]
        refine again N (((hk23.trans0 hk45).trans0 hkN).mono (by simp)) ?_
        rw [he]
        exact hkN.get hk45.wf hm45 (by simp)
      clear hK61
      cases hlk : lkF m f.t.p with
      | none =>
        rw [hlk] at hs0
        subst hs0
        refine condB_i (fun _ => put M45 (Keep.refl hk45.wf) (by unfold nwS; rw [if_neg hs, hlk])) (fun h => by simp at h)
      | some g =>
        rw [hlk] at hs0 hg0
        have hg0 : g0 = g.2 := hg0
        subst hs0 hg0
        refine condB_i (fun h => by simp at h) (fun _ => ?_)
        have t1 : eLd tb 64 (.ptr P.next 2) M45 = some (tgA f.t, M45) := eLd_some (ld_agg (n := 4) ty64 rfl rfl hf45 (by simp [fdC_len]))
        have t2 : eLd tb 64 (.ptr M23.next 2) M45 = some (tgA g.2.t, M45) := eLd_some (ld_agg (n := 4) ty64 rfl rfl hb45 (by simp [fdC_len]))
        refine bindO_i t1 ?_
        refine ⟨_, _, _, _, rfl, ?_⟩
        refine bindO_i t2 ?_
        refine ⟨_, _, _, _, rfl, ?_⟩
        refine (r_newer M45 hk45.wf f.t g.2.t).mono ?_
        rintro y N ⟨rfl, hkN⟩
        simp only [zB_bool]
        cases hnw : newer f.t g.2.t with
        | true => exact put N hkN (by unfold nwS; rw [if_neg hs, hlk]; simp only; rw [if_pos hnw])
        | false => exact no N hkN (by unfold nwS; rw [if_neg hs, hlk]; simp only; rw [if_neg (by rw [hnw]; simp)])
    clear hK33
    refine bindO_i l2 ?_
    simp only [zI_int]
    have dec : ∀ w, w = decide (f.t.e > lastF l) → (f.t.k = 1 ∨ f.t.k = 2) → K33 w := fun w hw' hk' => by
      cases w with
      | true => exact skip (.inr (of_decide_eq_true hw'.symm))
      | false => exact take (by have := of_decide_eq_false hw'.symm; omega)
    refine condB_i (fun h1 => ?_) (fun h1 => ?_)
    · have h1 : ¬ f.t.k = 1 := by simpa using h1
      refine bindO_i l2 ?_
      simp only [zI_int]
      refine condB_i (fun h2 => ?_) (fun h2 => ?_)
      · have h2 : ¬ f.t.k = 2 := by simpa using h2
        exact skip (.inl ⟨h1, h2⟩)
      · have h2 : f.t.k = 2 := by simpa using h2
        refine bindO_i l5 ?_
        simp only [zI_int]
        exact dec _ rfl (.inr h2)
    · have h1 : f.t.k = 1 := by simpa using h1
      refine bindO_i l5 ?_
      simp only [zI_int]
      exact dec _ rfl (.inl h1)
  · have hge : j = l.length := by have : ¬ (j : Int) < l.length := of_decide_eq_false hge
                                  omega
    subst hge
    exact ⟨M2.next, rfl, hk2.nxt, hm, hk⟩

end Go.Proofs.YtfkkmhadipfobaaGreat

/- rank: All. -/
set_option maxRecDepth 100000
namespace Go.Proofs.YtfkkmhadipfobaaGreat
open Go.AM

theorem snoc_nodup {α : Type} {l : List α} {a : α} (h : l.Nodup) (hm : a ∉ l) : (l ++ [a]).Nodup := by
  rw [List.nodup_append]
  exact ⟨h, by simp, fun x hx y hy e => hm (by rw [List.mem_singleton] at hy; rw [← hy, ← e]; exact hx)⟩
theorem lkF_none : ∀ {m : List (Int × Fd)} {p : Int}, lkF m p = none → p ∉ m.map (·.1)
  | [], _, _ => by simp
  | q :: m, p, h => by
    rw [lkF] at h
    by_cases e : p = q.1
    · rw [if_pos e] at h; cases h
    · rw [if_neg e] at h
      have := lkF_none (Option.map_eq_none_iff.1 h)
      simp only [List.map_cons, List.mem_cons, not_or]
      exact ⟨e, this⟩
theorem updF_keys {m : List (Int × Fd)} {p : Int} {f : Fd} (h : (m.map (·.1)).Nodup) : ((updF m p f).map (·.1)).Nodup ∧ ∀ k, k ∈ (updF m p f).map (·.1) → k ∈ m.map (·.1) ∨ k = p := by
  unfold updF
  cases hl : lkF m p with
  | none =>
    simp only [List.map_append, List.map_cons, List.map_nil]
    exact ⟨snoc_nodup h (lkF_none hl), fun k hk => by simpa using hk⟩
  | some q =>
    have hq := lkF_lt hl
    have e : (m.set q.1 (p, f)).map (·.1) = m.map (·.1) := by
      rw [List.map_set]
      have : (m.map (·.1))[q.1]? = some p := by rw [List.getElem?_map, hq]; rfl
      obtain ⟨hlt, he⟩ := List.getElem?_eq_some_iff.1 this
      conv => rhs; rw [← List.set_getElem_self hlt]
      rw [he]
    simp only
    rw [e]
    exact ⟨h, fun k hk => .inl hk⟩
theorem nwS_keys {last : Int} {m : List (Int × Fd)} {f : Fd} (h : (m.map (·.1)).Nodup) : ((nwS last m f).map (·.1)).Nodup ∧ ∀ k, k ∈ (nwS last m f).map (·.1) → k ∈ m.map (·.1) ∨ k = f.t.p := by
  unfold nwS
  split
  · exact ⟨h, fun k hk => .inl hk⟩
  · split
    · exact updF_keys h
    · split
      · exact updF_keys h
      · exact ⟨h, fun k hk => .inl hk⟩
theorem nw_keys (last : Int) : ∀ (l : List Fd) (m : List (Int × Fd)), (m.map (·.1)).Nodup → ((l.foldl (nwS last) m).map (·.1)).Nodup ∧ ∀ k, k ∈ (l.foldl (nwS last) m).map (·.1) → k ∈ m.map (·.1) ∨ ∃ f ∈ l, k = f.t.p
  | [], m, h => ⟨h, fun k hk => .inl hk⟩
  | f :: l, m, h => by
    obtain ⟨h1, h2⟩ := nwS_keys (last := last) (f := f) h
    obtain ⟨h3, h4⟩ := nw_keys last l (nwS last m f) h1
    refine ⟨h3, fun k hk => ?_⟩
    rcases h4 k hk with h5 | ⟨g, hg, e⟩
    · rcases h2 k h5 with h6 | h6
      · exact .inl h6
      · exact .inr ⟨f, by simp, h6⟩
    · exact .inr ⟨g, by simp [hg], e⟩
theorem nwF_keys (l : List Fd) : ((nwF l).map (·.1)).Nodup ∧ ∀ k ∈ (nwF l).map (·.1), ∃ f ∈ l, k = f.t.p := by
  unfold nwF nwN
  rw [List.take_length]
  obtain ⟨h1, h2⟩ := nw_keys (lastF l) l [] (by simp)
  exact ⟨h1, fun k hk => by
    rcases h2 k hk with h | h
    · simp at h
    · exact h⟩

/-- The version of a page that counts. -/
def ofF (m : List (Int × Fd)) (p : Int) : Fd := ((lkF m p).map (·.2)).getD fd0
/-- The pages that count, in an order of pages. -/
def pickN (m : List (Int × Fd)) (ps : List Int) (n : Nat) : List Fd := ((ps.take n).map (ofF m)).filter fun f => decide (f.t.k = 1)

theorem r_all (M : Mem) (hw : M.WF) (x : AV) (l : List Fd) (hx : FdsAt M x l) (hl : l.length ≤ 1000) (hr : ∀ f ∈ l, inI64 f.t.p) (hle : (nwF l).length ≤ 1000) :
    CallA tb.P 31 [x] M fun y N => ∃ ps : List Int, ps.Perm ((nwF l).map (·.1)) ∧ ps.Pairwise (fun a b => decide (a ≤ b) = true) ∧ GrF N y ((ps.map (ofF (nwF l))).filter fun f => decide (f.t.k = 1)) ∧ Keep M N [] ∧ ∀ c, inBlk y c → M.next ≤ c := by
  refine F31_ok ?_
  unfold F31
  refine (r_newest M hw x l hx hl).mono ?_
  rintro y M2 ⟨b, rfl, hbn, hb, hk2⟩
  obtain ⟨hk1, hk2'⟩ := nwF_keys l
  generalize nwF l = m at *
  have keys : CallA tb.P 54 [.map b] M2 fun y N => y = .fn 82 [] [.ptr M2.next 0] ∧ N = M2.new (.cells [.map b] true) := by
    refine F54_ok ?_
    unfold F54
    refine letP_i fun M1 hM1 => ⟨rfl, hM1⟩
  refine keys.mono ?_
  rintro y M4 ⟨rfl, hM4⟩
  have hk4 : Keep M2 M4 [] := by rw [hM4]; exact Keep.new hk2.wf _
  have hq4 : M4.get M2.next = some (.cells [.map b] true) := by rw [hM4]; exact get_new _ _
  clear hM4 keys
  have hb4 := hk4.get hk2.wf hb (by simp)
  refine (sorted_keys M4 hk4.wf M2.next b true (mF m) (m.map (·.1)) hq4 hb4 (by simp [mF]) hk1 (fun k hk => ?_) (by rw [List.length_map]; exact hle)).mono ?_
  · obtain ⟨f, hf, rfl⟩ := hk2' k hk
    exact hr f hf
  clear hr
  rintro y M6 ⟨ss, hss, hy, hk6, hfy⟩
  have hsort : (ss.mergeSort (fun x y => decide (x ≤ y))).Pairwise (fun a b => decide (a ≤ b) = true) := List.pairwise_mergeSort (fun a b c h1 h2 => by simp at *; omega) (fun a b => by simp; omega) ss
  have hperm : (ss.mergeSort (fun x y => decide (x ≤ y))).Perm (m.map (·.1)) := (List.mergeSort_perm _ _).trans hss
  generalize ss.mergeSort (fun x y => decide (x ≤ y)) = ps at *
  have hpl : ps.length ≤ 1000 := by rw [hperm.length_eq, List.length_map]; exact hle
  have hK6 := hk2.trans0 (hk4.trans0 hk6)
  have hb6 := hk6.get hk4.wf hb4 (by simp)
  refine bindO_i (ints_len hy.at) ?_
  simp only [zI_int]
  refine ⟨fun v i n P => ∃ j : Nat, i = j ∧ n = ps.length - j ∧ j ≤ ps.length ∧ Keep M6 P [] ∧ GrF P v (pickN m ps j) ∧ ∀ c, inBlk v c → M6.next ≤ c, ⟨ps.length, 0, rfl, rfl, Nat.zero_le _, Keep.refl hk6.wf, .inl ⟨rfl, by simp [pickN]⟩, fun c hc => hc.elim⟩, ?_⟩
  rintro _ v i n P ⟨j, rfl, rfl, hj, hk, hv, hfv⟩
  have hsl : (pickN m ps j).length ≤ 1000 := by
    have h1 := List.length_filter_le (fun f : Fd => decide (f.t.k = 1)) ((ps.take j).map (ofF m))
    rw [List.length_map, List.length_take] at h1
    unfold pickN; omega
  refine condB_i (fun hlt => ?_) (fun hge => ?_)
  · have hlt : j < ps.length := Int.ofNat_lt.1 (of_decide_eq_true hlt)
    refine letP_i fun K38 hK38 => ?_
    have hstep : pickN m ps (j + 1) = pickN m ps j ++ (if (ofF m ps[j]).t.k = 1 then [ofF m ps[j]] else []) := by
      unfold pickN
      rw [List.take_add_one, List.getElem?_eq_getElem hlt, List.map_append, List.filter_append]
      congr 1
      simp only [Option.toList_some, List.map_cons, List.map_nil, List.filter_cons, List.filter_nil, decide_eq_true_eq]
    obtain ⟨b1, o1, f1, _, f2⟩ := int_one (hy.keep0 hk6.wf hk).at hlt
    have hgd : ps.getD j 0 = ps[j] := by rw [List.getD_eq_getElem?_getD, List.getElem?_eq_getElem hlt]; rfl
    rw [hgd] at f2
    refine bindO_i (f1 P) ?_
    simp only [zP_ptr]
    refine bindO_i f2 ?_
    simp only [zI_int]
    have lk := look_mF (hk.get hk6.wf hb6 (by simp)) ps[j] false
    obtain ⟨g0, hg0⟩ : ∃ g, g = ofF m ps[j] := ⟨_, rfl⟩
    rw [show ((lkF m ps[j]).map (·.2)).getD fd0 = g0 from hg0.symm, cond_false] at lk
    rw [← hg0] at hstep
    refine bindO_i (eLk_some lk) ?_
    refine ⟨_, _, _, _, _, _, rfl, ?_⟩
    refine condB_i (fun h3 => ?_) (fun h3 => ?_)
    · have h3 : g0.t.k = 1 := by simpa using h3
      refine bindO_i (eLk_some lk) ?_
      refine ⟨_, _, _, _, _, _, rfl, ?_⟩
      refine letP_i fun M34 hM34 => ?_
      subst hM34
      obtain ⟨v', N, e1, e2, e3, e4⟩ := GrF.grow hk.wf hv g0 (by omega)
      refine bindO_i e1 ?_
      rw [hK38]
      refine ⟨ps.length - (j + 1), by omega, j + 1, iInc (by omega), rfl, hlt, ⟨e3.wf, Nat.le_trans hk.nxt e3.nxt, fun c hc _ => ?_⟩, by rw [hstep, if_pos h3]; exact e2, fun c hc => Nat.le_trans hk.nxt (e4 c hc)⟩
      rw [e3.old c (Nat.lt_of_lt_of_le hc hk.nxt) (fun hm => by have := hfv c hm; omega)]
      exact hk.old c hc (by simp)
    · have h3 : ¬ g0.t.k = 1 := by simpa using h3
      rw [hK38]
      exact ⟨ps.length - (j + 1), by omega, j + 1, iInc (by omega), rfl, hlt, hk, by rw [hstep, if_neg h3, List.append_nil]; exact hv, hfv⟩
  · have hge : j = ps.length := by have : ¬ (j : Int) < ps.length := of_decide_eq_false hge
                                   omega
    subst hge
    have : pickN m ps ps.length = (ps.map (ofF m)).filter fun f => decide (f.t.k = 1) := by unfold pickN; rw [List.take_length]
    rw [this] at hv
    exact ⟨ps, hperm, hsort, hv, hK6.trans0 hk, fun c hc => Nat.le_trans hK6.nxt (hfv c hc)⟩

end Go.Proofs.YtfkkmhadipfobaaGreat

/- slices.SortFunc of few. -/
set_option maxRecDepth 100000
namespace Go.Proofs.YtfkkmhadipfobaaGreat
open Go.AM

/-- A call whose arguments bear no address, and that comes to a number, reckoned out. -/
theorem closed_int {g : FuncId} {args : List AV} {z : Int} {n : Nat} (hp : ∀ x ∈ args, Plain x)
    (h : (match evalF tb noOrc 100000 n g args ⟨0, .e⟩ with | some (.val (.int .i64 c), _) => decide (c = z) | _ => false) = true) (M : Mem) :
    CallA tb.P g args M fun x N => x = i64 z ∧ N = M := by
  cases he : evalF tb noOrc 100000 n g args ⟨0, .e⟩ with
  | none => rw [he] at h; cases h
  | some r =>
    obtain ⟨x, N⟩ := r
    have hc := evalF_ok tb_ok tb_mix tb_fns (noOrc_ok tb) n g args ⟨0, .e⟩ x N he
    rw [he] at h
    have hx : x = .val (.int .i64 z) := by
      split at h
      · rename_i c N' heq
        injection heq with heq; injection heq with h1 h2
        rw [h1, of_decide_eq_true h]
      · cases h
    exact CallA.closed hc (fun y N' hy => by rw [hy.1, hx]) (fun _ _ _ h => VRs.plain hp h) (fun _ _ _ h => by cases h; exact .val _ rfl) M

theorem plain_u64 (n : Int) : ∀ x ∈ [AV.val (.int .u64 n)], Plain x := fun x hx => by
  rw [List.mem_singleton] at hx; subst hx; exact .val _

set_option maxRecDepth 1000000 in
/-- bits.Len of a small number: some number. -/
theorem len_small {n : Nat} (h : n ≤ 12) : ∃ z : Int, ∀ M, CallA tb.P 84 [.val (.int .u64 (n : Int))] M fun y N => y = i64 z ∧ N = M := by
  have : n = 0 ∨ n = 1 ∨ n = 2 ∨ n = 3 ∨ n = 4 ∨ n = 5 ∨ n = 6 ∨ n = 7 ∨ n = 8 ∨ n = 9 ∨ n = 10 ∨ n = 11 ∨ n = 12 := by omega
  rcases this with rfl | rfl | rfl | rfl | rfl | rfl | rfl | rfl | rfl | rfl | rfl | rfl | rfl
  · exact ⟨0, fun M => closed_int (n := 60) (plain_u64 0) (by kernel_rfl) M⟩
  · exact ⟨1, fun M => closed_int (n := 60) (plain_u64 1) (by kernel_rfl) M⟩
  · exact ⟨2, fun M => closed_int (n := 60) (plain_u64 2) (by kernel_rfl) M⟩
  · exact ⟨2, fun M => closed_int (n := 60) (plain_u64 3) (by kernel_rfl) M⟩
  · exact ⟨3, fun M => closed_int (n := 60) (plain_u64 4) (by kernel_rfl) M⟩
  · exact ⟨3, fun M => closed_int (n := 60) (plain_u64 5) (by kernel_rfl) M⟩
  · exact ⟨3, fun M => closed_int (n := 60) (plain_u64 6) (by kernel_rfl) M⟩
  · exact ⟨3, fun M => closed_int (n := 60) (plain_u64 7) (by kernel_rfl) M⟩
  · exact ⟨4, fun M => closed_int (n := 60) (plain_u64 8) (by kernel_rfl) M⟩
  · exact ⟨4, fun M => closed_int (n := 60) (plain_u64 9) (by kernel_rfl) M⟩
  · exact ⟨4, fun M => closed_int (n := 60) (plain_u64 10) (by kernel_rfl) M⟩
  · exact ⟨4, fun M => closed_int (n := 60) (plain_u64 11) (by kernel_rfl) M⟩
  · exact ⟨4, fun M => closed_int (n := 60) (plain_u64 12) (by kernel_rfl) M⟩

/-- Of so few, what insertion makes of them. -/
theorem sort_few {a3 : AV} (M : Mem) (x : AV) (n : Nat) (hn : n ≤ 12) (hlen : ∀ N, evLenCap tb false 69 x N = some n) {Q : Mem → Prop} (hi : CallA tb.P 114 [x, i64 0, i64 (n : Int), a3] M fun _ N => Q N) :
    CallA tb.P 55 [x, a3] M fun _ N => Q N := by
  refine F55_ok ?_
  unfold F55
  refine bindO_i (eLen_some (hlen M)) ?_
  simp only [zI_int]
  obtain ⟨z, hz⟩ := len_small hn
  have hwr : IntKind.wrap .u64 (n : Int) = (n : Int) := by
    have : n = 0 ∨ n = 1 ∨ n = 2 ∨ n = 3 ∨ n = 4 ∨ n = 5 ∨ n = 6 ∨ n = 7 ∨ n = 8 ∨ n = 9 ∨ n = 10 ∨ n = 11 ∨ n = 12 := by omega
    rcases this with rfl | rfl | rfl | rfl | rfl | rfl | rfl | rfl | rfl | rfl | rfl | rfl | rfl <;> rfl
  rw [hwr]
  refine (hz M).mono ?_
  rintro y N ⟨rfl, rfl⟩
  simp only [i64, zI_int]
  have pdq : CallA tb.P 83 [x, i64 0, i64 (n : Int), i64 z, a3] N fun _ N' => Q N' := by
    refine F83_ok ?_
    unfold F83
    simp only [i64, zI_int]
    refine ⟨fun p q r b1 b2 m P => p = 0 ∧ q = (n : Int) ∧ P = N, ⟨0, rfl, rfl, rfl⟩, ?_⟩
    rintro _ p q r b1 b2 m P ⟨rfl, rfl, rfl⟩
    have : iSub .i64 (n : Int) 0 = (n : Int) := by rw [iSub, wrap_i64' (by omega) (by omega)]; omega
    rw [this, decide_eq_true (by omega : (n : Int) ≤ 12), condB_true]
    exact hi.mono fun y N' h => h
  exact pdq.mono fun y N' h => h

/-- Of none. -/
theorem sort_none {a3 : AV} (M : Mem) : CallA tb.P 55 [.val (.slice none 0 0), a3] M fun _ N => N = M := by
  refine sort_few M _ 0 (by omega) (fun N => SlAt.len (SlAt.nil (k := 6) (M := N)) ty69 rfl) ?_
  refine F114_ok ?_
  unfold F114
  simp only [i64, zI_int]
  refine ⟨fun i m P => i = 1 ∧ P = M, ⟨0, rfl, rfl⟩, ?_⟩
  rintro _ i m P ⟨rfl, rfl⟩
  rw [decide_eq_false (by omega : ¬ ((1 : Int) < ((0 : Nat) : Int))), condB_false]

end Go.Proofs.YtfkkmhadipfobaaGreat

/- A flash in memory; list of none. -/
set_option maxRecDepth 100000
namespace Go.Proofs.YtfkkmhadipfobaaGreat
open Go.AM

theorem ty22 : tb.ty.get 22 = some ⟨.pt 60, 1, 8, [.pointer none], none⟩ := by kernel_rfl
theorem ty56 : tb.ty.get 56 = some ⟨.mp 50 68, 1, 8, [.map none], none⟩ := by kernel_rfl
theorem ty60 : tb.ty.get 60 = some ⟨.st [(0, 1, false), (1, 5, true), (6, 1, false), (7, 1, false), (8, 1, false), (9, 1, false), (10, 1, false), (11, 1, false), (12, 1, false), (13, 1, false)], 14, 112, [.pointer none, .int .i64 0, .int .i64 0, .int .i64 0, .int .i64 0, .int .i64 0, .map none, .map none, .map none, .map none, .int .i64 0, .int .i64 0, .int .i64 0, .bool false], some [33, 40, 56, 57, 57, 58, 3, 3, 3, 4]⟩ := by kernel_rfl
theorem fl_fa {M : Mem} (f : Nat) : eFA tb 60 (.ptr f 0) 0 M = some (.ptr f 0, M) ∧ eFA tb 60 (.ptr f 0) 1 M = some (.ptr f 1, M) ∧ eFA tb 60 (.ptr f 0) 2 M = some (.ptr f 6, M) ∧ eFA tb 60 (.ptr f 0) 3 M = some (.ptr f 7, M) ∧ eFA tb 60 (.ptr f 0) 4 M = some (.ptr f 8, M) ∧ eFA tb 60 (.ptr f 0) 5 M = some (.ptr f 9, M) ∧ eFA tb 60 (.ptr f 0) 9 M = some (.ptr f 13, M) := by
  refine ⟨eFA_some ?_, eFA_some ?_, eFA_some ?_, eFA_some ?_, eFA_some ?_, eFA_some ?_, eFA_some ?_⟩ <;> (unfold evFieldAddr; rw [ty60]; rfl)
/-- What is written of a flash: its chip, its maps, its numbers. -/
structure Fl where
  p : AV
  g : Geo
  mf : Nat
  mb : Nat
  mp : Nat
  ms : Nat
  seq : Int
  ep : Int
  now : Int
  deg : Bool
def flC (F : Fl) : List AV := [F.p, i64 F.g.bl, i64 F.g.pg, i64 F.g.by', i64 F.g.sp, i64 F.g.tr, .map F.mf, .map F.mb, .map F.mp, .map F.ms, i64 F.seq, i64 F.ep, i64 F.now, bv F.deg]

theorem show_keep {M : Mem} (hw : M.WF) {b : Nat} {es : List (AV × AV)} (hg : M.get b = some (.map es)) : Keep M ((M.kill b).put b (.map es)) [] := by
  have hb := hw _ _ hg
  refine ⟨(hw.kill b).put hb _, Nat.le_refl _, fun c hc _ => ?_⟩
  show ((M.kill b).put b _).get c = _
  rw [Mem.get_put]
  by_cases h : c = b
  · rw [if_pos h, h, hg]
  · rw [if_neg h, Mem.get_kill, if_neg h]

/-- No page is valid: no founds. -/
theorem f_list_nil (M : Mem) (hw : M.WF) (f : Nat) (F : Fl) (hf : M.get f = some (.cells (flC F) true)) (hm : M.get F.mf = some (.map [])) (without : Int) :
    CallA tb.P 32 [.ptr f 0, i64 without] M fun y N => y = .val (.slice none 0 0) ∧ Keep M N [] := by
  refine F32_ok ?_
  unfold F32
  simp only [i64, zI_int]
  refine letP_i fun M2 hM2 => ?_
  have hM2' : M2 = M.new (.cells [.ptr f 0] true) := hM2
  have hk2 : Keep M M2 [] := by rw [hM2']; exact Keep.new hw _
  have hb2 : M2.get M.next = some (.cells [.ptr f 0] true) := by rw [hM2']; exact get_new _ _
  clear hM2 hM2'
  have hf2 := hk2.get hw hf (by simp)
  have hm2 := hk2.get hw hm (by simp)
  have l1 : eLd tb 22 (.ptr M.next 0) M2 = some (.ptr f 0, M2) := eLd_some (ld_cell ty22 rfl hb2 rfl)
  refine bindO_i l1 ?_
  refine bindO_i eNil_ptr ?_
  refine bindO_i (fl_fa f).2.2.1 ?_
  simp only [zP_ptr]
  have l2 : eLd tb 56 (.ptr f 6) M2 = some (.map F.mf, M2) := eLd_some (ld_cell ty56 rfl hf2 rfl)
  refine bindO_i l2 ?_
  have he : entsB M2 (.map F.mf) = some (some F.mf, []) := by unfold entsB; simp only; rw [hm2]
  rw [he, bindO_some]
  refine ⟨fun rem v n P => rem = [] ∧ v = .val (.slice none 0 0) ∧ P = M2.kill F.mf, ⟨rfl, rfl, rfl⟩, ?_⟩
  rintro _ v rem P ⟨rfl, rfl, rfl⟩
  refine ⟨fun _ => ?_, fun i k x h => by simp at h⟩
  refine (sort_none _).mono ?_
  rintro y N rfl
  exact ⟨rfl, hk2.trans0 (show_keep hk2.wf hm2)⟩

end Go.Proofs.YtfkkmhadipfobaaGreat

/- flash: bad, lost, worn. -/
set_option maxRecDepth 100000
namespace Go.Proofs.YtfkkmhadipfobaaGreat
open Go.AM

theorem ty33 : tb.ty.get 33 = some ⟨.pt 83, 1, 8, [.pointer none], none⟩ := by kernel_rfl

/-- A flash whose chip stands in memory. -/
structure FlAt (M : Mem) (f : Nat) (F : Fl) (p : Nat) (C : Chip) : Prop where
  fl : M.get f = some (.cells (flC F) true)
  chip : ChipAt M p C
  ptr : F.p = .ptr p 0
  geo : F.g = C.g
theorem FlAt.keep {M N : Mem} {f : Nat} {F : Fl} {p : Nat} {C : Chip} (h : FlAt M f F p C) (hw : M.WF) (hk : Keep M N []) : FlAt N f F p C := ⟨hk.get hw h.fl (by simp), h.chip.keep hw hk, h.ptr, h.geo⟩
theorem FlAt.ldp {M : Mem} {f : Nat} {F : Fl} {p : Nat} {C : Chip} (h : FlAt M f F p C) : eLd tb 33 (.ptr f 0) M = some (.ptr p 0, M) := by
  rw [← h.ptr]; exact eLd_some (ld_cell ty33 rfl h.fl rfl)

def lostB (C : Chip) (b : Int) : Bool := badF C.fs b || failed C b
theorem f_bad (M : Mem) (hw : M.WF) (f : Nat) (F : Fl) (p : Nat) (C : Chip) (h : FlAt M f F p C) (b : Int) : CallA tb.P 86 [.ptr f 0, i64 b] M fun y N => y = .val (.bool (lostB C b)) ∧ Keep M N [] := by
  refine F86_ok ?_
  unfold F86
  simp only [i64, zI_int]
  refine letP_i fun K hK => ?_
  refine bindO_i eNil_ptr ?_
  refine bindO_i (fl_fa f).1 ?_
  simp only [zP_ptr]
  refine bindO_i h.ldp ?_
  refine (c_badOf M hw p C h.chip b).mono ?_
  rintro y M8 ⟨rfl, hk8⟩
  simp only [zB_bool]
  have h8 := h.keep hw hk8
  refine condB_i (fun hb => ?_) (fun hb => ?_)
  · rw [hK]
    exact ⟨by unfold lostB; rw [hb]; rfl, hk8⟩
  · refine bindO_i eNil_ptr ?_
    refine bindO_i (fl_fa f).1 ?_
    simp only [zP_ptr]
    refine bindO_i h8.ldp ?_
    refine (c_failed M8 hk8.wf p C h8.chip b).mono ?_
    rintro y M16 ⟨rfl, hk16⟩
    simp only [zB_bool]
    rw [hK]
    exact ⟨by unfold lostB; rw [hb]; rfl, hk8.trans0 hk16⟩

def lostC (C : Chip) (n : Nat) : Nat := ((List.range n).filter fun (b : Nat) => lostB C (b : Int)).length
theorem lostC_succ (C : Chip) (n : Nat) : lostC C (n + 1) = lostC C n + (if lostB C (n : Int) = true then 1 else 0) := by
  unfold lostC
  rw [List.range_succ, List.filter_append, List.length_append]
  congr 1
  simp only [List.filter_cons, List.filter_nil]
  cases lostB C (n : Int) <;> simp
theorem lostC_le (C : Chip) : ∀ n, lostC C n ≤ n
  | 0 => Nat.le_refl _
  | n + 1 => by
    have := lostC_le C n
    rw [lostC_succ]; split <;> omega

theorem f_lost (M : Mem) (hw : M.WF) (f : Nat) (F : Fl) (p : Nat) (C : Chip) (h : FlAt M f F p C) : CallA tb.P 59 [.ptr f 0] M fun y N => y = i64 (lostC C C.g.bl.toNat : Int) ∧ Keep M N [] := by
  refine F59_ok ?_
  unfold F59
  obtain ⟨_, _, e1, _, _, _, _, h4⟩ := nP_bnd h.chip.may
  refine bindO_i eNil_ptr ?_
  refine bindO_i (fl_fa f).2.1 ?_
  simp only [zP_ptr]
  have l1 : eLd tb 3 (.ptr f 1) M = some (.val (.int .i64 (C.g.bl.toNat : Int)), M) := by
    rw [← e1, ← h.geo]; exact eLd_some (ld_cell ty3 rfl h.fl rfl)
  refine bindO_i l1 ?_
  simp only [zI_int]
  refine ⟨fun a i n P => ∃ j : Nat, a = lostC C j ∧ i = j ∧ n = C.g.bl.toNat - j ∧ j ≤ C.g.bl.toNat ∧ Keep M P [], ⟨C.g.bl.toNat, 0, rfl, rfl, rfl, Nat.zero_le _, Keep.refl hw⟩, ?_⟩
  rintro _ a i n P ⟨j, rfl, rfl, rfl, hj, hk⟩
  have hle := lostC_le C j
  refine condB_i (fun hlt => ?_) (fun hge => ?_)
  · have hlt : j < C.g.bl.toNat := Int.ofNat_lt.1 (of_decide_eq_true hlt)
    refine letP_i fun K hK => ?_
    refine (f_bad P hk.wf f F p C (h.keep hw hk) _).mono ?_
    rintro y M14 ⟨rfl, hk14⟩
    simp only [zB_bool]
    have hs := lostC_succ C j
    refine condB_i (fun hb => ?_) (fun hb => ?_)
    · rw [hK]
      exact ⟨C.g.bl.toNat - (j + 1), by omega, j + 1, by rw [iInc (by omega), hs, if_pos hb], iInc (by omega), rfl, hlt, hk.trans0 hk14⟩
    · rw [hK]
      exact ⟨C.g.bl.toNat - (j + 1), by omega, j + 1, by rw [hs, if_neg (by rw [hb]; simp), Nat.add_zero], iInc (by omega), rfl, hlt, hk.trans0 hk14⟩
  · have hge : j = C.g.bl.toNat := by have : ¬ (j : Int) < C.g.bl.toNat := of_decide_eq_false hge
                                      omega
    subst hge
    exact ⟨rfl, hk⟩

/-- Not more are lost than there are spare ones: worn tells nothing. -/
theorem f_worn (M : Mem) (hw : M.WF) (f : Nat) (F : Fl) (p : Nat) (C : Chip) (h : FlAt M f F p C) (hl : (lostC C C.g.bl.toNat : Int) ≤ C.g.sp) : CallA tb.P 34 [.ptr f 0] M fun y N => y = i64 0 ∧ Keep M N [] := by
  refine F34_ok ?_
  unfold F34
  refine bindO_i eNil_ptr ?_
  refine bindO_i (fl_fa f).2.1 ?_
  simp only [zP_ptr]
  have l4 : ∀ N, FlAt N f F p C → eLd tb 3 (.ptr f (1 + 3)) N = some (.val (.int .i64 C.g.sp), N) := fun N hN => by
    rw [← hN.geo]; exact eLd_some (ld_cell ty3 rfl hN.fl rfl)
  refine bindO_i (l4 M h) ?_
  simp only [zI_int]
  refine (f_lost M hw f F p C h).mono ?_
  rintro y M8 ⟨rfl, hk8⟩
  simp only [i64, zI_int]
  refine ⟨bindO_i (l4 M8 (h.keep hw hk8)) rfl, ?_⟩
  rw [decide_eq_true hl, condB_true]
  exact ⟨by trivial, hk8⟩

end Go.Proofs.YtfkkmhadipfobaaGreat

/- flash: Mount of a calm chip that holds no page. -/
set_option maxRecDepth 100000
namespace Go.Proofs.YtfkkmhadipfobaaGreat
open Go.AM

theorem lostB_same {C C' : Chip} (hf : C'.fs = C.fs) (hb : C'.bs = C.bs) (b : Int) : lostB C' b = lostB C b := by
  unfold lostB failed; rw [hf, hb]
theorem lostC_same {C C' : Chip} (hf : C'.fs = C.fs) (hb : C'.bs = C.bs) (n : Nat) : lostC C' n = lostC C n := by
  unfold lostC; simp only [lostB_same hf hb]

theorem place_fa {M : Mem} (b : Nat) : eFA tb 50 (.ptr b 0) 0 M = some (.ptr b 0, M) := eFA_some (by unfold evFieldAddr; rw [ty50]; rfl)

/-- What Mount's loop keeps. -/
structure Mt0 (M0 : Mem) (p : Nat) (C : Chip) (f : Nat) (F : Fl) (P : Mem) (C' : Chip) : Prop where
  st : Step M0 P p C C'
  calm : Calm C'
  bs : C'.bs = C.bs
theorem Mt0.post {M0 : Mem} {p : Nat} {C : Chip} {f : Nat} {F : Fl} {P Q : Mem} {C' : Chip} (h : Mt0 M0 p C f F P C') (k : Keep P Q []) : Mt0 M0 p C f F Q C' := ⟨h.st.post k, h.calm, h.bs⟩

/-- No page of the chip is a valid one. -/
def bare (C : Chip) : Prop := ∀ i, i < nP C.g → state (pgI C i) ≠ 1

theorem f_mount0 (M : Mem) (hw : M.WF) (p : Nat) (C : Chip) (h : ChipAt M p C) (hc : Calm C) (hb : bare C) (ho : 0 ≤ C.ops ∧ C.ops ≤ 1000000) (hl : (lostC C C.g.bl.toNat : Int) ≤ C.g.sp) :
    CallA tb.P 6 [.ptr p 0] M fun y N => ∃ (f : Nat) (F : Fl) (C' : Chip), y = .tup [.ptr f 0, i64 0] ∧ Step M N p C C' ∧ Calm C' ∧ C'.bs = C.bs ∧ FlAt N f F p C' ∧ (∃ o : Nat, C'.ops = C.ops + o ∧ o ≤ nP C.g) ∧ M.next ≤ F.mf ∧ F.mb = F.mf + 1 ∧ F.mp = F.mf + 2 ∧ F.ms = F.mf + 3 ∧ f = F.mf + 4 ∧ F.seq = 0 ∧ F.ep = 0 ∧ F.now = 0 ∧ F.deg = false ∧
      N.get F.mf = some (.map []) ∧ N.get F.mb = some (.map []) ∧ N.get F.mp = some (.map []) ∧ N.get F.ms = some (.map []) := by
  refine F6_ok ?_
  unfold F6
  refine bindO_i nil_eq ?_
  simp only [zB_bool]
  refine condB_i (fun h => by simp at h) (fun _ => ?_)
  refine (c_on M hw p C h).mono ?_
  rintro y M4 ⟨rfl, hM4⟩
  rw [hM4, hc.off]
  simp only [zB_bool, Bool.not_false, Bool.not_true, condB_false]
  refine (c_geo M hw p C h).mono ?_
  rintro y M7 ⟨rfl, hk7⟩
  refine ⟨_, _, _, _, _, rfl, ?_⟩
  have h7 := h.keep hw hk7
  refine letP_i fun M13 hM13 => ?_
  have e13 : M13 = M7.new (.map []) := hM13
  have hk13 : Keep M7 M13 [] := by rw [e13]; exact Keep.new hk7.wf _
  have g13 : M13.get M7.next = some (.map []) := by rw [e13]; exact get_new _ _
  have n13 : M13.next = M7.next + 1 := by rw [e13]; rfl
  clear hM13 e13
  refine letP_i fun M14 hM14 => ?_
  have e14 : M14 = M13.new (.map []) := hM14
  have hk14 : Keep M13 M14 [] := by rw [e14]; exact Keep.new hk13.wf _
  have g14 : M14.get M13.next = some (.map []) := by rw [e14]; exact get_new _ _
  have n14 : M14.next = M13.next + 1 := by rw [e14]; rfl
  clear hM14 e14
  refine letP_i fun M15 hM15 => ?_
  have e15 : M15 = M14.new (.map []) := hM15
  have hk15 : Keep M14 M15 [] := by rw [e15]; exact Keep.new hk14.wf _
  have g15 : M15.get M14.next = some (.map []) := by rw [e15]; exact get_new _ _
  have n15 : M15.next = M14.next + 1 := by rw [e15]; rfl
  clear hM15 e15
  refine letP_i fun M16 hM16 => ?_
  have e16 : M16 = M15.new (.map []) := hM16
  have hk16 : Keep M15 M16 [] := by rw [e16]; exact Keep.new hk15.wf _
  have g16 : M16.get M15.next = some (.map []) := by rw [e16]; exact get_new _ _
  have n16 : M16.next = M15.next + 1 := by rw [e16]; rfl
  clear hM16 e16
  have hbd : evBuild tb 60 [(0, .ptr p 0), (1, geoA C.g), (2, .map M7.next), (3, .map M13.next), (4, .map M14.next), (5, .map M15.next)] = some (.agg (flC ⟨.ptr p 0, C.g, M7.next, M13.next, M14.next, M15.next, 0, 0, 0, false⟩)) := by
    unfold evBuild
    rw [ty60]
    rfl
  refine bindO_i (eBd_some hbd) ?_
  refine ⟨_, _, _, _, _, _, _, _, _, _, _, _, _, _, rfl, ?_⟩
  generalize hF : (⟨.ptr p 0, C.g, M7.next, M13.next, M14.next, M15.next, 0, 0, 0, false⟩ : Fl) = F
  refine letP_i fun M32 hM32 => ?_
  have e32 : M32 = M16.new (.cells (flC F) true) := hM32
  have hk32 : Keep M16 M32 [] := by rw [e32]; exact Keep.new hk16.wf _
  have g32 : M32.get M16.next = some (.cells (flC F) true) := by rw [e32]; exact get_new _ _
  have n32 : M32.next = M16.next + 1 := by rw [e32]; rfl
  clear hM32 e32
  refine letP_i fun M33 hM33 => ?_
  have e33 : M33 = M32.new (.cells [i64 0, i64 0] true) := hM33
  have hk33 : Keep M32 M33 [] := by rw [e33]; exact Keep.new hk32.wf _
  have g33 : M33.get M32.next = some (.cells [i64 0, i64 0] true) := by rw [e33]; exact get_new _ _
  clear hM33 e33
  have hn7 : M.next ≤ M7.next := hk7.nxt
  have hKa := hk7.trans0 (hk13.trans0 (hk14.trans0 (hk15.trans0 (hk16.trans0 (hk32.trans0 hk33)))))
  have m1 := (hk14.trans0 (hk15.trans0 (hk16.trans0 (hk32.trans0 hk33)))).get hk13.wf g13 (by simp)
  have m2 := (hk15.trans0 (hk16.trans0 (hk32.trans0 hk33))).get hk14.wf g14 (by simp)
  have m3 := (hk16.trans0 (hk32.trans0 hk33)).get hk15.wf g15 (by simp)
  have m4 := (hk32.trans0 hk33).get hk16.wf g16 (by simp)
  have m5 := hk33.get hk32.wf g32 (by simp)
  have hst := place_stE (M := M33) (b := M32.next) 0 0 g33 rfl
  refine bindO_i hst ?_
  have hkp : Keep M (M33.put M32.next (.cells [i64 0, i64 0] true)) [] := keep_put_new hKa (by omega) (hk33.wf _ _ g33) _
  have hfo : ∀ c ∈ foot p C, c < M.next := fun c hm => h.lt hw c hm
  refine ⟨fun x b n P => ∃ (C' : Chip) (a : Nat) (u v : Int), x = .ptr a 0 ∧ P.get a = some (.cells [i64 u, i64 v] true) ∧ M32.next ≤ a ∧ Step M P p C C' ∧ Calm C' ∧ C'.bs = C.bs ∧ P.get M16.next = some (.cells (flC F) true) ∧ P.get M7.next = some (.map []) ∧ P.get M13.next = some (.map []) ∧ P.get M14.next = some (.map []) ∧ P.get M15.next = some (.map []) ∧
    (∃ o : Nat, C'.ops = C.ops + o ∧ o + n ≤ nP C.g) ∧ ((b = true ∧ ∃ i, i < nP C.g ∧ u = plB C.g i ∧ v = plK C.g i ∧ n = nP C.g - i) ∨ (b = false ∧ n = 0)), ?_, ?_⟩
  · have hP : ∀ (c : Nat) (r : Row), c < M32.next → M33.get c = some r → (M33.put M32.next (.cells [i64 0, i64 0] true)).get c = some r := fun c r hlt hg => by rw [Mem.get_put, if_neg (by omega)]; exact hg
    obtain ⟨hn1, _⟩ := nP_bnd h.may
    refine ⟨nP C.g, C, M32.next, 0, 0, rfl, by rw [Mem.get_put, if_pos rfl], Nat.le_refl _, Step.of0 hw h hkp, hc, rfl, hP _ _ (by omega) m5, hP _ _ (by omega) m1, hP _ _ (by omega) m2, hP _ _ (by omega) m3, hP _ _ (by omega) m4, ⟨0, by omega, by omega⟩, .inl ⟨rfl, 0, hn1, ?_, ?_, rfl⟩⟩
    · simp [plB]
    · simp [plK]
  rintro _ x b n P ⟨C', a, u, v, rfl, ha, hal, hs, hcc, hbs, q5, q1, q2, q3, q4, ⟨o, ho1, ho2⟩, hcase⟩
  have hg' : C'.g = C.g := hs.g
  have hmay : mayG C.g = true := h.may
  refine condB_i (fun hb1 => ?_) (fun hb0 => ?_)
  · obtain ⟨_, i, hi, rfl, rfl, rfl⟩ : b = true ∧ ∃ i, i < nP C.g ∧ u = plB C.g i ∧ v = plK C.g i ∧ n = nP C.g - i := by
      rcases hcase with hx | ⟨hx, _⟩
      · exact hx
      · rw [hb1] at hx; cases hx
    refine letP_i fun K96 hK96 => ?_
    have next : ∀ (N : Mem) (D : Chip), (∃ o' : Nat, D.ops = C.ops + o' ∧ o' ≤ o + 1) → Step M N p C D → Calm D → D.bs = C.bs → N.get a = some (.cells [i64 (plB C.g i : Int), i64 (plK C.g i : Int)] true) → N.get M16.next = some (.cells (flC F) true) → N.get M7.next = some (.map []) → N.get M13.next = some (.map []) → N.get M14.next = some (.map []) → N.get M15.next = some (.map []) → M32.next ≤ N.next → K96 N := by
      rintro N D ⟨o', oN1, oN2⟩ sN cN bN ga r5 r1 r2 r3 r4 hnn
      rw [hK96]
      obtain ⟨_, _, l2⟩ := place_ld ga
      refine bindO_i (eLd_some l2) ?_
      refine ⟨_, _, rfl, ?_⟩
      refine letP_i fun M100 h100 => ?_
      have e100 : M100 = N.new (.cells [i64 0, i64 0] true) := h100
      have hk100 : Keep N M100 [] := by rw [e100]; exact Keep.new sN.wf _
      have g100 : M100.get N.next = some (.cells [i64 0, i64 0] true) := by rw [e100]; exact get_new _ _
      clear h100 e100
      refine bindO_i (place_stE (plB C.g i) (plK C.g i) g100 rfl) ?_
      have hk101 : Keep N (M100.put N.next (.cells [i64 (plB C.g i : Int), i64 (plK C.g i : Int)] true)) [] := keep_put_new hk100 (Nat.le_refl _) (hk100.wf _ _ g100) _
      have g101 : (M100.put N.next (.cells [i64 (plB C.g i : Int), i64 (plK C.g i : Int)] true)).get N.next = some (.cells [i64 (plB C.g i : Int), i64 (plK C.g i : Int)] true) := by rw [Mem.get_put, if_pos rfl]
      revert hk101 g101
      generalize M100.put N.next (.cells [i64 (plB C.g i : Int), i64 (plK C.g i : Int)] true) = M101
      intro hk101 g101
      have s5 := hk101.get sN.wf r5 (by simp)
      have l40 : eLd tb 40 (.ptr M16.next 1) M101 = some (geoA C.g, M101) := by
        rw [← hF] at s5
        exact eLd_some (ld_agg (n := 5) ty40 rfl rfl s5 (by simp [flC]))
      simp only
      refine bindO_i l40 ?_
      refine ⟨_, _, _, _, _, rfl, ?_⟩
      refine bindO_i (eLd_some (place_ld g101).2.2) ?_
      refine ⟨_, _, rfl, ?_⟩
      refine (c_next M101 hk101.wf C.g hmay i hi).mono ?_
      rintro y M112 ⟨hk112, hy⟩
      have g112 := hk112.get hk101.wf g101 (by simp)
      have hkN := hk101.trans0 hk112
      have fin : ∀ x' y' : Int, Keep N (M112.put N.next (.cells [i64 x', i64 y'] true)) [] := fun x' y' => keep_put_new hkN (Nat.le_refl _) (hk112.wf _ _ g112) _
      have hN : ∀ (x' y' : Int) (c : Nat) (r : Row), N.get c = some r → (M112.put N.next (.cells [i64 x', i64 y'] true)).get c = some r := fun x' y' c r hg => (fin x' y').get sN.wf hg (by simp)
      rcases hy with ⟨hi1, rfl⟩ | ⟨hi1, rfl⟩
      · refine ⟨_, _, _, rfl, ?_⟩
        refine bindO_i (place_stE _ _ g112 rfl) ?_
        exact ⟨nP C.g - (i + 1), by omega, D, N.next, _, _, rfl, by rw [Mem.get_put, if_pos rfl], hnn, sN.post (fin _ _), cN, bN, hN _ _ _ _ r5, hN _ _ _ _ r1, hN _ _ _ _ r2, hN _ _ _ _ r3, hN _ _ _ _ r4, ⟨o', oN1, by omega⟩, .inl ⟨rfl, i + 1, hi1, rfl, rfl, rfl⟩⟩
      · refine ⟨_, _, _, rfl, ?_⟩
        refine bindO_i (place_stE _ _ g112 rfl) ?_
        exact ⟨0, by omega, D, N.next, _, _, rfl, by rw [Mem.get_put, if_pos rfl], hnn, sN.post (fin _ _), cN, bN, hN _ _ _ _ r5, hN _ _ _ _ r1, hN _ _ _ _ r2, hN _ _ _ _ r3, hN _ _ _ _ r4, ⟨o', oN1, by omega⟩, .inr ⟨rfl, rfl⟩⟩
    clear hK96
    refine bindO_i (place_fa a) ?_
    simp only [zP_ptr]
    refine bindO_i (eLd_some (place_ld ha).1) ?_
    simp only [i64, zI_int]
    refine (c_badOf P hs.wf p C' hs.at' _).mono ?_
    rintro y M47 ⟨rfl, hk47⟩
    simp only [zB_bool]
    have k47 : ∀ (c : Nat) (r : Row), P.get c = some r → M47.get c = some r := fun c r hg => hk47.get hs.wf hg (by simp)
    have hltP : M32.next ≤ P.next := Nat.le_of_lt (Nat.lt_of_le_of_lt hal (hs.wf _ _ ha))
    refine condB_i (fun _ => ?_) (fun _ => ?_)
    · exact next M47 C' ⟨o, ho1, by omega⟩ (hs.post hk47) hcc hbs (k47 _ _ ha) (k47 _ _ q5) (k47 _ _ q1) (k47 _ _ q2) (k47 _ _ q3) (k47 _ _ q4) (Nat.le_trans hltP hk47.nxt)
    refine bindO_i (eLd_some (place_ld (k47 _ _ ha)).2.2) ?_
    refine ⟨_, _, rfl, ?_⟩
    have s47 : Step M M47 p C C' := hs.post hk47
    refine (c_load M47 s47.wf p C' s47.at' _ _).mono ?_
    rintro y M53 ⟨ux, rfl, _, _, s53⟩
    refine ⟨_, _, _, _, _, _, rfl, ?_⟩
    obtain ⟨rd1, rd2, rd3⟩ := calm_rd hcc (i := i) (by rw [hg']; exact hmay) (by rw [hg']; exact hi)
    rw [hg'] at rd1 rd2 rd3
    have hld : ldE (rdE C' (plB C.g i) (plK C.g i)) (rdB C' (plB C.g i) (plK C.g i)) = 5 := by
      unfold ldE
      rw [rd1, if_pos rfl, rd2, pgI_same hg' hbs, if_neg (hb i hi)]
    have hft : foot p C' = foot p C := hs.foot
    have k53 : ∀ (c : Nat) (r : Row), M.next ≤ c → M47.get c = some r → M53.get c = some r := fun c r hc' hg => step_get s53 s47.wf hg (fun hm => by rw [hft] at hm; have := hfo c hm; omega)
    have s53' : Step M M53 p C (rdC C' (plB C.g i) (plK C.g i)) := s47.trans s53
    rw [hld]
    generalize hT : lkT _ _ = T
    refine letP_i fun M60 h60 => ?_
    have e60 : M60 = M53.new (.cells (tgC tg0) true) := h60
    have hk60 : Keep M53 M60 [] := by rw [e60]; exact Keep.new s53.wf _
    have g60 : M60.get M53.next = some (.cells (tgC tg0) true) := by rw [e60]; exact get_new _ _
    clear h60 e60
    refine bindO_i (tg_st T g60 rfl) ?_
    have hk61 : Keep M53 (M60.put M53.next (.cells (tgC T) true)) [] := keep_put_new hk60 (Nat.le_refl _) (hk60.wf _ _ g60) _
    revert hk61
    generalize M60.put M53.next (.cells (tgC T) true) = M61
    intro hk61
    refine letP_i fun K94 hK94 => ?_
    simp only
    refine condB_i (fun h5 => by simp at h5) (fun _ => ?_)
    refine condB_i (fun _ => ?_) (fun h5 => by simp at h5)
    rw [hK94]
    have k61 : ∀ (c : Nat) (r : Row), M.next ≤ c → P.get c = some r → M61.get c = some r := fun c r hc' hg => hk61.get s53.wf (k53 _ _ hc' (k47 _ _ hg)) (by simp)
    have hr := rdC_same C' (plB C.g i) (plK C.g i)
    have hops : ∃ o' : Nat, (rdC C' (plB C.g i) (plK C.g i)).ops = C.ops + o' ∧ o' ≤ o + 1 := by
      have hnP := (nP_bnd hmay).2.1
      unfold rdC
      split
      · rw [hcc.bg.2.1]
        refine ⟨o + 1, ?_, Nat.le_refl _⟩
        show iAdd .i64 C'.ops 1 = _
        rw [iAdd, wrap_i64' (by omega) (by omega)]; omega
      · exact ⟨o, ho1, by omega⟩
    exact next M61 _ hops (s53'.post hk61) rd3 (hr.2.2.trans hbs) (k61 _ _ (by omega) ha) (k61 _ _ (by omega) q5) (k61 _ _ (by omega) q1) (k61 _ _ (by omega) q2) (k61 _ _ (by omega) q3) (k61 _ _ (by omega) q4) (Nat.le_trans hltP (Nat.le_trans hk47.nxt (Nat.le_trans s53.keep.nxt hk61.nxt)))
  · have q1' : P.get F.mf = some (.map []) := by rw [← hF]; exact q1
    refine (f_list_nil P hs.wf M16.next F q5 q1' (-1)).mono ?_
    rintro y M119 ⟨rfl, hk119⟩
    refine (r_all M119 hk119.wf _ [] SlAt.nil (by simp) (by simp) (by simp [nwF, nwN])).mono ?_
    rintro y M121 ⟨ps, hperm, _, hgr, hk121, _⟩
    have hps : ps = [] := by simpa [nwF, nwN] using hperm
    subst hps
    refine bindO_i (eLen_some hgr.at.len) ?_
    simp only [zI_int]
    have hkA := hk119.trans0 hk121
    refine ⟨fun z n N => z = 0 ∧ N = M121, ⟨0, rfl, rfl⟩, ?_⟩
    rintro _ z n N ⟨rfl, rfl⟩
    refine condB_i (fun hh => by simp at hh) (fun _ => ?_)
    refine (f_list_nil N hkA.wf M16.next F (hkA.get hs.wf q5 (by simp)) (hkA.get hs.wf q1' (by simp)) (-1)).mono ?_
    rintro y M157 ⟨rfl, hk157⟩
    refine (r_stale M157 hk157.wf _ [] SlAt.nil (by simp)).mono ?_
    rintro y M159 ⟨hgr2, hk159, _⟩
    refine bindO_i (eLen_some hgr2.at.len) ?_
    simp only [zI_int]
    have hkB := hkA.trans0 (hk157.trans0 hk159)
    refine ⟨fun z n N => z = 0 ∧ N = M159, ⟨0, rfl, rfl⟩, ?_⟩
    rintro _ z n N ⟨rfl, rfl⟩
    refine condB_i (fun hh => by simp at hh) (fun _ => ?_)
    have sB : Step M N p C C' := hs.post hkB
    have gB : ∀ (c : Nat) (r : Row), P.get c = some r → N.get c = some r := fun c r hg => hkB.get hs.wf hg (by simp)
    have hfl : FlAt N M16.next F p C' := ⟨gB _ _ q5, sB.at', by rw [← hF], by rw [← hF, hg']⟩
    have hll : (lostC C' C'.g.bl.toNat : Int) ≤ C'.g.sp := by rw [lostC_same hs.fs hbs, hg']; exact hl
    refine (f_worn N sB.wf M16.next F p C' hfl hll).mono ?_
    rintro y M189 ⟨rfl, hk189⟩
    simp only [i64, zI_int]
    have gC : ∀ (c : Nat) (r : Row), P.get c = some r → M189.get c = some r := fun c r hg => hk189.get sB.wf (gB _ _ hg) (by simp)
    refine ⟨M16.next, F, C', rfl, sB.post hk189, hcc, hbs, hfl.keep sB.wf hk189, ⟨o, ho1, by omega⟩, ?_, ?_, ?_, ?_, ?_, ?_, ?_, ?_, ?_, ?_, ?_, ?_, ?_⟩
    all_goals (rw [← hF])
    all_goals first | exact gC _ _ q1 | exact gC _ _ q2 | exact gC _ _ q3 | exact gC _ _ q4 | rfl | (dsimp only; omega)

end Go.Proofs.YtfkkmhadipfobaaGreat

/- flash: the calls at no flash; FlashNone but for awake. -/
set_option maxRecDepth 100000
namespace Go.Proofs.YtfkkmhadipfobaaGreat
open Go.AM

theorem nil_nil22 {M : Mem} {xo yo : Operand} : eBin tb .eql 22 xo yo (.val (.pointer none)) (.val (.pointer none)) M = some (.val (.bool true), M) := eBin_some (by kernel_rfl)

theorem n_mount (M : Mem) : CallA tb.P 6 [.val (.pointer none)] M fun y N => y = .tup [.val (.pointer none), i64 1] ∧ N = M := by
  refine F6_ok ?_
  unfold F6
  rw [nil_nil24, bindO_some]
  simp only [zB_bool]
  exact condB_i (fun _ => ⟨by trivial, by trivial⟩) (fun h => by simp at h)
end Go.Proofs.YtfkkmhadipfobaaGreat

/- flash: a new chip is bare. -/
set_option maxRecDepth 100000
namespace Go.Proofs.YtfkkmhadipfobaaGreat
open Go.AM

theorem bare_new {g : Geo} {fsA : AV} {fs : List Flt} {bb : Nat} {bs : List Blk} (hm : mayG g = true) (hb : blank g bs) (hl : bs.length = g.bl.toNat) : bare (newChip g fsA fs bb bs) := by
  intro i hi
  have hi' : i < nP g := hi
  obtain ⟨_, h1, h2, _⟩ := pl_is hm hi'
  have hlt : plB g i < bs.length := by omega
  have e := hb _ (List.getElem_mem hlt)
  have hget : (newChip g fsA fs bb bs).bs[plB (newChip g fsA fs bb bs).g i]? = some (bs[plB g i]'hlt) := List.getElem?_eq_getElem hlt
  have hr : 40 ≤ rawN g ∧ rawN g ≤ 80 := by
    have := mayG_iff.1 hm
    unfold rawN
    omega
  have hp : pgI (newChip g fsA fs bb bs) i = List.replicate (rawN g) 255#8 := by
    unfold pgI
    rw [hget]
    show pageB _ (rawN g) (plK g i) = _
    rw [e]
    exact rep_page h2
  rw [hp, state_blank hr.1 hr.2]
  decide

end Go.Proofs.YtfkkmhadipfobaaGreat

/- geom.Logical. -/
set_option maxRecDepth 100000
namespace Go.Proofs.YtfkkmhadipfobaaGreat
open Go.AM

def logG (g : Geo) : Int := iQuo .i64 (iSub .i64 (iMul .i64 (iSub .i64 (iSub .i64 g.bl g.sp) 3) g.pg) 4) 2
theorem c_half (M : Mem) (hw : M.WF) (g : Geo) : CallA tb.P 72 [geoA g] M fun y N => y = i64 (logG g) ∧ Keep M N [] := by
  refine F72_ok ?_
  unfold F72
  refine ⟨_, _, _, _, _, rfl, ?_⟩
  simp only [letP_eq]
  have hg := get_new M (.cells (geoC g) true)
  have hK := Keep.new hw (.cells (geoC g) true)
  obtain ⟨l0, l1, l2, l3, l4, l5⟩ := geo_ld hg
  refine bindO_i (eLd_some l0) ?_
  simp only [i64, zI_int]
  refine bindO_i (eLd_some l3) ?_
  simp only [i64, zI_int]
  refine bindO_i (eLd_some l1) ?_
  simp only [i64, zI_int]
  exact ⟨by first | rfl | trivial, hK⟩
theorem c_logical (M : Mem) (hw : M.WF) (g : Geo) (hm : mayG g = true) : CallA tb.P 38 [geoA g] M fun y N => y = i64 (logG g) ∧ Keep M N [] := by
  refine F38_ok ?_
  unfold F38
  refine ⟨_, _, _, _, _, rfl, ?_⟩
  simp only [letP_eq]
  have hg := get_new M (.cells (geoC g) true)
  have hK := Keep.new hw (.cells (geoC g) true)
  refine bindO_i (eLd_some (geo_ld hg).2.2.2.2.2) ?_
  refine ⟨_, _, _, _, _, rfl, ?_⟩
  refine (c_may102 _ hK.wf g).mono ?_
  rintro y N ⟨rfl, hk⟩
  simp only [zB_bool, hm]
  refine condB_i (fun h => by simp at h) (fun _ => ?_)
  refine bindO_i (eLd_some (geo_ld (hk.get hK.wf hg (by simp))).2.2.2.2.2) ?_
  refine ⟨_, _, _, _, _, rfl, ?_⟩
  refine (c_half N hk.wf g).mono ?_
  rintro y N' ⟨rfl, hk'⟩
  simp only [i64, zI_int]
  exact ⟨by trivial, hK.trans0 (hk.trans0 hk')⟩

end Go.Proofs.YtfkkmhadipfobaaGreat

/- flash: asked; Logical, Chip, Degraded of a flash. -/
set_option maxRecDepth 100000
namespace Go.Proofs.YtfkkmhadipfobaaGreat
open Go.AM

theorem nil_eq22 {p : Nat} {M : Mem} {xo yo : Operand} : eBin tb .eql 22 xo yo (.ptr p 0) (.val (.pointer none)) M = some (.val (.bool false), M) := eBin_some (by kernel_rfl)
theorem FlAt.ldg {M : Mem} {f : Nat} {F : Fl} {p : Nat} {C : Chip} (h : FlAt M f F p C) : eLd tb 40 (.ptr f 1) M = some (geoA C.g, M) := by
  rw [← h.geo]; exact eLd_some (ld_agg (n := 5) ty40 rfl rfl h.fl (by simp [flC]))

def askF (C : Chip) (at' : Int) : Int := if C.off = true then 9 else if 0 ≤ at' ∧ at' < logG C.g then 0 else 2
theorem f_asked (M : Mem) (hw : M.WF) (f : Nat) (F : Fl) (p : Nat) (C : Chip) (h : FlAt M f F p C) (z : Int) : CallA tb.P 23 [.ptr f 0, i64 z] M fun y N => y = i64 (askF C z) ∧ Keep M N [] := by
  refine F23_ok ?_
  unfold F23
  simp only [i64, zI_int]
  rw [nil_eq22, bindO_some]
  simp only [zB_bool, condB_false]
  refine bindO_i eNil_ptr ?_
  refine bindO_i (fl_fa f).1 ?_
  simp only [zP_ptr]
  refine bindO_i h.ldp ?_
  refine (c_on M hw p C h.chip).mono ?_
  rintro y M10 ⟨rfl, hM⟩
  rw [hM]
  clear hM
  simp only [zB_bool]
  refine condB_i (fun ho => ?_) (fun ho => ?_)
  · have : C.off = true := by simpa using ho
    exact ⟨by unfold askF; rw [if_pos this], Keep.refl hw⟩
  have ho' : C.off ≠ true := by simpa using ho
  refine letP_i fun K hK => ?_
  refine condB_i (fun hz => ?_) (fun hz => ?_)
  · have hz' : z < 0 := of_decide_eq_true hz
    rw [hK]
    simp only [condB_true]
    exact ⟨by unfold askF; rw [if_neg ho', if_neg (by omega)], Keep.refl hw⟩
  · have hz' : ¬ z < 0 := of_decide_eq_false hz
    refine bindO_i eNil_ptr ?_
    refine bindO_i (fl_fa f).2.1 ?_
    simp only [zP_ptr]
    refine bindO_i h.ldg ?_
    refine ⟨_, _, _, _, _, rfl, ?_⟩
    refine (c_logical M hw C.g h.chip.may).mono ?_
    rintro y M23 ⟨rfl, hk⟩
    simp only [i64, zI_int]
    rw [hK]
    show condB _ _ _
    refine condB_i (fun hge => ?_) (fun hge => ?_)
    · have : z ≥ logG C.g := of_decide_eq_true hge
      exact ⟨by unfold askF; rw [if_neg ho', if_neg (by omega)], hk⟩
    · have : ¬ z ≥ logG C.g := of_decide_eq_false hge
      exact ⟨by unfold askF; rw [if_neg ho', if_pos (by omega)], hk⟩

end Go.Proofs.YtfkkmhadipfobaaGreat

/- flash: Logical, Chip, Degraded of a flash. -/
set_option maxRecDepth 100000
namespace Go.Proofs.YtfkkmhadipfobaaGreat
open Go.AM

theorem f_logical (M : Mem) (hw : M.WF) (f : Nat) (F : Fl) (p : Nat) (C : Chip) (h : FlAt M f F p C) : CallA tb.P 12 [.ptr f 0] M fun y N => y = i64 (logG C.g) ∧ Keep M N [] := by
  refine F12_ok ?_
  unfold F12
  rw [nil_eq22, bindO_some]
  simp only [zB_bool, condB_false]
  refine bindO_i eNil_ptr ?_
  refine bindO_i (fl_fa f).2.1 ?_
  simp only [zP_ptr]
  refine bindO_i h.ldg ?_
  refine ⟨_, _, _, _, _, rfl, ?_⟩
  refine (c_logical M hw C.g h.chip.may).mono ?_
  rintro y N ⟨rfl, hk⟩
  simp only [i64, zI_int]
  exact ⟨by trivial, hk⟩
end Go.Proofs.YtfkkmhadipfobaaGreat

/- flash: Degraded of a flash. -/
set_option maxRecDepth 100000
namespace Go.Proofs.YtfkkmhadipfobaaGreat
open Go.AM
end Go.Proofs.YtfkkmhadipfobaaGreat

/- flash: maps of pages (numbers to slices of bytes). -/
set_option maxRecDepth 100000
namespace Go.Proofs.YtfkkmhadipfobaaGreat
open Go.AM

theorem ty57' : tb.ty.get 57 = some ⟨.mp 3 23, 1, 8, [.map none], none⟩ := by kernel_rfl
theorem ty57 : ∃ ti, tb.ty.get 57 = some ti ∧ ti.k = .mp 3 23 := ⟨_, ty57', rfl⟩

def mP (m : List (Int × AV)) : List (AV × AV) := m.map fun q => (i64 q.1, q.2)
def lkP : List (Int × AV) → Int → Option (Nat × AV)
  | [], _ => none
  | q :: m, p => if p = q.1 then some (0, q.2) else (lkP m p).map fun r => (r.1 + 1, r.2)
def updP (m : List (Int × AV)) (p : Int) (x : AV) : List (Int × AV) := match lkP m p with
  | none => m ++ [(p, x)]
  | some q => m.set q.1 (p, x)

theorem find_mP (p : Int) : ∀ (m : List (Int × AV)) (o : Nat), findA tb 3 (i64 p) (mP m) o = some ((lkP m p).map fun q => (o + q.1, i64 p, q.2))
  | [], _ => rfl
  | q :: m, o => by
    show (match eqA tb 60 3 (i64 p) (i64 q.1) with | some true => some (some (o, i64 q.1, q.2)) | some false => findA tb 3 (i64 p) (mP m) (o + 1) | none => none) = _
    rw [eqA_int]
    by_cases h : p = q.1
    · subst h
      simp [lkP]
    · have hb : (p == q.1) = false := by simpa using h
      rw [hb]
      simp only
      rw [find_mP p m (o + 1)]
      rw [show lkP (q :: m) p = (lkP m p).map (fun r => (r.1 + 1, r.2)) by rw [lkP, if_neg h], Option.map_map]
      congr 1
      cases lkP m p with
      | none => rfl
      | some r => simp [Nat.add_assoc, Nat.add_comm 1 r.1]

theorem look_mP {M : Mem} {b : Nat} {m : List (Int × AV)} (hg : M.get b = some (.map (mP m))) (p : Int) (ok : Bool) :
    evLookup tb 57 (.map b) (i64 p) ok M = some (cond ok (.tup [((lkP m p).map (·.2)).getD (.val (.slice none 0 0)), .val (.bool (lkP m p).isSome)]) (((lkP m p).map (·.2)).getD (.val (.slice none 0 0)))) := by
  obtain ⟨ti, h1, h2⟩ := ty57
  unfold evLookup
  rw [h1]
  simp only [h2]
  rw [ty3, ty23]
  have he : entsOf M (.map b) = some (mP m) := by unfold entsOf; simp only; rw [hg]
  rw [he]
  have hk : keyOk tb 60 3 (i64 p) = true := by unfold keyOk; rw [ty3]
  simp only [hk, cond_true]
  rw [find_mP]
  cases h : lkP m p with
  | none => cases ok <;> rfl
  | some q => cases ok <;> rfl

end Go.Proofs.YtfkkmhadipfobaaGreat

/- flash: a page put into a map of pages. -/
set_option maxRecDepth 100000
namespace Go.Proofs.YtfkkmhadipfobaaGreat
open Go.AM

theorem put_mP {M : Mem} {b : Nat} {m : List (Int × AV)} (hg : M.get b = some (.map (mP m))) (p : Int) (x : AV) : evMapUpdate tb 57 (.map b) (i64 p) x M = some (M.put b (.map (mP (updP m p x)))) := by
  obtain ⟨ti, h1, h2⟩ := ty57
  unfold evMapUpdate
  rw [h1]
  simp only [h2]
  rw [ty3, hg]
  have hk : keyOk tb 60 3 (i64 p) = true := by unfold keyOk; rw [ty3]
  simp only [hk, cond_true]
  rw [find_mP]
  unfold updP
  cases h : lkP m p with
  | none => simp [mP]
  | some q =>
    have hf : (i64 p).flat = some (.int .i64 p) := rfl
    have hs : sameV (.int .i64 p) (.int .i64 p) = true := by
      unfold sameV
      simp [sameScalar]
    simp only [Option.map_some, hf, hs, cond_true, Nat.zero_add]
    simp [mP, List.map_set]

end Go.Proofs.YtfkkmhadipfobaaGreat
