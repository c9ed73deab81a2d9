import Derived.Test.YtfkkmhadipfobaaGreatA45
import Derived.Test.YtfkkmhadipfobaaGreatK1
import Derived.Test.YtfkkmhadipfobaaGreatK2
import Derived.Test.YtfkkmhadipfobaaGreatQA
set_option linter.unusedSimpArgs false
set_option linter.unusedVariables false
set_option linter.unusedSectionVars false
/- flash: get. -/
set_option maxRecDepth 100000
namespace Go.Proofs.YtfkkmhadipfobaaGreat
open Go.AM

theorem FlAt.ld7 {M : Mem} {f : Nat} {F : Fl} {p : Nat} {C : Chip} (h : FlAt M f F p C) : eLd tb 57 (.ptr f 7) M = some (.map F.mb, M) := eLd_some (ld_cell ty57' rfl h.fl rfl)
theorem FlAt.ld8 {M : Mem} {f : Nat} {F : Fl} {p : Nat} {C : Chip} (h : FlAt M f F p C) : eLd tb 57 (.ptr f 8) M = some (.map F.mp, M) := eLd_some (ld_cell ty57' rfl h.fl rfl)

/-- Nothing is put in wait, nothing is there: nothing is got. -/
theorem f_get_none (M : Mem) (f : Nat) (F : Fl) (p : Nat) (C : Chip) (h : FlAt M f F p C) {ma mb : List (Int × AV)} (ha : M.get F.mp = some (.map (mP ma))) (hb : M.get F.mb = some (.map (mP mb))) (z : Int) (h1 : lkP ma z = none) :
    CallA tb.P 24 [.ptr f 0, i64 z] M fun y N => y = .tup [((lkP mb z).map (·.2)).getD (.val (.slice none 0 0)), .val (.bool (lkP mb z).isSome)] ∧ N = M := by
  refine F24_ok ?_
  unfold F24
  simp only [i64, zI_int]
  refine bindO_i eNil_ptr ?_
  refine bindO_i (fl_fa f).2.2.2.2.1 ?_
  simp only [zP_ptr]
  refine bindO_i h.ld8 ?_
  refine bindO_i (eLk_some (look_mP ha z true)) ?_
  rw [h1]
  refine ⟨_, _, rfl, ?_⟩
  refine condB_i (fun h => by simp at h) (fun _ => ?_)
  refine bindO_i eNil_ptr ?_
  refine bindO_i (fl_fa f).2.2.2.1 ?_
  simp only [zP_ptr]
  refine bindO_i h.ld7 ?_
  refine bindO_i (eLk_some (look_mP hb z true)) ?_
  exact ⟨_, _, rfl, rfl, by trivial⟩

end Go.Proofs.YtfkkmhadipfobaaGreat

/- flash: Read where no page is. -/
set_option maxRecDepth 100000
namespace Go.Proofs.YtfkkmhadipfobaaGreat
open Go.AM

theorem f_read_none (M : Mem) (hw : M.WF) (f : Nat) (F : Fl) (p : Nat) (C : Chip) (h : FlAt M f F p C) {ma mb : List (Int × AV)} (ha : M.get F.mp = some (.map (mP ma))) (hb : M.get F.mb = some (.map (mP mb))) (z : Int) (h1 : lkP ma z = none) (h2 : lkP mb z = none) (hz : askF C z = 0) :
    CallA tb.P 5 [.ptr f 0, i64 z] M fun y N => y = .tup [.val (.slice none 0 0), i64 4] ∧ Keep M N [] := by
  refine F5_ok ?_
  unfold F5
  simp only [i64, zI_int]
  refine (f_asked M hw f F p C h z).mono ?_
  rintro y M3 ⟨rfl, hk⟩
  rw [hz]
  simp only [i64, zI_int]
  refine condB_i (fun h => by simp at h) (fun _ => ?_)
  refine (f_get_none M3 f F p C (h.keep hw hk) (hk.get hw ha (by simp)) (hk.get hw hb (by simp)) z h1).mono ?_
  rintro y M6 ⟨rfl, hM⟩
  rw [h2, hM]
  refine ⟨_, _, rfl, ?_⟩
  refine condB_i (fun _ => ?_) (fun h => by simp at h)
  exact ⟨by trivial, hk⟩

end Go.Proofs.YtfkkmhadipfobaaGreat

/- flash: Read, Trim, Write, Flush, Mount of a flash that has written no page yet, and of one without power. -/
set_option maxRecDepth 100000
namespace Go.Proofs.YtfkkmhadipfobaaGreat
open Go.AM

theorem fa60_9 {M : Mem} (f : Nat) : eFA tb 60 (.ptr f 0) 9 M = some (.ptr f 13, M) := eFA_some (by unfold evFieldAddr; rw [ty60]; rfl)
theorem FlAt.ldDeg {M : Mem} {f : Nat} {F : Fl} {p : Nat} {C : Chip} (h : FlAt M f F p C) : eLd tb 4 (.ptr f 13) M = some (.val (.bool F.deg), M) := eLd_some (ld_cell ty4 rfl h.fl rfl)
theorem FlAt.ldBy {M : Mem} {f : Nat} {F : Fl} {p : Nat} {C : Chip} (h : FlAt M f F p C) : eLd tb 3 (.ptr f 3) M = some (.val (.int .i64 C.g.by'), M) := by
  rw [← h.geo]; exact eLd_some (ld_cell ty3 rfl h.fl rfl)

theorem f_read_ask (M : Mem) (hw : M.WF) (f : Nat) (F : Fl) (p : Nat) (C : Chip) (h : FlAt M f F p C) (z : Int) (hz : askF C z ≠ 0) :
    CallA tb.P 5 [.ptr f 0, i64 z] M fun y N => y = .tup [.val (.slice none 0 0), i64 (askF C z)] ∧ Keep M N [] := by
  refine F5_ok ?_
  unfold F5
  simp only [i64, zI_int]
  refine (f_asked M hw f F p C h z).mono ?_
  rintro y M3 ⟨rfl, hk⟩
  simp only [i64, zI_int]
  exact condB_i (fun _ => ⟨by first | rfl | trivial, hk⟩) (fun h => absurd (by simpa using h) hz)

theorem f_trim_ask (M : Mem) (hw : M.WF) (f : Nat) (F : Fl) (p : Nat) (C : Chip) (h : FlAt M f F p C) (z : Int) (hz : askF C z ≠ 0) :
    CallA tb.P 8 [.ptr f 0, i64 z] M fun y N => y = i64 (askF C z) ∧ Keep M N [] := by
  refine F8_ok ?_
  unfold F8
  simp only [i64, zI_int]
  refine (f_asked M hw f F p C h z).mono ?_
  rintro y M3 ⟨rfl, hk⟩
  simp only [i64, zI_int]
  exact condB_i (fun _ => ⟨by first | rfl | trivial, hk⟩) (fun h => absurd (by simpa using h) hz)

theorem f_write_ask (M : Mem) (hw : M.WF) (f : Nat) (F : Fl) (p : Nat) (C : Chip) (h : FlAt M f F p C) (z : Int) (x : AV) (hz : askF C z ≠ 0) :
    CallA tb.P 7 [.ptr f 0, i64 z, x] M fun y N => y = i64 (askF C z) ∧ Keep M N [] := by
  refine F7_ok ?_
  unfold F7
  simp only [i64, zI_int]
  refine (f_asked M hw f F p C h z).mono ?_
  rintro y M3 ⟨rfl, hk⟩
  simp only [i64, zI_int]
  exact condB_i (fun _ => ⟨by first | rfl | trivial, hk⟩) (fun h => absurd (by simpa using h) hz)

theorem f_trim_none (M : Mem) (hw : M.WF) (f : Nat) (F : Fl) (p : Nat) (C : Chip) (h : FlAt M f F p C) {ma mb : List (Int × AV)} (ha : M.get F.mp = some (.map (mP ma))) (hb : M.get F.mb = some (.map (mP mb))) (z : Int) (h1 : lkP ma z = none) (h2 : lkP mb z = none) (hz : askF C z = 0) (hd : F.deg = false) :
    CallA tb.P 8 [.ptr f 0, i64 z] M fun y N => y = i64 4 ∧ Keep M N [] := by
  refine F8_ok ?_
  unfold F8
  simp only [i64, zI_int]
  refine (f_asked M hw f F p C h z).mono ?_
  rintro y M3 ⟨rfl, hk⟩
  have h3 := h.keep hw hk
  rw [hz]
  simp only [i64, zI_int]
  refine condB_i (fun h => by simp at h) (fun _ => ?_)
  refine bindO_i eNil_ptr ?_
  refine bindO_i (fa60_9 f) ?_
  simp only [zP_ptr]
  refine bindO_i h3.ldDeg ?_
  rw [hd]
  simp only [zB_bool, condB_false]
  refine (f_get_none M3 f F p C h3 (hk.get hw ha (by simp)) (hk.get hw hb (by simp)) z h1).mono ?_
  rintro y M6 ⟨rfl, hM⟩
  rw [h2, hM]
  refine ⟨_, _, rfl, ?_⟩
  exact condB_i (fun _ => ⟨by first | rfl | trivial, hk⟩) (fun h => by simp at h)

theorem f_write_len (M : Mem) (hw : M.WF) (f : Nat) (F : Fl) (p : Nat) (C : Chip) (h : FlAt M f F p C) (z : Int) (x : AV) (l : List (BitVec 8)) (hx : BytesAt M x l) (hz : askF C z = 0) (hl : (l.length : Int) ≠ C.g.by') :
    CallA tb.P 7 [.ptr f 0, i64 z, x] M fun y N => y = i64 2 ∧ Keep M N [] := by
  refine F7_ok ?_
  unfold F7
  simp only [i64, zI_int]
  refine (f_asked M hw f F p C h z).mono ?_
  rintro y M3 ⟨rfl, hk⟩
  have h3 := h.keep hw hk
  rw [hz]
  simp only [i64, zI_int]
  refine condB_i (fun h => by simp at h) (fun _ => ?_)
  have hx3 : BytesAt M3 x l := SlAt.keep0 hx hw hk
  refine bindO_i (eLen_some hx3.len) ?_
  simp only [zI_int]
  refine bindO_i eNil_ptr ?_
  refine bindO_i (fl_fa f).2.1 ?_
  simp only [zP_ptr]
  refine bindO_i h3.ldBy ?_
  simp only [zI_int]
  exact condB_i (fun _ => ⟨by first | rfl | trivial, hk⟩) (fun h => absurd (by simpa using h) hl)

theorem f_write (M : Mem) (hw : M.WF) (f : Nat) (F : Fl) (p : Nat) (C : Chip) (h : FlAt M f F p C) {ma : List (Int × AV)} (ha : M.get F.mp = some (.map (mP ma))) (z : Int) (x : AV) (l : List (BitVec 8)) (hx : BytesAt M x l) (hz : askF C z = 0) (hl : (l.length : Int) = C.g.by') (h0 : 0 < l.length) (h1 : l.length ≤ 1000) (hd : F.deg = false) :
    CallA tb.P 7 [.ptr f 0, i64 z, x] M fun y N => ∃ u K, y = i64 0 ∧ Keep M K [] ∧ Gr K u l ∧ (∀ c, inBlk u c → M.next ≤ c) ∧ K.get F.mp = some (.map (mP ma)) ∧ N = K.put F.mp (.map (mP (updP ma z u))) := by
  refine F7_ok ?_
  unfold F7
  simp only [i64, zI_int]
  refine (f_asked M hw f F p C h z).mono ?_
  rintro y M3 ⟨rfl, hk⟩
  have h3 := h.keep hw hk
  rw [hz]
  simp only [i64, zI_int]
  refine condB_i (fun h => by simp at h) (fun _ => ?_)
  have hx3 : BytesAt M3 x l := SlAt.keep0 hx hw hk
  refine bindO_i (eLen_some hx3.len) ?_
  simp only [zI_int]
  refine bindO_i eNil_ptr ?_
  refine bindO_i (fl_fa f).2.1 ?_
  simp only [zP_ptr]
  refine bindO_i h3.ldBy ?_
  simp only [zI_int]
  refine condB_i (fun h => by simp at h; omega) (fun _ => ?_)
  refine bindO_i eNil_ptr ?_
  refine bindO_i (fa60_9 f) ?_
  simp only [zP_ptr]
  refine bindO_i h3.ldDeg ?_
  rw [hd]
  simp only [zB_bool, condB_false]
  refine bindO_i eNil_ptr ?_
  refine bindO_i (fl_fa f).2.2.2.2.1 ?_
  simp only [zP_ptr]
  refine bindO_i h3.ld8 ?_
  refine (t_clone M3 hk.wf x l hx3 h0 (by omega)).mono ?_
  rintro u K ⟨hg, hk2, hf⟩
  have h4 := h3.keep hk.wf hk2
  have hkK := hk.trans0 hk2
  have hm := hkK.get hw ha (by simp)
  refine ⟨bindO_i h4.ld8 (by first | rfl | trivial), ?_⟩
  refine bindO_i (eMU_some (put_mP hm z u)) ?_
  exact ⟨u, K, by first | rfl | trivial, hkK, hg, fun c hc => Nat.le_trans hk.nxt (hf c hc), hm, rfl⟩

theorem nil_sl {M : Mem} {xo yo : Operand} {b o n c : Nat} {e : Option Nat} : eBin tb .neq 23 xo yo (.sl b o n c e) (.val (.slice none 0 0)) M = some (.val (.bool true), M) := eBin_some (by kernel_rfl)

/-- A page that waits is read. -/
theorem f_read_some (M : Mem) (hw : M.WF) (f : Nat) (F : Fl) (p : Nat) (C : Chip) (h : FlAt M f F p C) {ma : List (Int × AV)} (ha : M.get F.mp = some (.map (mP ma))) (z : Int) {i : Nat} {u : AV} {l : List (BitVec 8)} (h1 : lkP ma z = some (i, u)) (hu : Gr M u l) (h0 : 0 < l.length) (hl : l.length ≤ 1000) (hz : askF C z = 0) :
    CallA tb.P 5 [.ptr f 0, i64 z] M fun y N => ∃ v, y = .tup [v, i64 0] ∧ Gr N v l ∧ Keep M N [] ∧ ∀ c, inBlk v c → M.next ≤ c := by
  refine F5_ok ?_
  unfold F5
  simp only [i64, zI_int]
  refine (f_asked M hw f F p C h z).mono ?_
  rintro y M3 ⟨rfl, hk⟩
  have h3 := h.keep hw hk
  rw [hz]
  simp only [i64, zI_int]
  refine condB_i (fun h => by simp at h) (fun _ => ?_)
  have hget : CallA tb.P 24 [.ptr f 0, i64 z] M3 fun y N => y = .tup [u, .val (.bool true)] ∧ N = M3 := by
    refine F24_ok ?_
    unfold F24
    simp only [i64, zI_int]
    refine bindO_i eNil_ptr ?_
    refine bindO_i (fl_fa f).2.2.2.2.1 ?_
    simp only [zP_ptr]
    refine bindO_i h3.ld8 ?_
    refine bindO_i (eLk_some (look_mP (hk.get hw ha (by simp)) z true)) ?_
    rw [h1]
    refine ⟨_, _, rfl, ?_⟩
    refine condB_i (fun _ => ?_) (fun h => by simp at h)
    rcases hu with ⟨_, hu2⟩ | ⟨b, hu1, _⟩
    · rw [hu2] at h0; simp at h0
    · simp only [Option.map_some, Option.getD_some]
      rw [hu1]
      rw [nil_sl, bindO_some]
      simp only [zB_bool]
      exact ⟨by first | rfl | trivial, by first | rfl | trivial⟩
  refine hget.mono ?_
  rintro y M6 ⟨rfl, hM⟩
  rw [hM]
  refine ⟨_, _, rfl, ?_⟩
  refine condB_i (fun h => by simp at h) (fun _ => ?_)
  have hu3 : BytesAt M3 u l := SlAt.keep0 hu.at hw hk
  refine (t_clone M3 hk.wf u l hu3 h0 (by omega)).mono ?_
  rintro v K ⟨hg, hk2, hf⟩
  exact ⟨v, by first | rfl | trivial, hg, hk.trans0 hk2, fun c hc => Nat.le_trans hk.nxt (hf c hc)⟩

theorem f_flush_off (M : Mem) (hw : M.WF) (f : Nat) (F : Fl) (p : Nat) (C : Chip) (h : FlAt M f F p C) (ho : C.off = true) : CallA tb.P 9 [.ptr f 0] M fun y N => y = i64 9 ∧ N = M := by
  refine F9_ok ?_
  unfold F9
  rw [nil_eq22, bindO_some]
  simp only [zB_bool, condB_false]
  refine bindO_i eNil_ptr ?_
  refine bindO_i (fl_fa f).1 ?_
  simp only [zP_ptr]
  refine bindO_i h.ldp ?_
  refine (c_on M hw p C h.chip).mono ?_
  rintro y M9 ⟨rfl, hM⟩
  rw [hM, ho]
  simp only [zB_bool]
  exact condB_i (fun _ => ⟨by first | rfl | trivial, by first | rfl | trivial⟩) (fun h => by simp at h)

theorem f_mount_off (M : Mem) (hw : M.WF) (p : Nat) (C : Chip) (h : ChipAt M p C) (ho : C.off = true) : CallA tb.P 6 [.ptr p 0] M fun y N => y = .tup [.val (.pointer none), i64 9] ∧ N = M := by
  refine F6_ok ?_
  unfold F6
  refine bindO_i nil_eq ?_
  simp only [zB_bool]
  refine condB_i (fun h => by simp at h) (fun _ => ?_)
  refine (c_on M hw p C h).mono ?_
  rintro y M4 ⟨rfl, hM4⟩
  rw [hM4, ho]
  simp only [zB_bool]
  exact condB_i (fun _ => ⟨by first | rfl | trivial, by first | rfl | trivial⟩) (fun h => by simp at h)

end Go.Proofs.YtfkkmhadipfobaaGreat

/- flash: data of the laws. -/
set_option maxRecDepth 100000
namespace Go.Proofs.YtfkkmhadipfobaaGreat
open Go.AM

theorem f_data (M : Mem) (hw : M.WF) (a : Int) (n : Nat) (hn : n ≤ 1000) : CallA tb.P 22 [.val (.int .u8 a), i64 (n : Int)] M fun y N => Keep M N [] := by
  refine F22_ok ?_
  unfold F22
  simp only [i64, zI_int]
  have hmk := make_sl (T := tb) (M := M) ty23 rfl ty5 (l := n) (c := n) (by omega) (by simp only; omega) (by omega) (k1 := .i64) (k2 := .i64)
  refine bindO_i hmk ?_
  have hlen : (repA n (ofVs ([Value.int .u8 0] : List Value))).length = n := by
    simp only [ofVs, ofV, repA_one', List.length_replicate]
  have hw1 : (M.new (.cells (repA n (ofVs ([Value.int .u8 0] : List Value))) true)).WF := hw.new _
  refine ⟨fun z q P => ∃ (k : Nat) (cs : List AV), z = (k : Int) ∧ q = n - k ∧ k ≤ n ∧ Keep M P [] ∧ P.get M.next = some (.cells cs true) ∧ cs.length = n, ⟨n, 0, _, rfl, rfl, Nat.zero_le _, Keep.new hw _, get_new _ _, hlen⟩, ?_⟩
  rintro _ z q P ⟨k, cs, rfl, rfl, hk, hK, hg, hc⟩
  refine condB_i (fun hlt => ?_) (fun _ => hK)
  have hlt : k < n := Int.ofNat_lt.1 (of_decide_eq_true hlt)
  have hia : eIA tb 23 (.sl M.next 0 n n none) (.val (.int .i64 (k : Int))) P = some (.ptr M.next k, P) := by
    refine eIA_some ?_
    unfold evIndexAddr
    rw [ty23]
    simp only [ty5, Int.toNat_natCast]
    have h0 : decide (0 ≤ (k : Int)) = true := by simp
    simp only [h0, blt_of hlt, cond_true]
    simp
  refine bindO_i hia ?_
  simp only [zP_ptr]
  refine bindO_i (eSt_some (st_cell ty5 rfl rfl hg (by omega))) ?_
  refine ⟨n - (k + 1), by omega, k + 1, _, iInc (by omega), rfl, hlt, keep_put_new hK (Nat.le_refl _) (hK.wf _ _ hg) _, by rw [Mem.get_put, if_pos rfl], by rw [List.length_set]; exact hc⟩

end Go.Proofs.YtfkkmhadipfobaaGreat

/- Functions as what has to be shown. (Printed by pr.py.) -/
namespace Go.Proofs.YtfkkmhadipfobaaGreat
open Go.AM
set_option maxRecDepth 100000

def F4p1 (a0 : AV) (a1 : AV) (a2 : AV) (M : Mem) (J1 : AV → AV → AV → Int → Int → Nat → Mem → Prop) (Q : AV → Mem → Prop) : Prop :=
  ∃ (z1 : Int) (z2 : Int) (z3 : Int) (z4 : Int) (z5 : Int), a0 = (.agg [(.val (.int .i64 z1)), (.val (.int .i64 z2)), (.val (.int .i64 z3)), (.val (.int .i64 z4)), (.val (.int .i64 z5))]) ∧
  zI .i64 a1 fun z6 => letP (M.new (.cells [(.val (.int .i64 z1)), (.val (.int .i64 z2)), (.val (.int .i64 z3)), (.val (.int .i64 z4)), (.val (.int .i64 z5))] true)) fun M7 => bindO (eLen tb false 23 a2 M7) fun y8 => zI .i64 y8.1 fun z9 => condB (decide (z9 > (200 : Int))) (CallA tb.P 14 [] M7 fun y10 M11 => zB y10 fun b12 => Q (.val (.bool b12)) M11) (bindO (eLd tb 40 (.ptr M.next 0) M7) fun y13 => ∃ (z14 : Int) (z15 : Int) (z16 : Int) (z17 : Int) (z18 : Int), y13.1 =
  (.agg [(.val (.int .i64 z14)), (.val (.int .i64 z15)), (.val (.int .i64 z16)), (.val (.int .i64 z17)), (.val (.int .i64 z18))]) ∧
  (CallA tb.P 15 [(.agg [(.val (.int .i64 z14)), (.val (.int .i64 z15)), (.val (.int .i64 z16)), (.val (.int .i64 z17)), (.val (.int .i64 z18))]), (.val (.slice none 0 0))] M7 fun y19 M20 => CallA tb.P 6 [y19] M20 fun y21 M22 => ∃ (x23 : AV) (z24 : Int), y21 =
  (.tup [x23, (.val (.int .i64 z24))]) ∧
  (bindO (eBin tb .eql 33 (.tmp 36) (.const (.pointer none)) y19 (.val (.pointer none)) M22) fun y25 => zB y25.1 fun b26 => condB (b26) (letP (fun (b32 : Bool) (M33 : Mem) => Q (.val (.bool b32)) M33) fun K34 => bindO (eBin tb .eql 22 (.tmp 38) (.const (.pointer none)) x23 (.val (.pointer none)) M22) fun y27 => zB y27.1 fun b28 => condB (b28) (condB (z24 ==
  (1 : Int)) (CallA tb.P 14 [] M22 fun y29 M30 => zB y29 fun b31 => K34 b31 M30) (K34 false M22)) (K34 false M22)) (letP (fun (b37 : Bool) => condB (b37) (Q (.val (.bool false)) M22) (letP (fun (b42 : Bool) (M43 : Mem) => letP (fun (z51 : Int) => condB (!b42) (J1 (.ptr M.next 0) y19 x23 z51 (2 : Int) 0 M43) (J1 (.ptr M.next 0) y19 x23 z51 (4 : Int) 0 M43)) fun K52 => letP (fun (b49 : Bool) => condB (b49) (K52 (2 : Int)) (K52 (0 : Int))) fun K50 => condB (!b42) (K50 true) (bindO (eLen tb false 23 a2 M43) fun y45 => zI .i64 y45.1 fun z46 => bindO (eLd tb 3 (.ptr M.next 2) M43) fun y47 => zI .i64 y47.1 fun z48 => K50 (z46 !=
  z48))) fun K44 => condB (decide (z6 ≥ (0 : Int))) (CallA tb.P 12 [x23] M22 fun y39 M40 => zI .i64 y39 fun z41 => K44 (decide (z6 < z41)) M40) (K44 false M22))) fun K38 => condB (z24 !=
  (0 : Int)) (K38 true) (bindO (eBin tb .eql 22 (.tmp 50) (.const (.pointer none)) x23 (.val (.pointer none)) M22) fun y35 => zB y35.1 fun b36 => K38 b36)))))
noncomputable def l4p1 : List (An × Code) := [((.reg []), elC 0 (bodyOf Tryz.f4)), ((.seq (.reg [.non, .int .i64, .bool]) (.cnd (.seq (.reg [.bool]) .z) .z)), elC 1 (bodyOf Tryz.f4)), ((.reg [.agg [.int .i64, .int .i64, .int .i64, .int .i64, .int .i64]]), elC 2 (bodyOf Tryz.f4)), ((.reg [.non, .tup [.l .any, .l (.int .i64)], .non, .non, .int .i64]), elC 3 (bodyOf Tryz.f4)), ((.seq (.reg [.non, .bool]) (.cnd (.seq (.reg [.non, .bool, .spl, .non, .bool, .non, .spl, .bool]) .z) .z)), elC 4 (bodyOf Tryz.f4)), ((.seq (.reg [.non, .bool, .spl, .non, .bool]) (.cnd (.seq (.reg []) .z) .z)), elC 5 (bodyOf Tryz.f4)), ((.reg [.non, .bool, .spl, .non, .non, .int .i64, .bool]), elC 6 (bodyOf Tryz.f4)), ((.reg []), elC 7 (bodyOf Tryz.f4)), ((.seq (.reg [.non, .bool, .spl, .non, .int .i64, .ptr, .int .i64, .bool]) (.cnd (.reg []) .z)), elC 8 (bodyOf Tryz.f4)), ((.seq (.reg [.non, .bool]) (.cnd (.reg []) .z)), elC 9 (bodyOf Tryz.f4))]
theorem l4p1_ok : anBs tb Tryz.f4.ntmps l4p1 = true := by kernel_rfl
theorem l4p1_is : tailC 0 (bodyOf Tryz.f4) = chC l4p1 (tailC 10 (bodyOf Tryz.f4)) := by kernel_rfl
theorem F4p1_eq : (fun (a0 : AV) (a1 : AV) (a2 : AV) (M : Mem) (J1 : JT [.any, .any, .any, .int .i64, .int .i64]) (Q : AV → Mem → Prop) => zCs [.a [.int .i64, .int .i64, .int .i64, .int .i64, .int .i64], .l (.int .i64), .l .any] [a0, a1, a2] fun args => wzCh tb l4p1 (enterA Tryz.f4 args M) (fun s => apJ [.any, .any, .any, .int .i64, .int .i64] J1 (slotsOf s.t [(3, .any), (7, .any), (8, .any), (11, .int .i64), (12, .int .i64)]) 0 s.m) (retQ tb Tryz.f4 Q)) = fun (a0 : AV) (a1 : AV) (a2 : AV) (M : Mem) (J1 : JT [.any, .any, .any, .int .i64, .int .i64]) (Q : AV → Mem → Prop) => F4p1 a0 a1 a2 M J1 Q := by kernel_rfl

def F4p2 (z1 : Int) (z2 : Int) (z3 : Int) (z4 : Int) (z5 : Int) (z6 : Int) (a2 : AV) (J1 : AV → AV → AV → Int → Int → Nat → Mem → Prop) (J2 : AV → AV → AV → Int → AV → Nat → Mem → Prop) (Q : AV → Mem → Prop) : Prop :=
  ∀ (_ : Nat → Option AV) (x53 : AV) (x54 : AV) (x55 : AV) (z56 : Int) (z57 : Int) (M58 : Mem), J1 x53 x54 x55 z56 z57 0 M58 → CallA tb.P 16 [a2] M58 fun y59 M60 => CallA tb.P 5 [x55, (.val (.int .i64 z6))] M60 fun y61 M62 => ∃ (x63 : AV) (z64 : Int), y61 =
  (.tup [x63, (.val (.int .i64 z64))]) ∧
  (CallA tb.P 8 [x55, (.val (.int .i64 z6))] M62 fun y65 M66 => zI .i64 y65 fun z67 => CallA tb.P 7 [x55, (.val (.int .i64 z6)), y59] M66 fun y68 M69 => zI .i64 y68 fun z70 => CallA tb.P 17 [y59, a2] M69 fun y71 M72 => zB y71 fun b73 => CallA tb.P 18 [y59] M72 fun y74 M75 => CallA tb.P 5 [x55, (.val (.int .i64 z6))] M75 fun y76 M77 => ∃ (x78 : AV) (z79 : Int), y76 =
  (.tup [x78, (.val (.int .i64 z79))]) ∧ (letP (fun (b83 : Bool) (M84 : Mem) => condB (b83) (Q (.val (.bool false)) M84) (J2 x53 x54 x55 z70 x78 0 M84)) fun K85 => condB (z64 !=
  z57) (K85 true M77) (condB (z67 != z57) (K85 true M77) (condB (z70 != z56) (K85 true M77) (condB (!b73) (K85 true M77) (condB (z70 == (0 : Int)) (condB (z79 !=
  (0 : Int)) (K85 true M77) (CallA tb.P 19 [x78, a2] M77 fun y80 M81 => zB y80 fun b82 => condB (!b82) (K85 true M81) (condB (z70 != (0 : Int)) (K85 (z79 !=
  z57) M81) (K85 false M81)))) (condB (z70 != (0 : Int)) (K85 (z79 != z57) M77) (K85 false M77))))))))
noncomputable def l4p2 : List (An × Code) := [((.reg []), elC 10 (bodyOf Tryz.f4)), ((.reg [.non, .non, .tup [.l .any, .l (.int .i64)], .non, .non, .int .i64]), elC 11 (bodyOf Tryz.f4)), ((.reg [.non, .non, .int .i64]), elC 12 (bodyOf Tryz.f4)), ((.reg [.non, .non, .non, .int .i64]), elC 13 (bodyOf Tryz.f4)), ((.reg [.non, .non, .bool]), elC 14 (bodyOf Tryz.f4)), ((.reg []), elC 15 (bodyOf Tryz.f4)), ((.reg [.non, .non, .tup [.l .any, .l (.int .i64)], .non, .non, .int .i64]), elC 16 (bodyOf Tryz.f4)), ((.seq (.reg [.non, .non, .bool, .spl, .non, .non, .bool, .non, .spl, .non, .non, .bool, .non, .spl, .non, .bool, .non, .spl, .non, .bool, .spl, .non, .bool, .spl, .non, .non, .bool, .bool, .non, .non, .non, .spl, .non, .bool, .spl, .non, .non, .bool]) (.cnd (.seq (.reg []) .z) .z)), elC 17 (bodyOf Tryz.f4))]
theorem l4p2_ok : anBs tb Tryz.f4.ntmps l4p2 = true := by kernel_rfl
theorem l4p2_is : tailC 10 (bodyOf Tryz.f4) = chC l4p2 (tailC 18 (bodyOf Tryz.f4)) := by kernel_rfl
theorem F4p2_eq : (fun (z1 : Int) (z2 : Int) (z3 : Int) (z4 : Int) (z5 : Int) (z6 : Int) (a2 : AV) (J1 : JT [.any, .any, .any, .int .i64, .int .i64]) (J2 : JT [.any, .any, .any, .int .i64, .any]) (Q : AV → Mem → Prop) => ∀ js : Nat → Option AV, allL [.any, .any, .any, .int .i64, .int .i64] fun vs => ∀ m : Mem, apJ [.any, .any, .any, .int .i64, .int .i64] J1 vs 0 m → wzCh tb l4p2 ⟨196, setJ js [6, 9, 10, 25, 26, 27, 28, 29, 30, 31, 32, 33, 34, 35, 36, 37, 38, 39, 40, 41, 42, 43, 44, 45, 46, 47, 48, 49, 50, 51, 52, 53, 54, 55, 56, 57, 58, 59, 60, 61, 62, 63, 64, 65, 66, 67, 68, 69, 70, 71] (setS [(3, .any), (7, .any), (8, .any), (11, .int .i64), (12, .int .i64)] vs (Tr.ofList 0 [(.agg [(.val (.int .i64 z1)), (.val (.int .i64 z2)), (.val (.int .i64 z3)), (.val (.int .i64 z4)), (.val (.int .i64 z5))]), (.val (.int .i64 z6)), a2])), m⟩ (fun s => apJ [.any, .any, .any, .int .i64, .any] J2 (slotsOf s.t [(3, .any), (7, .any), (8, .any), (17, .int .i64), (19, .any)]) 0 s.m) (retQ tb Tryz.f4 Q)) = fun (z1 : Int) (z2 : Int) (z3 : Int) (z4 : Int) (z5 : Int) (z6 : Int) (a2 : AV) (J1 : JT [.any, .any, .any, .int .i64, .int .i64]) (J2 : JT [.any, .any, .any, .int .i64, .any]) (Q : AV → Mem → Prop) => F4p2 z1 z2 z3 z4 z5 z6 a2 J1 J2 Q := by kernel_rfl

def F4p3 (z1 : Int) (z2 : Int) (z3 : Int) (z4 : Int) (z5 : Int) (z6 : Int) (a2 : AV) (J2 : AV → AV → AV → Int → AV → Nat → Mem → Prop) (J3 : AV → AV → AV → Nat → Mem → Prop) (Q : AV → Mem → Prop) : Prop :=
  ∀ (_ : Nat → Option AV) (x86 : AV) (x87 : AV) (x88 : AV) (z89 : Int) (x90 : AV) (M91 : Mem), J2 x86 x87 x88 z89 x90 0 M91 → CallA tb.P 18 [x90] M91 fun y92 M93 => condB (z89 ==
  (0 : Int)) (CallA tb.P 5 [x88, (.val (.int .i64 z6))] M93 fun y94 M95 => ∃ (x96 : AV) (z97 : Int), y94 = (.tup [x96, (.val (.int .i64 z97))]) ∧
  (CallA tb.P 19 [x96, a2] M95 fun y98 M99 => zB y98 fun b100 => condB (!b100) (Q (.val (.bool false)) M99) (J3 x86 x87 x88 0 M99))) (J3 x86 x87 x88 0 M93)
noncomputable def l4p3 : List (An × Code) := [((.reg []), elC 18 (bodyOf Tryz.f4)), ((.seq (.reg [.non, .bool]) (.cnd (.seq (.reg [.non, .non, .tup [.l .any, .l (.int .i64)], .non, .non, .int .i64]) (.seq (.reg [.non, .non, .bool, .bool]) (.cnd (.seq (.reg []) .z) .z))) .z)), elC 19 (bodyOf Tryz.f4))]
theorem l4p3_ok : anBs tb Tryz.f4.ntmps l4p3 = true := by kernel_rfl
theorem l4p3_is : tailC 18 (bodyOf Tryz.f4) = chC l4p3 (tailC 20 (bodyOf Tryz.f4)) := by kernel_rfl
theorem F4p3_eq : (fun (z1 : Int) (z2 : Int) (z3 : Int) (z4 : Int) (z5 : Int) (z6 : Int) (a2 : AV) (J2 : JT [.any, .any, .any, .int .i64, .any]) (J3 : JT [.any, .any, .any]) (Q : AV → Mem → Prop) => ∀ js : Nat → Option AV, allL [.any, .any, .any, .int .i64, .any] fun vs => ∀ m : Mem, apJ [.any, .any, .any, .int .i64, .any] J2 vs 0 m → wzCh tb l4p3 ⟨196, setJ js [6, 9, 10, 11, 12, 13, 14, 15, 16, 18, 20, 25, 26, 27, 28, 29, 30, 31, 32, 33, 34, 35, 36, 37, 38, 39, 40, 41, 42, 43, 44, 45, 46, 47, 48, 49, 50, 51, 52, 53, 54, 55, 56, 57, 58, 59, 60, 61, 62, 63, 64, 65, 66, 67, 68, 69, 70, 71, 72, 73, 74, 75, 76, 77, 78, 79, 80, 81, 82, 83, 84, 85, 86, 87, 88, 89, 90, 91, 92, 93, 94, 95, 96, 97, 98, 99, 100, 101, 102, 103, 104, 105, 106, 107, 108, 109, 110, 111, 112, 113, 114, 115, 116, 117, 118, 119, 120, 121, 122, 123, 124, 125, 126, 127, 128, 129, 130, 131, 132, 133, 134, 135, 136, 137] (setS [(3, .any), (7, .any), (8, .any), (17, .int .i64), (19, .any)] vs (Tr.ofList 0 [(.agg [(.val (.int .i64 z1)), (.val (.int .i64 z2)), (.val (.int .i64 z3)), (.val (.int .i64 z4)), (.val (.int .i64 z5))]), (.val (.int .i64 z6)), a2])), m⟩ (fun s => apJ [.any, .any, .any] J3 (slotsOf s.t [(3, .any), (7, .any), (8, .any)]) 0 s.m) (retQ tb Tryz.f4 Q)) = fun (z1 : Int) (z2 : Int) (z3 : Int) (z4 : Int) (z5 : Int) (z6 : Int) (a2 : AV) (J2 : JT [.any, .any, .any, .int .i64, .any]) (J3 : JT [.any, .any, .any]) (Q : AV → Mem → Prop) => F4p3 z1 z2 z3 z4 z5 z6 a2 J2 J3 Q := by kernel_rfl

def F4p4 (z1 : Int) (z2 : Int) (z3 : Int) (z4 : Int) (z5 : Int) (z6 : Int) (a2 : AV) (J3 : AV → AV → AV → Nat → Mem → Prop) (Q : AV → Mem → Prop) : Prop :=
  ∀ (_ : Nat → Option AV) (x101 : AV) (x102 : AV) (x103 : AV) (M104 : Mem), J3 x101 x102 x103 0 M104 → CallA tb.P 20 [x102, (.agg [(.val (.int .i64 1)), (.val (.int .i64 0)), (.val (.int .u8 0))])] M104 fun y105 M106 => zI .i64 y105 fun z107 => condB (z107 !=
  (0 : Int)) (Q (.val (.bool false)) M106) (CallA tb.P 21 [x102, (.agg [(.val (.int .i64 0)), (.val (.int .i64 0))])] M106 fun y108 M109 => ∃ (x110 : AV) (z111 : Int), y108 =
  (.tup [x110, (.val (.int .i64 z111))]) ∧ (CallA tb.P 5 [x103, (.val (.int .i64 0))] M109 fun y112 M113 => ∃ (x114 : AV) (z115 : Int), y112 = (.tup [x114, (.val (.int .i64 z115))]) ∧
  (CallA tb.P 6 [x102] M113 fun y116 M117 => ∃ (x118 : AV) (z119 : Int), y116 = (.tup [x118, (.val (.int .i64 z119))]) ∧
  (letP (fun (b139 : Bool) (M140 : Mem) => Q (.val (.bool b139)) M140) fun K141 => condB (z115 ==
  (9 : Int)) (bindO (eFA tb 40 x101 2 M117) fun y120 => zP y120.1 fun p121 o122 => bindO (eLd tb 3 (.ptr p121 o122) M117) fun y123 => zI .i64 y123.1 fun z124 => CallA tb.P 22 [(.val (.int .u8 1)), (.val (.int .i64 z124))] M117 fun y125 M126 => CallA tb.P 7 [x103, (.val (.int .i64 0)), y125] M126 fun y127 M128 => zI .i64 y127 fun z129 => condB (z129 ==
  (9 : Int)) (CallA tb.P 8 [x103, (.val (.int .i64 0))] M128 fun y130 M131 => zI .i64 y130 fun z132 => condB (z132 ==
  (9 : Int)) (CallA tb.P 9 [x103] M131 fun y133 M134 => zI .i64 y133 fun z135 => condB (z135 == (9 : Int)) (condB (z119 ==
  (9 : Int)) (CallA tb.P 14 [] M134 fun y136 M137 => zB y136 fun b138 => K141 b138 M137) (K141 false M134)) (K141 false M134)) (K141 false M131)) (K141 false M128)) (K141 false M117)))))
noncomputable def an4l : An := (.seq (.seq (.reg [.non, .non, .int .i64, .bool]) (.cnd (.seq (.reg []) .z) .z)) (.seq (.reg [.non, .non, .tup [.l .any, .l (.int .i64)]]) (.seq (.reg [.non, .tup [.l .any, .l (.int .i64)], .non, .non, .int .i64]) (.seq (.reg [.non, .tup [.l .any, .l (.int .i64)], .non, .non, .int .i64]) (.seq (.reg [.non, .bool, .spl, .non, .ptr, .int .i64, .non, .int .i64, .bool, .non, .spl, .non, .int .i64, .bool, .non, .spl, .non, .int .i64, .bool, .non, .spl, .non, .bool, .non, .spl, .bool]) .z)))))
theorem an4l_ok : anB tb Tryz.f4.ntmps an4l (tailC 20 (bodyOf Tryz.f4)) = true := by kernel_rfl
theorem F4p4_eq : (fun (z1 : Int) (z2 : Int) (z3 : Int) (z4 : Int) (z5 : Int) (z6 : Int) (a2 : AV) (J3 : JT [.any, .any, .any]) (Q : AV → Mem → Prop) => ∀ js : Nat → Option AV, allL [.any, .any, .any] fun vs => ∀ m : Mem, apJ [.any, .any, .any] J3 vs 0 m → wZ tb an4l (tailC 20 (bodyOf Tryz.f4)) ⟨196, setJ js [6, 9, 10, 11, 12, 13, 14, 15, 16, 17, 18, 19, 20, 25, 26, 27, 28, 29, 30, 31, 32, 33, 34, 35, 36, 37, 38, 39, 40, 41, 42, 43, 44, 45, 46, 47, 48, 49, 50, 51, 52, 53, 54, 55, 56, 57, 58, 59, 60, 61, 62, 63, 64, 65, 66, 67, 68, 69, 70, 71, 72, 73, 74, 75, 76, 77, 78, 79, 80, 81, 82, 83, 84, 85, 86, 87, 88, 89, 90, 91, 92, 93, 94, 95, 96, 97, 98, 99, 100, 101, 102, 103, 104, 105, 106, 107, 108, 109, 110, 111, 112, 113, 114, 115, 116, 117, 118, 119, 120, 121, 122, 123, 124, 125, 126, 127, 128, 129, 130, 131, 132, 133, 134, 135, 136, 137, 138, 139, 140, 141, 142, 143, 144, 145, 146, 147, 148, 149, 150, 151] (setS [(3, .any), (7, .any), (8, .any)] vs (Tr.ofList 0 [(.agg [(.val (.int .i64 z1)), (.val (.int .i64 z2)), (.val (.int .i64 z3)), (.val (.int .i64 z4)), (.val (.int .i64 z5))]), (.val (.int .i64 z6)), a2])), m⟩ (retQ tb Tryz.f4 Q)) = fun (z1 : Int) (z2 : Int) (z3 : Int) (z4 : Int) (z5 : Int) (z6 : Int) (a2 : AV) (J3 : JT [.any, .any, .any]) (Q : AV → Mem → Prop) => F4p4 z1 z2 z3 z4 z5 z6 a2 J3 Q := by kernel_rfl

theorem fn4 : tb.fn.get 4 = some Tryz.f4 := by kernel_rfl
theorem F4_ok {z1 : Int} {z2 : Int} {z3 : Int} {z4 : Int} {z5 : Int} {z6 : Int} {a2 : AV} {M : Mem} {Q : AV → Mem → Prop} {J1 : AV → AV → AV → Int → Int → Nat → Mem → Prop} {J2 : AV → AV → AV → Int → AV → Nat → Mem → Prop} {J3 : AV → AV → AV → Nat → Mem → Prop} (h1 : F4p1 (.agg [(.val (.int .i64 z1)), (.val (.int .i64 z2)), (.val (.int .i64 z3)), (.val (.int .i64 z4)), (.val (.int .i64 z5))]) (.val (.int .i64 z6)) a2 M J1 Q) (h2 : F4p2 z1 z2 z3 z4 z5 z6 a2 J1 J2 Q) (h3 : F4p3 z1 z2 z3 z4 z5 z6 a2 J2 J3 Q) (h4 : F4p4 z1 z2 z3 z4 z5 z6 a2 J3 Q) : CallA tb.P 4 [(.agg [(.val (.int .i64 z1)), (.val (.int .i64 z2)), (.val (.int .i64 z3)), (.val (.int .i64 z4)), (.val (.int .i64 z5))]), (.val (.int .i64 z6)), a2] M Q := by
  refine calla_of tb_ok fn4 (c := (bodyOf Tryz.f4)) rfl ?_
  have e1 := zCs_elim (cast (congrFun (congrFun (congrFun (congrFun (congrFun (congrFun F4p1_eq (.agg [(.val (.int .i64 z1)), (.val (.int .i64 z2)), (.val (.int .i64 z3)), (.val (.int .i64 z4)), (.val (.int .i64 z5))])) (.val (.int .i64 z6))) a2) M) J1) Q).symm h1)
  rw [show (bodyOf Tryz.f4) = chC l4p1 (tailC 10 (bodyOf Tryz.f4)) from l4p1_is]
  refine wpa_cut tb_ok tb_mix (nt := Tryz.f4.ntmps) (sl := [(3, .any), (7, .any), (8, .any), (11, .int .i64), (12, .int .i64)]) (junk := [6, 9, 10, 25, 26, 27, 28, 29, 30, 31, 32, 33, 34, 35, 36, 37, 38, 39, 40, 41, 42, 43, 44, 45, 46, 47, 48, 49, 50, 51, 52, 53, 54, 55, 56, 57, 58, 59, 60, 61, 62, 63, 64, 65, 66, 67, 68, 69, 70, 71]) (J := J1) (t0 := Tr.ofList 0 [(.agg [(.val (.int .i64 z1)), (.val (.int .i64 z2)), (.val (.int .i64 z3)), (.val (.int .i64 z4)), (.val (.int .i64 z5))]), (.val (.int .i64 z6)), a2]) l4p1_ok (Nat.le_of_ble_eq_true (by kernel_rfl)) (fun _ _ => rfl) (by kernel_rfl) e1 ?_
  intro js1
  refine allL_mono (fun vs1 hv1 m1 hJ1 => ?_) ((cast (congrFun (congrFun (congrFun (congrFun (congrFun (congrFun (congrFun (congrFun (congrFun (congrFun F4p2_eq z1) z2) z3) z4) z5) z6) a2) J1) J2) Q).symm h2) js1)
  have e2 := hv1 m1 hJ1
  rw [l4p2_is]
  refine wpa_cut tb_ok tb_mix (nt := Tryz.f4.ntmps) (sl := [(3, .any), (7, .any), (8, .any), (17, .int .i64), (19, .any)]) (junk := [6, 9, 10, 11, 12, 13, 14, 15, 16, 18, 20, 25, 26, 27, 28, 29, 30, 31, 32, 33, 34, 35, 36, 37, 38, 39, 40, 41, 42, 43, 44, 45, 46, 47, 48, 49, 50, 51, 52, 53, 54, 55, 56, 57, 58, 59, 60, 61, 62, 63, 64, 65, 66, 67, 68, 69, 70, 71, 72, 73, 74, 75, 76, 77, 78, 79, 80, 81, 82, 83, 84, 85, 86, 87, 88, 89, 90, 91, 92, 93, 94, 95, 96, 97, 98, 99, 100, 101, 102, 103, 104, 105, 106, 107, 108, 109, 110, 111, 112, 113, 114, 115, 116, 117, 118, 119, 120, 121, 122, 123, 124, 125, 126, 127, 128, 129, 130, 131, 132, 133, 134, 135, 136, 137]) (J := J2) (t0 := Tr.ofList 0 [(.agg [(.val (.int .i64 z1)), (.val (.int .i64 z2)), (.val (.int .i64 z3)), (.val (.int .i64 z4)), (.val (.int .i64 z5))]), (.val (.int .i64 z6)), a2]) l4p2_ok (Nat.le_of_ble_eq_true (by kernel_rfl)) (base_of (by kernel_rfl) js1 vs1 _) (by kernel_rfl) e2 ?_
  intro js2
  refine allL_mono (fun vs2 hv2 m2 hJ2 => ?_) ((cast (congrFun (congrFun (congrFun (congrFun (congrFun (congrFun (congrFun (congrFun (congrFun (congrFun F4p3_eq z1) z2) z3) z4) z5) z6) a2) J2) J3) Q).symm h3) js2)
  have e3 := hv2 m2 hJ2
  rw [l4p3_is]
  refine wpa_cut tb_ok tb_mix (nt := Tryz.f4.ntmps) (sl := [(3, .any), (7, .any), (8, .any)]) (junk := [6, 9, 10, 11, 12, 13, 14, 15, 16, 17, 18, 19, 20, 25, 26, 27, 28, 29, 30, 31, 32, 33, 34, 35, 36, 37, 38, 39, 40, 41, 42, 43, 44, 45, 46, 47, 48, 49, 50, 51, 52, 53, 54, 55, 56, 57, 58, 59, 60, 61, 62, 63, 64, 65, 66, 67, 68, 69, 70, 71, 72, 73, 74, 75, 76, 77, 78, 79, 80, 81, 82, 83, 84, 85, 86, 87, 88, 89, 90, 91, 92, 93, 94, 95, 96, 97, 98, 99, 100, 101, 102, 103, 104, 105, 106, 107, 108, 109, 110, 111, 112, 113, 114, 115, 116, 117, 118, 119, 120, 121, 122, 123, 124, 125, 126, 127, 128, 129, 130, 131, 132, 133, 134, 135, 136, 137, 138, 139, 140, 141, 142, 143, 144, 145, 146, 147, 148, 149, 150, 151]) (J := J3) (t0 := Tr.ofList 0 [(.agg [(.val (.int .i64 z1)), (.val (.int .i64 z2)), (.val (.int .i64 z3)), (.val (.int .i64 z4)), (.val (.int .i64 z5))]), (.val (.int .i64 z6)), a2]) l4p3_ok (Nat.le_of_ble_eq_true (by kernel_rfl)) (base_of (by kernel_rfl) js2 vs2 _) (by kernel_rfl) e3 ?_
  intro js3
  refine allL_mono (fun vs3 hv3 m3 hJ3 => ?_) ((cast (congrFun (congrFun (congrFun (congrFun (congrFun (congrFun (congrFun (congrFun (congrFun F4p4_eq z1) z2) z3) z4) z5) z6) a2) J3) Q).symm h4) js3)
  have e4 := hv3 m3 hJ3
  exact wZ_ok tb_ok tb_mix an4l_ok (Nat.le_of_ble_eq_true (by kernel_rfl)) e4

end Go.Proofs.YtfkkmhadipfobaaGreat

/- FlashAsks: what is kept between its calls. -/
set_option maxRecDepth 100000
namespace Go.Proofs.YtfkkmhadipfobaaGreat
open Go.AM

theorem flts_nil {M : Mem} {x : AV} (h : FltsAt M x []) (c : Nat) : ¬ inBlk x c := fun hc => by
  rcases h.2 with ⟨rfl, _⟩ | ⟨b, o, cc, ex, rfl, _⟩
  · exact hc
  · exact hc.1 rfl

/-- A flash on a chip of a geometry, without a page flushed; a slice of bytes, and the geometry's own row, ahead of it. -/
structure Asks (M : Mem) (g : Geo) (x : AV) (l : List (BitVec 8)) (ga p f : Nat) (F : Fl) (C : Chip) (ma : List (Int × AV)) : Prop where
  wf : M.WF
  fl : FlAt M f F p C
  geo : C.g = g
  fs : C.fs = []
  off : C.off = false
  ops : 0 ≤ C.ops ∧ C.ops ≤ 1000
  deg : F.deg = false
  mb : M.get F.mb = some (.map (mP []))
  mp : M.get F.mp = some (.map (mP ma))
  by' : BytesAt M x l
  gr : M.get ga = some (.cells (geoC g) true)
  bx : ∀ c, inBlk x c → c < ga
  bf : ∀ c ∈ foot p C, ga < c ∧ c < F.mf
  e0 : ga < F.mf
  e1 : F.mb = F.mf + 1
  e2 : F.mp = F.mf + 2
  e3 : f = F.mf + 4

theorem Asks.keepS {M N : Mem} {g : Geo} {x : AV} {l : List (BitVec 8)} {ga p f : Nat} {F : Fl} {C : Chip} {ma : List (Int × AV)} (h : Asks M g x l ga p f F C ma) {S : List Nat} (hk : Keep M N S) (hs : ∀ b ∈ S, F.mf + 4 < b) : Asks N g x l ga p f F C ma := by
  have hn : ∀ c, c ≤ F.mf + 4 → c ∉ S := fun c hc hm => by have := hs c hm; omega
  have he := h.e1
  have he2 := h.e2
  have he3 := h.e3
  have he0 := h.e0
  refine ⟨hk.wf, ⟨hk.get h.wf h.fl.fl (hn _ (by omega)), h.fl.chip.keepS h.wf hk fun b hb => ⟨fun hm => ?_, fun hm => ?_⟩, h.fl.ptr, h.fl.geo⟩, h.geo, h.fs, h.off, h.ops, h.deg, hk.get h.wf h.mb (hn _ (by omega)), hk.get h.wf h.mp (hn _ (by omega)), ?_, hk.get h.wf h.gr (hn _ (by omega)), h.bx, h.bf, h.e0, h.e1, h.e2, h.e3⟩
  · have := h.bf b hm; have := hs b hb; omega
  · have hf := h.fl.chip.flt
    rw [h.fs] at hf
    exact flts_nil hf b hm
  · exact SlAt.keep h.by' h.wf hk fun b hb => hn b (by have := h.bx b hb; omega)

theorem Asks.keep {M N : Mem} {g : Geo} {x : AV} {l : List (BitVec 8)} {ga p f : Nat} {F : Fl} {C : Chip} {ma : List (Int × AV)} (h : Asks M g x l ga p f F C ma) (hk : Keep M N []) : Asks N g x l ga p f F C ma := h.keepS hk (by simp)

theorem Asks.write {M : Mem} {g : Geo} {x : AV} {l : List (BitVec 8)} {ga p f : Nat} {F : Fl} {C : Chip} {ma : List (Int × AV)} (h : Asks M g x l ga p f F C ma) (m2 : List (Int × AV)) : Asks (M.put F.mp (.map (mP m2))) g x l ga p f F C m2 := by
  have he := h.e1
  have he2 := h.e2
  have he3 := h.e3
  have he0 := h.e0
  have hk : Keep M (M.put F.mp (.map (mP m2))) [F.mp] := Keep.put h.wf (h.wf _ _ h.mp) _
  have hn : ∀ c, c ≠ F.mp → c ∉ [F.mp] := fun c hc hm => hc (by simpa using hm)
  refine ⟨hk.wf, ⟨hk.get h.wf h.fl.fl (hn _ (by omega)), h.fl.chip.keepS h.wf hk fun b hb => ⟨fun hm => ?_, fun hm => ?_⟩, h.fl.ptr, h.fl.geo⟩, h.geo, h.fs, h.off, h.ops, h.deg, hk.get h.wf h.mb (hn _ (by omega)), by rw [Mem.get_put, if_pos rfl], ?_, hk.get h.wf h.gr (hn _ (by omega)), h.bx, h.bf, h.e0, h.e1, h.e2, h.e3⟩
  · have hb : b = F.mp := by simpa using hb
    have := h.bf b hm; omega
  · have hf := h.fl.chip.flt
    rw [h.fs] at hf
    exact flts_nil hf b hm
  · exact SlAt.keep h.by' h.wf hk fun b hb => hn b (by have := h.bx b hb; omega)

theorem Over.keep1 {M N : Mem} {b o n c : Nat} {e : Option Nat} (h : Over M N (.sl b o n c e)) : Keep M N [b] := ⟨h.wf, h.nxt, fun q hq hn => h.old q hq fun hb => hn (by have hb : b = q := hb; simp [hb])⟩

def innB (g : Geo) (z : Int) : Bool := decide (z ≥ 0) && decide (z < logG g)
theorem Asks.ask {M : Mem} {g : Geo} {x : AV} {l : List (BitVec 8)} {ga p f : Nat} {F : Fl} {C : Chip} {ma : List (Int × AV)} (h : Asks M g x l ga p f F C ma) (z : Int) : askF C z = if innB g z = true then 0 else 2 := by
  unfold askF innB
  rw [h.off, h.geo]
  simp only [Bool.false_eq_true, if_false, Bool.and_eq_true, decide_eq_true_eq]

theorem lkP_upd (z : Int) (u : AV) : lkP (updP [] z u) z = some (0, u) := by
  unfold updP
  simp [lkP]

section
variable {M : Mem} {g : Geo} {x : AV} {l : List (BitVec 8)} {ga p f : Nat} {F : Fl} {C : Chip}

def rdN (g : Geo) (z : Int) : Int := if innB g z = true then 4 else 2
def wrN (g : Geo) (l : List (BitVec 8)) (z : Int) : Int := if innB g z = true ∧ (l.length : Int) = g.by' then 0 else 2

theorem a_read (h : Asks M g x l ga p f F C []) (z : Int) : CallA tb.P 5 [.ptr f 0, i64 z] M fun y N => y = .tup [.val (.slice none 0 0), i64 (rdN g z)] ∧ Keep M N [] := by
  have ha := h.ask z
  unfold rdN
  by_cases hi : innB g z = true
  · rw [if_pos hi] at ha ⊢
    exact f_read_none M h.wf f F p C h.fl h.mp h.mb z rfl rfl ha
  · rw [if_neg hi] at ha ⊢
    have := f_read_ask M h.wf f F p C h.fl z (by rw [ha]; omega)
    rw [ha] at this
    exact this
theorem a_trim (h : Asks M g x l ga p f F C []) (z : Int) : CallA tb.P 8 [.ptr f 0, i64 z] M fun y N => y = i64 (rdN g z) ∧ Keep M N [] := by
  have ha := h.ask z
  unfold rdN
  by_cases hi : innB g z = true
  · rw [if_pos hi] at ha ⊢
    exact f_trim_none M h.wf f F p C h.fl h.mp h.mb z rfl rfl ha h.deg
  · rw [if_neg hi] at ha ⊢
    have := f_trim_ask M h.wf f F p C h.fl z (by rw [ha]; omega)
    rw [ha] at this
    exact this

/-- What stands behind Write. -/
def Wrote (M N : Mem) (g : Geo) (x : AV) (l : List (BitVec 8)) (ga p f : Nat) (F : Fl) (C : Chip) (z : Int) : Prop :=
  (wrN g l z = 2 ∧ Keep M N [] ∧ Asks N g x l ga p f F C []) ∨
  (wrN g l z = 0 ∧ askF C z = 0 ∧ 0 < l.length ∧ ∃ u, Asks N g x l ga p f F C (updP [] z u) ∧ Gr N u l ∧ (∀ c, inBlk u c → M.next ≤ c) ∧ Keep M N [F.mp])

theorem a_write (h : Asks M g x l ga p f F C []) (z : Int) (w : AV) (hw : BytesAt M w l) (hl : l.length ≤ 200) : CallA tb.P 7 [.ptr f 0, i64 z, w] M fun y N => y = i64 (wrN g l z) ∧ Wrote M N g x l ga p f F C z := by
  have ha := h.ask z
  by_cases hi : innB g z = true
  · rw [if_pos hi] at ha
    by_cases hb : (l.length : Int) = g.by'
    · have hwr : wrN g l z = 0 := by unfold wrN; rw [if_pos ⟨hi, hb⟩]
      have hmay := mayG_iff.1 h.fl.chip.may
      rw [h.geo] at hmay
      have h0 : 0 < l.length := by omega
      refine (f_write M h.wf f F p C h.fl h.mp z w l hw ha (by rw [h.geo]; exact hb) h0 (by omega) h.deg).mono ?_
      rintro y N ⟨u, K, rfl, hk, hg, hf, hm, rfl⟩
      have hK := h.keep hk
      have hkp : Keep K (K.put F.mp (.map (mP (updP [] z u)))) [F.mp] := Keep.put hK.wf (hK.wf _ _ hm) _
      have hlt : F.mp < M.next := h.wf _ _ h.mp
      refine ⟨by rw [hwr], .inr ⟨hwr, ha, h0, u, hK.write _, ?_, hf, hk.trans hkp (by simp) (fun _ hb _ => hb)⟩⟩
      rcases hg with hg | ⟨b, h1, h2, h3, h4⟩
      · exact .inl hg
      · refine .inr ⟨b, h1, h2, h3, ?_⟩
        have hb : M.next ≤ b := hf b (by rw [h1]; exact ⟨by omega, rfl⟩)
        rw [Mem.get_put, if_neg (by omega)]
        exact h4
    · have hwr : wrN g l z = 2 := by unfold wrN; rw [if_neg (fun h => hb h.2)]
      refine (f_write_len M h.wf f F p C h.fl z w l hw ha (by rw [h.geo]; exact hb)).mono ?_
      rintro y N ⟨rfl, hk⟩
      exact ⟨by rw [hwr], .inl ⟨hwr, hk, h.keep hk⟩⟩
  · rw [if_neg hi] at ha
    have hwr : wrN g l z = 2 := by unfold wrN; rw [if_neg (fun h => hi h.1)]
    refine (f_write_ask M h.wf f F p C h.fl z w (by rw [ha]; omega)).mono ?_
    rintro y N ⟨rfl, hk⟩
    exact ⟨by rw [hwr, ha], .inl ⟨hwr, hk, h.keep hk⟩⟩
end

theorem lost_new {g : Geo} {fsA : AV} {bb : Nat} {bs : List Blk} (n : Nat) : lostC (newChip g fsA [] bb bs) n = 0 := by
  unfold lostC
  have : ∀ b : Int, lostB (newChip g fsA [] bb bs) b = false := fun b => by
    unfold lostB failed
    simp [newChip, badF, failsF, findF]
    intro _
    split <;> rfl
  simp [this]

end Go.Proofs.YtfkkmhadipfobaaGreat

/- slices.Sorted(maps.Keys(m)): the contract of the oracle. -/
set_option maxRecDepth 100000
namespace Go.Proofs.YtfkkmhadipfobaaGreat
open Go.AM
open Go.RowKit Go.Maps Go.Sort Go.Shelf Go.Proofs Go.WideElems

set_option maxRecDepth 100000 in
theorem sorted_keys_x (M : Mem) (q b : Nat) (rw' : Bool) (es : List (AV × AV)) (ks : List Int) (hq : M.get q = some (.cells [.map b] rw')) (hb : M.get b = some (.map es)) (hes : es.map (·.1) = ks.map i64) (hnd : ks.Nodup)
    (hr : ∀ k ∈ ks, -9223372036854775808 ≤ k ∧ k ≤ 9223372036854775807) (hlen : ks.length ≤ 1000) :
    CallA tb.P 53 [.fn 82 [] [.ptr q 0]] M fun y N => (ks = [] ∧ y = .val (.slice none 0 0) ∧ N = M) ∨ (ks ≠ [] ∧ y = .sl M.next 0 ks.length ks.length (some 1) ∧ N = M.new (.cells ((sortI ks).map i64) true)) := by
  intro ι w vs hv R
  obtain ⟨vl⟩ := vs
  cases hv with
  | cons _ v0 _ _ h1 h2 =>
  cases h2
  cases h1 with
  | fn _ _ _ vf vc hf hc =>
  obtain ⟨vfl⟩ := vf
  obtain ⟨vcl⟩ := vc
  cases hf
  cases hc with
  | cons _ p0 _ _ h3 h4 =>
  cases h4
  cases h3 with
  | ptr _ _ lq hlq =>
  have h0 : lq.base = 0 := R.bas _ _ hlq
  obtain ⟨lb, hlb, hrowb⟩ := R.live b _ hb
  obtain ⟨ms, clock, hob, hE, hbo⟩ := R.obj hb hlb
  obtain ⟨u, hu, hvu⟩ := R.cell (b := q) (o := 0) (x := .map b) (by unfold Mem.cellAt; rw [hq]; rfl) hlq
  have hu' : u = .map (some lb.blk) := by
    cases hvu with
    | map _ l hl => rw [hlb] at hl; injection hl with hl; rw [hl]
  subst hu'
  rw [h0] at hu ⊢
  have hkeys := hE.keys hes
  have hmsl : ms.toList.length = ks.length := by
    have := congrArg List.length hkeys
    simpa using this
  have hql : lq.blk < w.heap.size := by
    obtain ⟨l', k1, k2⟩ := R.live q _ hq
    rw [hlq] at k1; injection k1 with k1; subst k1
    exact row_lt k2
  have hml : (1000 : Nat) ≤ maxLen := by decide
  have hread : ∀ x ∈ ms.toList, ∃ z, x.key = .int .i64 z ∧ z ∈ ks ∧ rd Tryz.prog 3 noVal x = some (.int .i64 z, .nil) := fun x hx => by
    have : x.key ∈ ms.toList.map (·.key) := List.mem_map.2 ⟨x, hx, rfl⟩
    rw [hkeys] at this
    obtain ⟨z, hz, hzx⟩ := List.mem_map.1 this
    refine ⟨z, hzx.symm, hz, ?_⟩
    unfold WideElems.rd
    rw [← hzx, key_int (hr z hz)]
    rfl
  have hfit : Fit Tryz.prog 3 noVal ms clock := ⟨by rw [← Array.length_toList, hmsl]; omega, ⟨hbo.1, hbo.2, by rw [hkeys]; exact (List.pairwise_map.2 (hnd.imp fun hne e => hne (by injection e)))⟩, fun x hx => by obtain ⟨z, _, _, h⟩ := hread x hx; exact ⟨_, h⟩⟩
  have hown : w.ownsMap Tryz.prog 3 noVal lb.blk ms.size (.map ((ms.toList.map (rg Tryz.prog 3 noVal)).foldr DataW.insert [])) := ⟨ms, clock, hob, hfit, Nat.le_refl _, rfl⟩
  have hik : (intKeys (.map ((ms.toList.map (rg Tryz.prog 3 noVal)).foldr DataW.insert [])) : List Int).Perm ks := by
    show ((((ms.toList.map (rg Tryz.prog 3 noVal)).foldr DataW.insert []).map fun p => Go.intOf p.1) : List Int).Perm ks
    refine ((WideShapes.sorted_perm _).map _).trans ?_
    rw [List.map_map]
    have : ms.toList.map ((fun p => Go.intOf p.1) ∘ rg Tryz.prog 3 noVal) = ks := by
      have h5 : ms.toList.map ((fun p => Go.intOf p.1) ∘ rg Tryz.prog 3 noVal) = (ms.toList.map (·.key)).map (fun v => match v with | .int _ z => z | _ => 0) := by
        rw [List.map_map]
        apply List.map_congr_left
        intro x hx
        obtain ⟨z, h6, _, h7⟩ := hread x hx
        show Go.intOf (rg Tryz.prog 3 noVal x).1 = _
        rw [rg_of h7]
        show z = (match x.key with | .int _ z => z | _ => 0)
        rw [h6]
      rw [h5, hkeys, List.map_map]
      simp [Function.comp_def]
    rw [this]
  have hsz : Maps.size (.map ((ms.toList.map (rg Tryz.prog 3 noVal)).foldr DataW.insert []) : DataW Unit) = ks.length := by
    show ((ms.toList.map (rg Tryz.prog 3 noVal)).foldr DataW.insert []).length = _
    rw [length_sorted, List.length_map, hmsl]
  refine (sorted_world lq.blk lb.blk ms.size _ noVal w hql hu hown (by rw [hsz]; omega) (by rw [hsz]; omega)).mono ?_
  rintro e w' ⟨v, ss, rfl, hperm, hrow, hnil, hbel⟩
  have hss := hperm.trans hik
  have hlt : ∀ k, LvAt ι M k → k < w.heap.size := fun k h => h.lt R
  have S0 : Stp ι M w ι M w' := (Stp.refl R).side (r := w.heap.size) (Nat.le_refl _) (fun h => absurd (hlt _ h) (Nat.lt_irrefl _)) hbel.size (fun k hk _ => hbel.block k hk) hbel.os hbel.tape hbel.output
  rcases hrow.2 with ⟨rfl, hz⟩ | ⟨g, cap, cur, rfl, hg, hgo, hle, hcap, hcs, htk⟩
  · have : ss = [] := List.eq_nil_of_length_eq_zero hz
    subst this
    exact ⟨ι, _, .val (.slice none 0 0), M, rfl, .val _ rfl, S0, .inl ⟨List.nil_perm.1 hss, rfl, rfl⟩⟩
  · have hne : ss ≠ [] := fun e => by have := hnil.2 e; cases this
    have hpos : 0 < ss.length := List.length_pos_iff.2 hne
    have hml : (ss.mergeSort (fun x y => decide (x ≤ y))).length = ss.length := List.length_mergeSort _
    rw [Nat.mul_one] at hcs htk
    have hrr : RowR (fun c => if c = M.next then some ⟨g, 0, cur.size⟩ else ι c) ⟨g, 0, cur.size⟩ (.cells ((ss.mergeSort (fun x y => decide (x ≤ y))).map i64) true) (some (.cells cur 3 (0, 0))) := by
      refine ⟨rfl, by simp only [List.length_map, hml]; omega, ?_, fun _ k _ => by simp⟩
      simp only [List.drop_zero, List.length_map, hml]
      rw [htk]
      have : ∀ l : List Int, VRs (fun c => if c = M.next then some ⟨g, 0, cur.size⟩ else ι c) (l.map i64) (l.map encZ) := fun l => by
        induction l with
        | nil => exact .nil
        | cons a l ih => exact .cons _ _ _ _ (.val _ rfl) ih
      exact this _
    have S1 := Stp.adopt S0 hg hgo hrr hlt
    have hkl : ks.length = ss.length := hss.length_eq.symm
    refine ⟨_, _, .sl M.next 0 ss.length ss.length (some 1), _, rfl, ?_, S1, .inr ⟨fun e => hne (by rw [e] at hss; exact hss.eq_nil), by rw [hkl], by rw [merge_sortI hss]⟩⟩
    exact VR.slI M.next 0 ss.length ss.length 1 cap ⟨g, 0, cur.size⟩ (by simp) hle (by simp only; omega)


noncomputable def orcF : Orc := fun g => cond (Nat.beq g 53) (some (orcKeys 82)) none
theorem orcF_ok : OrcOk tb orcF := by
  intro g f hf args M x M' h
  unfold orcF at hf
  rw [cond_eq_ite] at hf
  split at hf
  · rename_i hg
    have hg : g = 53 := by simpa using hg
    injection hf with hf
    subst hf hg
    unfold orcKeys at h
    split at h
    · rename_i it q
      rw [cond_eq_ite] at h
      split at h
      · rename_i hit
        have hit : it = 82 := by simpa using hit
        subst hit
        split at h
        · rename_i b rw' hq
          split at h
          · rename_i es hb
            split at h
            · rename_i hk
              simp only [Option.some.injEq, Prod.mk.injEq] at h
              obtain ⟨rfl, rfl⟩ := h
              refine (sorted_keys_x M q b rw' es [] hq hb (keysI_ok hk) List.nodup_nil (fun k hk => by simp at hk) (by simp)).mono ?_
              rintro y N (⟨_, rfl, rfl⟩ | ⟨h, _⟩)
              · exact ⟨rfl, rfl⟩
              · exact absurd rfl h
            · rename_i k ks hk
              rw [cond_eq_ite] at h
              split at h
              · rename_i hc
                rw [Bool.and_eq_true] at hc
                have h1 := okKeys_ok hc.1
                simp only [Option.some.injEq, Prod.mk.injEq] at h
                obtain ⟨rfl, rfl⟩ := h
                refine (sorted_keys_x M q b rw' es (k :: ks) hq hb (keysI_ok hk) h1.1 h1.2 (Nat.le_of_ble_eq_true hc.2)).mono ?_
                rintro y N (⟨h, _⟩ | ⟨_, rfl, rfl⟩)
                · cases h
                · exact ⟨rfl, rfl⟩
              · cases h
            · cases h
          · cases h
        · cases h
      · cases h
    · cases h
  · cases hf

end Go.Proofs.YtfkkmhadipfobaaGreat

/- Oracles of the flash seat: what contracts tell to the row. -/
set_option maxRecDepth 100000
namespace Go.Proofs.YtfkkmhadipfobaaGreat
open Go.AM

def geoOf : AV → Option Geo
  | .agg [.val (.int .i64 a), .val (.int .i64 b), .val (.int .i64 c), .val (.int .i64 d), .val (.int .i64 e)] => some ⟨a, b, c, d, e⟩
  | _ => none
theorem geoOf_eq {x : AV} {g : Geo} (h : geoOf x = some g) : x = geoA g := by
  unfold geoOf at h
  split at h
  · injection h with h; subst h; rfl
  · cases h
def placeOf : AV → Option (Int × Int)
  | .agg [.val (.int .i64 a), .val (.int .i64 b)] => some (a, b)
  | _ => none
theorem placeOf_eq {x : AV} {p : Int × Int} (h : placeOf x = some p) : x = placeA p.1 p.2 := by
  unfold placeOf at h
  split at h
  · injection h with h; subst h; rfl
  · cases h

noncomputable def oMay (args : List AV) (M : Mem) : Option (AV × Mem) := match args with
  | [x] => match geoOf x with
    | some g => some (.val (.bool (mayG g)), M)
    | none => none
  | _ => none
noncomputable def oRaw (args : List AV) (M : Mem) : Option (AV × Mem) := match args with
  | [x] => match geoOf x with
    | some g => cond (mayG g) (some (i64 (rawN g), M)) none
    | none => none
  | _ => none
noncomputable def oNumber (args : List AV) (M : Mem) : Option (AV × Mem) := match args with
  | [x, y] => match geoOf x with
    | some g => match placeOf y with
      | some p => cond (mayG g && isG g p.1 p.2) (some (i64 (p.1 * g.pg + p.2), M)) none
      | none => none
    | none => none
  | _ => none
noncomputable def oNext (args : List AV) (M : Mem) : Option (AV × Mem) := match args with
  | [x, y] => match geoOf x with
    | some g => match placeOf y with
      | some p => cond (mayG g && (Nat.blt (p.1 * g.pg + p.2).toNat (nP g) && (decide (p.1 = (plB g (p.1 * g.pg + p.2).toNat : Int)) && decide (p.2 = (plK g (p.1 * g.pg + p.2).toNat : Int)))))
        (cond (Nat.blt ((p.1 * g.pg + p.2).toNat + 1) (nP g)) (some (.tup [placeA (plB g ((p.1 * g.pg + p.2).toNat + 1)) (plK g ((p.1 * g.pg + p.2).toNat + 1)), .val (.bool true)], M)) (some (.tup [placeA 0 0, .val (.bool false)], M))) none
      | none => none
    | none => none
  | _ => none

theorem plain_ints {ι : Inj} (z w : Int) (b : Bool) : ∃ v, VR ι (.tup [placeA z w, .val (.bool b)]) v :=
  ⟨.tuple #[.agg #[.int .i64 z, .int .i64 w], .bool b], .tup _ _ (.cons _ _ _ _ (.agg _ _ (.cons _ _ _ _ (.val _ rfl) (.cons _ _ _ _ (.val _ rfl) .nil))) (.cons _ _ _ _ (.val _ rfl) .nil))⟩

theorem oMay_ok {args : List AV} {M : Mem} {x : AV} {M' : Mem} (h : oMay args M = some (x, M')) : CallA tb.P 49 args M fun y N => y = x ∧ N = M' := by
  unfold oMay at h
  split at h
  · split at h
    · rename_i x0 g hg
      simp only [Option.some.injEq, Prod.mk.injEq] at h
      obtain ⟨rfl, rfl⟩ := h
      rw [geoOf_eq hg]
      exact CallA.plain rfl fun hw => c_may102 M hw g
    · cases h
  · cases h
theorem oRaw_ok {args : List AV} {M : Mem} {x : AV} {M' : Mem} (h : oRaw args M = some (x, M')) : CallA tb.P 44 args M fun y N => y = x ∧ N = M' := by
  unfold oRaw at h
  split at h
  · split at h
    · rename_i x0 g hg
      rw [cond_eq_ite] at h
      split at h
      · rename_i hm
        simp only [Option.some.injEq, Prod.mk.injEq] at h
        obtain ⟨rfl, rfl⟩ := h
        rw [geoOf_eq hg]
        exact CallA.plain rfl fun hw => c_raw M hw g hm
      · cases h
    · cases h
  · cases h
theorem oNumber_ok {args : List AV} {M : Mem} {x : AV} {M' : Mem} (h : oNumber args M = some (x, M')) : CallA tb.P 48 args M fun y N => y = x ∧ N = M' := by
  unfold oNumber at h
  split at h
  · split at h
    · rename_i x0 y0 g hg
      split at h
      · rename_i p hp
        rw [cond_eq_ite] at h
        split at h
        · rename_i hm
          rw [Bool.and_eq_true] at hm
          simp only [Option.some.injEq, Prod.mk.injEq] at h
          obtain ⟨rfl, rfl⟩ := h
          rw [geoOf_eq hg, placeOf_eq hp]
          exact CallA.plain rfl fun hw => c_numberV M hw g hm.1 p.1 p.2 hm.2
        · cases h
      · cases h
    · cases h
  · cases h
theorem oNext_ok {args : List AV} {M : Mem} {x : AV} {M' : Mem} (h : oNext args M = some (x, M')) : CallA tb.P 28 args M fun y N => y = x ∧ N = M' := by
  unfold oNext at h
  split at h
  · split at h
    · rename_i x0 y0 g hg
      split at h
      · rename_i p hp
        rw [cond_eq_ite] at h
        split at h
        · rename_i hm
          simp only [Bool.and_eq_true, Nat.blt_eq, decide_eq_true_eq] at hm
          obtain ⟨hm, hi, h1, h2⟩ := hm
          rw [geoOf_eq hg, placeOf_eq hp]
          generalize hgi : (p.1 * g.pg + p.2).toNat = i at *
          have hpl : placeA p.1 p.2 = placeA (plB g i) (plK g i) := by rw [← h1, ← h2]
          rw [hpl]
          rw [cond_eq_ite] at h
          split at h
          · rename_i hlt
            have hlt : i + 1 < nP g := by simpa using hlt
            simp only [Option.some.injEq, Prod.mk.injEq] at h
            obtain ⟨rfl, rfl⟩ := h
            refine calla_wf fun hw => (c_next M hw g hm i hi).exact (fun y N hy => ?_) fun ι vs _ => plain_ints _ _ _
            rcases hy.2 with ⟨_, rfl⟩ | ⟨h3, _⟩
            · exact ⟨rfl, fun b r hb => hy.1.get hw hb (by simp)⟩
            · omega
          · rename_i hlt
            have hlt : ¬ i + 1 < nP g := by simpa using hlt
            simp only [Option.some.injEq, Prod.mk.injEq] at h
            obtain ⟨rfl, rfl⟩ := h
            refine calla_wf fun hw => (c_next M hw g hm i hi).exact (fun y N hy => ?_) fun ι vs _ => plain_ints _ _ _
            rcases hy.2 with ⟨h3, _⟩ | ⟨_, rfl⟩
            · omega
            · exact ⟨rfl, fun b r hb => hy.1.get hw hb (by simp)⟩
        · cases h
      · cases h
    · cases h
  · cases h

/-- The bytes of a slice. -/
noncomputable def unbs : List AV → Option (List (BitVec 8))
  | [] => some []
  | .val (.int .u8 z) :: r => cond (decide (0 ≤ z) && decide (z < 256)) (match unbs r with
    | some l => some (BitVec.ofNat 8 z.toNat :: l)
    | none => none) none
  | _ => none
theorem unbs_ok : ∀ {xs : List AV} {l : List (BitVec 8)}, unbs xs = some l → xs = bvs l
  | [], l, h => by
    simp only [unbs, Option.some.injEq] at h
    subst h; rfl
  | x :: r, l, h => by
    unfold unbs at h
    split at h
    · rename_i h1; cases h1
    · rename_i z r' h1
      injection h1 with h1 h2
      subst h1 h2
      rw [cond_eq_ite] at h
      split at h
      · rename_i hz
        simp only [Bool.and_eq_true, decide_eq_true_eq] at hz
        split at h
        · rename_i l' hl
          injection h with h; subst h
          rw [unbs_ok hl]
          show _ = bv8 _ :: bvs l'
          congr 1
          unfold bv8
          have : ((BitVec.ofNat 8 z.toNat).toNat : Int) = z := by
            rw [BitVec.toNat_ofNat, Nat.mod_eq_of_lt (by omega)]
            omega
          rw [this]
        · cases h
      · cases h
    · cases h

def exOk (ex : Option Nat) : Bool := match ex with
  | none => true
  | some k => Nat.beq k 1
noncomputable def sliceOf (x : AV) (M : Mem) : Option (List AV) := match x with
  | .sl b o n c ex => cond (Nat.ble n c && (exOk ex && Nat.ble n 1000)) (match M.get b with
    | some (.cells cs _) => cond (Nat.ble (o + n) cs.length) (some ((cs.drop o).take n)) none
    | _ => none) none
  | _ => none
theorem sliceOf_ok {x : AV} {M : Mem} {l : List (BitVec 8)} (h : sliceOf x M = some (bvs l)) : BytesAt M x l ∧ l.length ≤ 1000 := by
  unfold sliceOf at h
  split at h
  · rename_i b o n c ex
    rw [cond_eq_ite] at h
    split at h
    · rename_i hc
      simp only [Bool.and_eq_true] at hc
      have h1 := Nat.le_of_ble_eq_true hc.1
      have h3 := Nat.le_of_ble_eq_true hc.2.2
      have h2 : ex = none ∨ ex = some 1 := by
        have := hc.2.1
        unfold exOk at this
        split at this
        · exact .inl rfl
        · exact .inr (by rw [Nat.eq_of_beq_eq_true this])
      split at h
      · rename_i cs rw' hg
        rw [cond_eq_ite] at h
        split at h
        · rename_i hle
          have hle := Nat.le_of_ble_eq_true hle
          injection h with h
          have hln : l.length = n := by
            have := congrArg List.length h
            simp only [bvs_length, List.length_take, List.length_drop] at this
            omega
          refine ⟨⟨by simp, .inr ⟨b, o, c, ex, by rw [hln], ⟨by omega, h2⟩, .inr ⟨cs, rw', hg, by omega, by rw [Nat.mul_one, hln]; exact h⟩⟩⟩, by omega⟩
        · cases h
      · cases h
    · cases h
  · cases h

noncomputable def oMore (args : List AV) (M : Mem) : Option (AV × Mem) := match args with
  | [.val (.int .u32 s), x] => match sliceOf x M with
    | some cs => match unbs cs with
      | some l => cond (decide (0 ≤ s) && decide (s < 4294967296)) (some (.val (.int .u32 (more (BitVec.ofNat 32 s.toNat) l).toNat), M)) none
      | none => none
    | none => none
  | _ => none
theorem oMore_ok {args : List AV} {M : Mem} {x : AV} {M' : Mem} (h : oMore args M = some (x, M')) : CallA tb.P 135 args M fun y N => y = x ∧ N = M' := by
  unfold oMore at h
  split at h
  · rename_i s x0
    split at h
    · rename_i cs hcs
      split at h
      · rename_i l hl
        rw [cond_eq_ite] at h
        split at h
        · rename_i hs
          simp only [Bool.and_eq_true, decide_eq_true_eq] at hs
          simp only [Option.some.injEq, Prod.mk.injEq] at h
          obtain ⟨rfl, rfl⟩ := h
          rw [unbs_ok hl] at hcs
          have hb := sliceOf_ok hcs
          have hst : ((BitVec.ofNat 32 s.toNat).toNat : Int) = s := by
            rw [BitVec.toNat_ofNat, Nat.mod_eq_of_lt (by omega)]
            omega
          have := crc_more M (BitVec.ofNat 32 s.toNat) x0 l hb.1 (by omega)
          rw [hst] at this
          exact this
        · cases h
      · cases h
    · cases h
  · cases h

def all255 : List AV → Bool
  | [] => true
  | .val (.int .u8 z) :: r => decide (z = 255) && all255 r
  | _ => false
theorem all255_ok : ∀ {xs : List AV}, all255 xs = true → xs = bvs (List.replicate xs.length 255#8)
  | [], _ => rfl
  | x :: r, h => by
    unfold all255 at h
    split at h
    · rename_i h1; cases h1
    · rename_i z r' h1
      injection h1 with h1 h2
      subst h1 h2
      simp only [Bool.and_eq_true, decide_eq_true_eq] at h
      rw [h.1]
      have := all255_ok h.2
      show _ = bv8 255#8 :: bvs (List.replicate r.length 255#8)
      rw [← this]
      rfl
    · cases h
noncomputable def oBlank (args : List AV) (M : Mem) : Option (AV × Mem) := match args with
  | [x, .fn f [] []] => cond (Nat.beq f 108) (match sliceOf x M with
    | some cs => cond (all255 cs) (some (i64 (-1), M)) none
    | none => none) none
  | _ => none
theorem oBlank_ok {args : List AV} {M : Mem} {x : AV} {M' : Mem} (h : oBlank args M = some (x, M')) : CallA tb.P 134 args M fun y N => y = x ∧ N = M' := by
  unfold oBlank at h
  split at h
  · rename_i x0 f
    rw [cond_eq_ite] at h
    split at h
    · rename_i hf
      have hf : f = 108 := by simpa using hf
      subst hf
      split at h
      · rename_i cs hcs
        rw [cond_eq_ite] at h
        split at h
        · rename_i ha
          simp only [Option.some.injEq, Prod.mk.injEq] at h
          obtain ⟨rfl, rfl⟩ := h
          rw [all255_ok ha] at hcs
          have hb := sliceOf_ok hcs
          refine (t_index M x0 _ hb.1 (by omega)).mono ?_
          rintro y N ⟨rfl, ⟨i, rfl, hi, hne⟩ | ⟨rfl, _⟩⟩
          · exact absurd (by simp) hne
          · exact ⟨rfl, rfl⟩
        · cases h
      · cases h
    · cases h
  · cases h

noncomputable def orcX : OrcP := fun g args M =>
  cond (Nat.beq g 49) (oMay args M) (cond (Nat.beq g 44) (oRaw args M) (cond (Nat.beq g 48) (oNumber args M) (cond (Nat.beq g 28) (oNext args M)
    (cond (Nat.beq g 135) (oMore args M) (cond (Nat.beq g 134) (oBlank args M) (cond (Nat.beq g 53) (orcKeys 82 args M) none))))))
theorem orcX_ok : OrcPOk tb orcX := by
  intro g args M x M' h
  unfold orcX at h
  simp only [cond_eq_ite, Nat.beq_eq] at h
  split at h
  · rename_i hg; subst hg; exact oMay_ok h
  split at h
  · rename_i hg; subst hg; exact oRaw_ok h
  split at h
  · rename_i hg; subst hg; exact oNumber_ok h
  split at h
  · rename_i hg; subst hg; exact oNext_ok h
  split at h
  · rename_i hg; subst hg; exact oMore_ok h
  split at h
  · rename_i hg; subst hg; exact oBlank_ok h
  split at h
  · rename_i hg; subst hg; exact orcF_ok 53 (orcKeys 82) rfl args M x M' h
  · cases h

end Go.Proofs.YtfkkmhadipfobaaGreat

/- The flash laws' awake: reckoned out. -/
set_option maxRecDepth 100000
namespace Go.Proofs.YtfkkmhadipfobaaGreat
open Go.AM

def mlF : FuncId → Bool := fun g => Nat.beq g 9 || Nat.beq g 32

end Go.Proofs.YtfkkmhadipfobaaGreat
