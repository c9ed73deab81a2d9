import Derived.Test.YtjffimbigamadaaH3
import Derived.Test.YtjffimbigamadaaR15
set_option linter.unusedSimpArgs false
set_option linter.unusedVariables false
set_option linter.unusedSectionVars false
/- A page as it is looked at: by leaf, and by the document. -/
namespace Go.Proofs.Ytjffimbigamadaa
open Go.AM

structure Tg where
  k : Int
  p : Int
  s : Int
  e : Int
def tgA (t : Tg) : AV := tagA t.k t.p t.s t.e
def tgC (t : Tg) : List AV := [i64 t.k, i64 t.p, i64 t.s, i64 t.e]
def tg0 : Tg := ⟨0, 0, 0, 0⟩
def tgOf (l : List (BitVec 8)) : Tg := ⟨fK (l.drop (l.length - 16)), fP (l.drop (l.length - 16)), fS (l.drop (l.length - 16)), fE (l.drop (l.length - 16))⟩
/-- What a page that answered 'e', 'l' holds: its tag, its data, its state. -/
def lkT (e : Int) (l : List (BitVec 8)) : Tg := if e = 0 ∧ state l = 1 then tgOf l else tg0
def lkD (e : Int) (l : List (BitVec 8)) : List (BitVec 8) := if e = 0 ∧ state l = 1 then l.take (l.length - 16) else []
def lkS (e : Int) (l : List (BitVec 8)) : Int := if e = 0 then (state l : Int) else 0
theorem tg_st {N : Mem} {b : Nat} {cs : List AV} (t : Tg) (hg : N.get b = some (.cells cs true)) (hl : cs.length = 4) : eSt tb 76 (.ptr b 0) (tgA t) N = some (undefA, N.put b (.cells (tgC t) true)) := by
  obtain ⟨k, p, s, e⟩ := t
  exact eSt_some (st_tag k p s e hg hl)
theorem tg_ld {N : Mem} {b : Nat} {t : Tg} (hg : N.get b = some (.cells (tgC t) true)) : evLoad tb 76 (.ptr b 0) N = some (tgA t) := (tag_ld hg).2.2.2.2
theorem tg_res4 {N : Mem} {b : Nat} {t : Tg} {x y z : AV} (hg : N.get b = some (.cells (tgC t) true)) : eRes tb [.v x, .c 76 (.ptr b 0), .v y, .v z] N = some (.tup [x, tgA t, y, z]) := by
  have la := tg_ld hg
  unfold eRes resC resC resC resC resC
  simp only [la, Option.map_some]
theorem rdB_len {M : Mem} {p : Nat} {C : Chip} (h : ChipAt M p C) (b k : Int) : (rdB C b k).length ≤ 80 := by
  have hm := mayG_iff.1 h.may
  unfold rdB
  split
  · split
    · unfold pageB
      rw [List.length_take]
      unfold rawN; omega
    · simp
  · simp

/-- A new block written once more. -/
theorem keep_put_new {M N : Mem} (k : Keep M N []) {b : Nat} (h1 : M.next ≤ b) (h2 : b < N.next) (row : Row) : Keep M (N.put b row) [] :=
  ⟨k.wf.put h2 _, k.nxt, fun c hc _ => by rw [Mem.get_put, if_neg (by omega)]; exact k.old c hc (by simp)⟩
theorem step_put_new {M N : Mem} {p : Nat} {C C' : Chip} (s : Step M N p C C') (hw : M.WF) (h : ChipAt M p C) {b : Nat} (h1 : M.next ≤ b) (h2 : b < N.next) (row : Row) : Step M (N.put b row) p C C' := by
  have k : Keep N (N.put b row) [b] := Keep.put s.wf h2 row
  have hf : ∀ c ∈ [b], c ∉ foot p C' ∧ ¬ inBlk C'.fsA c := fun c hc => by
    simp only [List.mem_singleton] at hc
    subst hc
    refine ⟨fun hm => ?_, fun hm => ?_⟩
    · rw [s.foot] at hm
      have := h.lt hw _ hm; omega
    · rw [s.fsA] at hm
      have := SlAt.blk_lt h.flt hw hm; omega
  refine ⟨s.at'.keepS s.wf k hf, ⟨k.wf, Nat.le_trans s.keep.nxt k.nxt, fun c hc hn => ?_⟩, s.foot, s.fsA, s.fs, s.g⟩
  rw [Mem.get_put, if_neg (by omega)]
  exact s.keep.old c hc hn

theorem c_look (M : Mem) (hw : M.WF) (p : Nat) (C : Chip) (h : ChipAt M p C) (b k : Int) :
    CallA tb.P 94 [.ptr p 0, placeA b k] M fun y N => ∃ u, y = .tup [u, tgA (lkT (rdE C b k) (rdB C b k)), i64 (lkS (rdE C b k) (rdB C b k)), i64 (rdE C b k)] ∧ Gr N u (lkD (rdE C b k) (rdB C b k)) ∧ (∀ c, inBlk u c → M.next ≤ c) ∧ Step M N p C (rdC C b k) := by
  refine F94_ok ?_
  unfold F94
  refine ⟨_, _, rfl, ?_⟩
  refine letP_i fun M3 hM3 => ?_
  have hM3' : M3 = M.new (.cells [i64 b, i64 k] true) := hM3
  have hk3 : Keep M M3 [] := by rw [hM3']; exact Keep.new hw _
  have hpl3 : M3.get M.next = some (.cells [i64 b, i64 k] true) := by rw [hM3']; exact get_new _ _
  clear hM3 hM3'
  refine letP_i fun M4 hM4 => ?_
  have hM4' : M4 = M3.new (.cells (tgC tg0) true) := hM4
  have hk4 : Keep M3 M4 [] := by rw [hM4']; exact Keep.new hk3.wf _
  have hb4 : M4.get M3.next = some (.cells (tgC tg0) true) := by rw [hM4']; exact get_new _ _
  clear hM4 hM4'
  have hK4 := hk3.trans0 hk4
  have h4 := h.keep hw hK4
  have hpl4 := hk4.get hk3.wf hpl3 (by simp)
  obtain ⟨_, _, l2⟩ := place_ld hpl4
  refine bindO_i (eLd_some l2) ?_
  refine ⟨_, _, rfl, ?_⟩
  refine (c_read M4 hK4.wf p C h4 b k).mono ?_
  rintro y M9 ⟨u, rfl, hu, hfu, s9⟩
  refine ⟨u, _, rfl, ?_⟩
  have hbM : M.next ≤ M3.next := hk3.nxt
  have hb3 : M3.next < M4.next := hk4.wf _ _ hb4
  have hb9 : M9.get M3.next = some (.cells (tgC tg0) true) := step_get s9 hK4.wf hb4 (fun hm => by have := h.lt hw _ hm; omega)
  have hn9 : M3.next < M9.next := Nat.lt_of_lt_of_le hb3 s9.keep.nxt
  have s9M : Step M M9 p C (rdC C b k) := s9.pre hK4
  have hlen := rdB_len h b k
  refine condB_i (fun q => ?_) (fun q => ?_)
  · have q : ¬ rdE C b k = 0 := by simpa using q
    refine bindO_i (tg_st tg0 hb9 rfl) ?_
    refine bindO_i (tg_res4 (t := tg0) (by rw [Mem.get_put, if_pos rfl])) ?_
    have e1 : lkT (rdE C b k) (rdB C b k) = tg0 := by unfold lkT; rw [if_neg (fun hh => q hh.1)]
    have e2 : lkS (rdE C b k) (rdB C b k) = 0 := by unfold lkS; rw [if_neg q]
    have e3 : lkD (rdE C b k) (rdB C b k) = [] := by unfold lkD; rw [if_neg (fun hh => q hh.1)]
    rw [e1, e2, e3]
    exact ⟨.val (.slice none 0 0), rfl, .inl ⟨rfl, rfl⟩, fun c hc => hc.elim, step_put_new s9M hw h hbM hn9 _⟩
  have q : rdE C b k = 0 := by simpa using q
  rw [q]
  generalize rdB C b k = l at *
  have h9 := s9.at'
  refine (t_read M9 s9.wf u l hu.at (by omega)).mono ?_
  rintro y M15 ⟨hk15, hres⟩
  have fin : ∀ (x : AV) (t : Tg) (st : Int), y = .tup [x, tgA t, i64 st] → Gr M15 x (lkD 0 l) → (∀ c, inBlk x c → M9.next ≤ c) → lkT 0 l = t → lkS 0 l = st →
      (∃ (x16 : AV) (z17 z18 z19 z20 z21 : Int), y = .tup [x16, .agg [.val (.int .i64 z17), .val (.int .i64 z18), .val (.int .i64 z19), .val (.int .i64 z20)], .val (.int .i64 z21)] ∧
        letP (M15.new (.cells [.val (.int .i64 0), .val (.int .i64 0), .val (.int .i64 0), .val (.int .i64 0)] true)) fun M22 =>
        bindO (eSt tb 76 (.ptr M15.next 0) (.agg [.val (.int .i64 z17), .val (.int .i64 z18), .val (.int .i64 z19), .val (.int .i64 z20)]) M22) fun y23 =>
        bindO (eLd tb 76 (.ptr M15.next 0) y23.2) fun y24 => ∃ z25 z26 z27 z28, y24.1 = .agg [.val (.int .i64 z25), .val (.int .i64 z26), .val (.int .i64 z27), .val (.int .i64 z28)] ∧
        bindO (eSt tb 76 (.ptr M3.next 0) (.agg [.val (.int .i64 z25), .val (.int .i64 z26), .val (.int .i64 z27), .val (.int .i64 z28)]) y23.2) fun y29 =>
        bindO (eRes tb [.v x16, .c 76 (.ptr M3.next 0), .v (.val (.int .i64 z21)), .v (.val (.int .i64 0))] y29.2) fun x30 =>
          ∃ u, x30 = .tup [u, tgA (lkT 0 l), i64 (lkS 0 l), i64 0] ∧ Gr y29.2 u (lkD 0 l) ∧ (∀ c, inBlk u c → M.next ≤ c) ∧ Step M y29.2 p C (rdC C b k)) := by
    intro x t st hy hx hfx ht hst
    refine ⟨x, t.k, t.p, t.s, t.e, st, hy, ?_⟩
    refine letP_i fun M22 hM22 => ?_
    subst hM22
    have hg := get_new M15 (.cells [.val (.int .i64 0), .val (.int .i64 0), .val (.int .i64 0), .val (.int .i64 0)] true)
    refine bindO_i (tg_st t hg rfl) ?_
    rw [Mem.new_put]
    have hk22 := Keep.new hk15.wf (.cells (tgC t) true)
    have hg22 := get_new M15 (.cells (tgC t) true)
    have hb22 := hk22.get hk15.wf (hk15.get s9.wf hb9 (by simp)) (by simp)
    generalize M15.new (.cells (tgC t) true) = M23 at hk22 hg22 hb22 ⊢
    refine bindO_i (eLd_some (tg_ld hg22)) ?_
    refine ⟨_, _, _, _, rfl, ?_⟩
    refine bindO_i (tg_st t hb22 rfl) ?_
    refine bindO_i (tg_res4 (t := t) (by rw [Mem.get_put, if_pos rfl])) ?_
    have s23 : Step M M23 p C (rdC C b k) := s9M.post (hk15.trans0 hk22)
    have hn : M3.next < M23.next := hk22.wf _ _ hb22
    have hx23 : Gr M23 x (lkD 0 l) := hx.mono fun c row _ hr => hk22.get hk15.wf hr (by simp)
    refine ⟨x, by rw [ht, hst]; rfl, hx23.mono fun c row hc hr => ?_, fun c hc => ?_, step_put_new s23 hw h hbM hn _⟩
    · have := hfx c hc
      rw [Mem.get_put, if_neg (by omega)]; exact hr
    · have := hfx c hc
      have := s9.keep.nxt
      have := hK4.nxt
      omega
  rcases hres with ⟨hst, x, rfl, hx, hfx⟩ | ⟨hst, rfl⟩
  · refine fin x (tgOf l) 1 rfl ?_ hfx ?_ ?_
    · unfold lkD; rw [if_pos ⟨rfl, hst⟩]; exact hx
    · unfold lkT; rw [if_pos ⟨rfl, hst⟩]
    · unfold lkS; rw [if_pos rfl, hst]; rfl
  · refine fin (.val (.slice none 0 0)) tg0 (state l) rfl ?_ (fun c hc => hc.elim) ?_ ?_
    · unfold lkD; rw [if_neg (fun hh => hst hh.2)]; exact .inl ⟨rfl, rfl⟩
    · unfold lkT; rw [if_neg (fun hh => hst hh.2)]
    · unfold lkS; rw [if_pos rfl]

end Go.Proofs.Ytjffimbigamadaa

/- State, Load: leaf's and the document's. -/
namespace Go.Proofs.Ytjffimbigamadaa
open Go.AM
end Go.Proofs.Ytjffimbigamadaa

/- Places, one behind the other; leaf goes over a chip. -/
namespace Go.Proofs.Ytjffimbigamadaa
open Go.AM

theorem c_numberV (M : Mem) (hw : M.WF) (g : Geo) (h : mayG g = true) (b p : Int) (hi : isG g b p = true) : CallA tb.P 111 [geoA g, placeA b p] M fun y N => y = i64 (b * g.pg + p) ∧ Keep M N [] := by
  refine F111_ok ?_
  unfold F111
  refine ⟨_, _, _, _, _, rfl, _, _, rfl, ?_⟩
  simp only [letP_eq]
  have hg := get_new M (.cells (geoC g) true)
  have hK := Keep.new hw (.cells (geoC g) true)
  have hK2 := Keep.new hK.wf (.cells [i64 b, i64 p] true)
  have hg2 := hK2.get hK.wf hg (by simp)
  have hp2 := get_new (M.new (.cells (geoC g) true)) (.cells [i64 b, i64 p] true)
  obtain ⟨l0, l1, l2, l3, l4, l5⟩ := geo_ld hg2
  refine bindO_i (eLd_some l5) ?_
  refine ⟨_, _, _, _, _, rfl, ?_⟩
  refine (c_may102 _ hK2.wf g).mono ?_
  rintro y N ⟨rfl, hk⟩
  simp only [zB_bool, h]
  refine condB_i (fun h => by simp at h) (fun _ => ?_)
  have hgN := hk.get hK2.wf hg2 (by simp)
  have hpN := hk.get hK2.wf hp2 (by simp)
  obtain ⟨_, _, _, _, _, k5⟩ := geo_ld hgN
  obtain ⟨_, _, p2⟩ := place_ld hpN
  refine bindO_i (eLd_some k5) ?_
  refine ⟨_, _, _, _, _, rfl, ?_⟩
  refine bindO_i (eLd_some p2) ?_
  refine ⟨_, _, rfl, ?_⟩
  refine (c_is _ hk.wf g h b p).mono ?_
  rintro y N' ⟨rfl, hk'⟩
  simp only [zB_bool]
  have hall := hK.trans0 (hK2.trans0 (hk.trans0 hk'))
  refine condB_i (fun hi' => by rw [hi] at hi'; cases hi') (fun _ => ?_)
  obtain ⟨_, k1, _⟩ := geo_ld (hk'.get hk.wf hgN (by simp))
  obtain ⟨p0, p1, _⟩ := place_ld (hk'.get hk.wf hpN (by simp))
  refine bindO_i (eLd_some p0) ?_
  simp only [i64, zI_int]
  refine bindO_i (eLd_some k1) ?_
  simp only [i64, zI_int]
  refine bindO_i (eLd_some p1) ?_
  simp only [i64, zI_int]
  have hm := mayG_iff.1 h
  have hi2 := isG_iff.1 hi
  have hb := mul_bnd (a := b) (b := g.pg) (by omega) (by omega) (by omega) (by omega)
  have hn : 0 ≤ b * g.pg := Int.mul_nonneg (by omega) (by omega)
  rw [iMul, wrap_i64' (n := b * g.pg) (by omega) (by omega), iAdd, wrap_i64' (by omega) (by omega)]
  exact ⟨by trivial, hall⟩

theorem quo_some {xo yo : Operand} {a b : Nat} {M : Mem} (hb : b ≠ 0) (ha : a < 4611686018427387904) : eBin tb .quo 3 xo yo (.val (.int .i64 (a : Int))) (.val (.int .i64 (b : Int))) M = some (.val (.int .i64 ((a / b : Nat) : Int)), M) := by
  refine eBin_some ?_
  have hnn : (b : Int) ≠ 0 := by omega
  have hlt : a / b ≤ a := Nat.div_le_self a b
  rw [evBin_int (by simp) (by simp)]
  simp only [intBin, hnn, decide_false, cond_false, Option.map_some]
  have e : ((a : Int).tdiv (b : Int)) = ((a / b : Nat) : Int) := by rw [Int.tdiv_eq_ediv_of_nonneg (by omega)]; exact (Int.natCast_ediv a b).symm
  rw [e]
  generalize a / b = q at hlt
  rw [wrap_i64' (by omega) (by omega)]
theorem rem_some {xo yo : Operand} {a b : Nat} {M : Mem} (hb : b ≠ 0) : eBin tb .rem 3 xo yo (.val (.int .i64 (a : Int))) (.val (.int .i64 (b : Int))) M = some (.val (.int .i64 ((a % b : Nat) : Int)), M) := by
  refine eBin_some ?_
  have hnn : (b : Int) ≠ 0 := by omega
  rw [evBin_int (by simp) (by simp)]
  simp only [intBin, hnn, decide_false, cond_false, Option.map_some]
  have e : ((a : Int).tmod (b : Int)) = ((a % b : Nat) : Int) := by rw [Int.tmod_eq_emod_of_nonneg (by omega)]; exact (Int.natCast_emod a b).symm
  rw [e]

/-- How many pages there are. -/
def nP (g : Geo) : Nat := g.bl.toNat * g.pg.toNat
def plB (g : Geo) (i : Nat) : Nat := i / g.pg.toNat
def plK (g : Geo) (i : Nat) : Nat := i % g.pg.toNat
theorem nP_bnd {g : Geo} (h : mayG g = true) : 1 ≤ nP g ∧ nP g ≤ 160 ∧ g.bl = (g.bl.toNat : Int) ∧ g.pg = (g.pg.toNat : Int) ∧ 4 ≤ g.pg.toNat ∧ g.pg.toNat ≤ 8 ∧ 8 ≤ g.bl.toNat ∧ g.bl.toNat ≤ 20 := by
  have hm := mayG_iff.1 h
  have h1 : g.bl.toNat * g.pg.toNat ≤ 20 * 8 := Nat.mul_le_mul (by omega) (by omega)
  have h2 : 8 * 4 ≤ g.bl.toNat * g.pg.toNat := Nat.mul_le_mul (by omega) (by omega)
  unfold nP
  omega
theorem pl_is {g : Geo} (h : mayG g = true) {i : Nat} (hi : i < nP g) : isG g (plB g i) (plK g i) = true ∧ plB g i < g.bl.toNat ∧ plK g i < g.pg.toNat ∧ plB g i * g.pg.toNat + plK g i = i := by
  obtain ⟨_, _, h1, h2, h3, _, _, _⟩ := nP_bnd h
  have hk : plK g i < g.pg.toNat := Nat.mod_lt _ (by omega)
  have hb : plB g i < g.bl.toNat := by
    unfold plB
    rw [Nat.div_lt_iff_lt_mul (by omega)]
    exact hi
  have he : plB g i * g.pg.toNat + plK g i = i := by unfold plB plK; exact Nat.div_add_mod' i g.pg.toNat
  refine ⟨isG_iff.2 ⟨⟨by omega, by omega⟩, by omega, by omega⟩, hb, hk, he⟩

theorem place_stE {M : Mem} {b : Nat} {cs : List AV} (x y : Int) (hg : M.get b = some (.cells cs true)) (hl : cs.length = 2) : eSt tb 30 (.ptr b 0) (placeA x y) M = some (undefA, M.put b (.cells [i64 x, i64 y] true)) :=
  eSt_some (st_all ty30 rfl hg hl (by intro v hv; simp only [List.mem_cons, List.not_mem_nil, or_false] at hv; rcases hv with rfl | rfl <;> rfl))
theorem place_res {M : Mem} {b : Nat} {x y : Int} {z : AV} (hg : M.get b = some (.cells [i64 x, i64 y] true)) : eRes tb [.c 30 (.ptr b 0), .v z] M = some (.tup [placeA x y, z]) := by
  have l := (place_ld hg).2.2
  unfold eRes resC resC resC
  simp only [l, Option.map_some]

/-- The place behind the i-th one. -/
theorem c_next (M : Mem) (hw : M.WF) (g : Geo) (h : mayG g = true) (i : Nat) (hi : i < nP g) :
    CallA tb.P 114 [geoA g, placeA (plB g i) (plK g i)] M fun y N => Keep M N [] ∧ ((i + 1 < nP g ∧ y = .tup [placeA (plB g (i + 1)) (plK g (i + 1)), .val (.bool true)]) ∨ (i + 1 = nP g ∧ y = .tup [placeA 0 0, .val (.bool false)])) := by
  obtain ⟨hn1, hn2, h1, h2, h3, _, _, _⟩ := nP_bnd h
  obtain ⟨hp, _, _, he⟩ := pl_is h hi
  refine F114_ok ?_
  unfold F114
  refine ⟨_, _, _, _, _, rfl, _, _, rfl, ?_⟩
  refine letP_i fun M8 hM8 => ?_
  have hM8' : M8 = M.new (.cells (geoC g) true) := hM8
  have hk8 : Keep M M8 [] := by rw [hM8']; exact Keep.new hw _
  have hg8 : M8.get M.next = some (.cells (geoC g) true) := by rw [hM8']; exact get_new _ _
  clear hM8 hM8'
  refine letP_i fun M9 hM9 => ?_
  have hM9' : M9 = M8.new (.cells [i64 (plB g i : Int), i64 (plK g i : Int)] true) := hM9
  have hk9 : Keep M8 M9 [] := by rw [hM9']; exact Keep.new hk8.wf _
  have hp9 : M9.get M8.next = some (.cells [i64 (plB g i : Int), i64 (plK g i : Int)] true) := by rw [hM9']; exact get_new _ _
  clear hM9 hM9'
  refine letP_i fun M10 hM10 => ?_
  have hM10' : M10 = M9.new (.cells [i64 0, i64 0] true) := hM10
  have hk10 : Keep M9 M10 [] := by rw [hM10']; exact Keep.new hk9.wf _
  have hr10 : M10.get M9.next = some (.cells [i64 0, i64 0] true) := by rw [hM10']; exact get_new _ _
  clear hM10 hM10'
  have hK := hk8.trans0 (hk9.trans0 hk10)
  have hg10 := (hk9.trans0 hk10).get hk8.wf hg8 (by simp)
  have hp10 := hk10.get hk9.wf hp9 (by simp)
  obtain ⟨_, _, _, _, _, l5⟩ := geo_ld hg10
  refine bindO_i (eLd_some l5) ?_
  refine ⟨_, _, _, _, _, rfl, ?_⟩
  refine bindO_i (eLd_some (place_ld hp10).2.2) ?_
  refine ⟨_, _, rfl, ?_⟩
  refine (c_numberV M10 hK.wf g h _ _ hp).mono ?_
  rintro y M21 ⟨rfl, hk21⟩
  have hnum : (plB g i : Int) * g.pg + (plK g i : Int) = (i : Int) := by
    rw [h2, ← Int.natCast_mul, ← Int.natCast_add, he]
  rw [hnum]
  simp only [i64, zI_int]
  have hM9 : M.next ≤ M9.next := (hk8.trans0 hk9).nxt
  have hres : ∀ (N : Mem) (x y : Int) (z : AV), Keep M10 N [] → ∃ N', eSt tb 30 (.ptr M9.next 0) (placeA x y) N = some (undefA, N') ∧ eRes tb [.c 30 (.ptr M9.next 0), .v z] N' = some (.tup [placeA x y, z]) ∧ Keep M N' [] := by
    intro N x y z hk
    have hrN := hk.get hK.wf hr10 (by simp)
    exact ⟨_, place_stE x y hrN rfl, place_res (by rw [Mem.get_put, if_pos rfl]), keep_put_new (hK.trans0 hk) hM9 (hk.wf _ _ hrN) _⟩
  refine letP_i fun K38 hK38 => ?_
  have stop : ∀ N, Keep M10 N [] → i + 1 = nP g → K38 true N := by
    intro N hk hn
    rw [hK38]
    simp only [condB_true]
    obtain ⟨N', e1, e2, e3⟩ := hres N 0 0 (.val (.bool false)) hk
    refine bindO_i e1 ?_
    refine bindO_i e2 ?_
    exact ⟨e3, .inr ⟨hn, rfl⟩⟩
  have go : ∀ N, Keep M10 N [] → i + 1 < nP g → K38 false N := by
    intro N hk hn
    rw [hK38]
    simp only [condB_false]
    have hgN := hk.get hK.wf hg10 (by simp)
    have l1 : eLd tb 3 (.ptr M.next 1) N = some (.val (.int .i64 (g.pg.toNat : Int)), N) := by rw [← h2]; exact eLd_some (geo_ld hgN).2.1
    rw [iInc (by omega)]
    simp only [l1, bindO_some, zI_int]
    refine bindO_i (quo_some (by omega) (by omega)) ?_
    simp only [zI_int]
    refine bindO_i (rem_some (by omega)) ?_
    simp only [zI_int]
    obtain ⟨N', e1, e2, e3⟩ := hres N (plB g (i + 1)) (plK g (i + 1)) (.val (.bool true)) hk
    refine bindO_i e1 ?_
    refine bindO_i e2 ?_
    exact ⟨e3, .inl ⟨hn, rfl⟩⟩
  clear hK38
  have hg21 := hk21.get hK.wf hg10 (by simp)
  obtain ⟨_, _, _, _, _, m5⟩ := geo_ld hg21
  refine bindO_i (eLd_some m5) ?_
  refine ⟨_, _, _, _, _, rfl, ?_⟩
  refine (c_may102 M21 hk21.wf g).mono ?_
  rintro y M30 ⟨rfl, hk30⟩
  have hk30' := hk21.trans0 hk30
  rw [h]
  simp only [zB_bool, Bool.not_true, condB_false]
  rw [iInc (by omega)]
  refine condB_i (fun hz => ?_) (fun _ => ?_)
  · exfalso
    have : ((i + 1 : Nat) : Int) = 0 := by simpa using hz
    omega
  have hg30 := hk30'.get hK.wf hg10 (by simp)
  have n0 : eLd tb 3 (.ptr M.next 0) M30 = some (.val (.int .i64 g.bl), M30) := eLd_some (geo_ld hg30).1
  have n1 : eLd tb 3 (.ptr M.next 1) M30 = some (.val (.int .i64 g.pg), M30) := eLd_some (geo_ld hg30).2.1
  simp only [n0, n1, bindO_some, zI_int]
  have hmul : iMul .i64 g.bl g.pg = ((nP g : Nat) : Int) := by
    have : ((nP g : Nat) : Int) = g.bl * g.pg := by unfold nP; rw [Int.natCast_mul, ← h1, ← h2]
    rw [iMul, ← this, wrap_i64' (by omega) (by omega)]
  rw [hmul]
  by_cases hn : i + 1 = nP g
  · rw [show (((i + 1 : Nat) : Int) == ((nP g : Nat) : Int)) = true by rw [hn]; exact beq_self_eq_true _]
    exact stop M30 hk30' hn
  · rw [show (((i + 1 : Nat) : Int) == ((nP g : Nat) : Int)) = false by rw [beq_eq_false_iff_ne]; omega]
    exact go M30 hk30' (by omega)

/-! ## Over a chip -/

/-- One page more: the chip, what was gathered, what was answered. -/
def ovS {α : Type} (f : α → Nat → Nat → Tg → Int → α) (s : Chip × α × Int) (i : Nat) : Chip × α × Int :=
  if s.2.2 ≠ 0 then s
  else if badF s.1.fs (plB s.1.g i) = true then s
  else if rdE s.1 (plB s.1.g i) (plK s.1.g i) = 0 then (rdC s.1 (plB s.1.g i) (plK s.1.g i), f s.2.1 (plB s.1.g i) (plK s.1.g i) (lkT 0 (rdB s.1 (plB s.1.g i) (plK s.1.g i))) (lkS 0 (rdB s.1 (plB s.1.g i) (plK s.1.g i))), 0)
  else (rdC s.1 (plB s.1.g i) (plK s.1.g i), s.2.1, rdE s.1 (plB s.1.g i) (plK s.1.g i))
def ovN {α : Type} (f : α → Nat → Nat → Tg → Int → α) (C : Chip) (a : α) : Nat → Chip × α × Int
  | 0 => (C, a, 0)
  | i + 1 => ovS f (ovN f C a i) i

theorem ovN_stop {α : Type} {f : α → Nat → Nat → Tg → Int → α} {C : Chip} {a : α} {i : Nat} (h : (ovN f C a i).2.2 ≠ 0) : ∀ m, ovN f C a (i + m) = ovN f C a i
  | 0 => rfl
  | m + 1 => by
    show ovS f (ovN f C a (i + m)) (i + m) = _
    rw [ovN_stop h m]
    unfold ovS
    rw [if_pos h]

theorem rdC_same (C : Chip) (b k : Int) : (rdC C b k).g = C.g ∧ (rdC C b k).fs = C.fs ∧ (rdC C b k).bs = C.bs := by
  have h := bgC_bs C
  unfold rdC
  split
  · exact ⟨h.2.1, h.2.2.1, h.1⟩
  · exact ⟨rfl, rfl, rfl⟩

theorem ovN_same {α : Type} (f : α → Nat → Nat → Tg → Int → α) (C : Chip) (a : α) : ∀ i, (ovN f C a i).1.g = C.g ∧ (ovN f C a i).1.fs = C.fs ∧ (ovN f C a i).1.bs = C.bs
  | 0 => ⟨rfl, rfl, rfl⟩
  | i + 1 => by
    obtain ⟨h1, h2, h3⟩ := ovN_same f C a i
    show (ovS f _ i).1.g = _ ∧ (ovS f _ i).1.fs = _ ∧ (ovS f _ i).1.bs = _
    unfold ovS
    split
    · exact ⟨h1, h2, h3⟩
    · split
      · exact ⟨h1, h2, h3⟩
      · obtain ⟨g1, g2, g3⟩ := rdC_same (ovN f C a i).1 (plB (ovN f C a i).1.g i) (plK (ovN f C a i).1.g i)
        split
        · exact ⟨g1.trans h1, g2.trans h2, g3.trans h3⟩
        · exact ⟨g1.trans h1, g2.trans h2, g3.trans h3⟩

/-- As a step of the chip, but one block more may be another one. -/
structure StepX (M N : Mem) (p : Nat) (C C' : Chip) (q : Nat) : Prop where
  at' : ChipAt N p C'
  keep : Keep M N (q :: foot p C)
  foot : foot p C' = foot p C
  fsA : C'.fsA = C.fsA

theorem c_over {α : Type} (f : α → Nat → Nat → Tg → Int → α) (J : Nat → α → Mem → Prop) (g q : Nat) {G : Func} (hG : tb.fn.get g = some G) (M : Mem) (hw : M.WF) (p : Nat) (C : Chip) (h : ChipAt M p C) (hq : q < M.next) (hqf : q ∉ foot p C) (hqs : ¬ inBlk C.fsA q) (a0 : α)
    (h0 : ∀ D N, Keep M N [] → M.next ≤ D → D ≤ N.next → J D a0 N)
    (hst : ∀ D a N N', J D a N → N.WF → (∀ c row, N.get c = some row → (c = q ∨ D ≤ c) → N'.get c = some row) → J D a N')
    (hcall : ∀ D a N (b k : Nat) t s, (∃ i C', i < nP C.g ∧ ovN f C a0 i = (C', a, 0)) → N.WF → M.next ≤ D → D ≤ N.next → J D a N → 0 ≤ s ∧ s ≤ 2 → CallA tb.P g [placeA b k, tgA t, i64 s, .ptr q 0] N fun y N' => N'.WF ∧ N.next ≤ N'.next ∧ (∀ c, c < D → c ≠ q → N'.get c = N.get c) ∧ J D (f a b k t s) N') :
    CallA tb.P 91 [.ptr p 0, .fn g [] [.ptr q 0]] M fun y N => y = i64 (ovN f C a0 (nP C.g)).2.2 ∧ StepX M N p C (ovN f C a0 (nP C.g)).1 q ∧ ∃ D, M.next ≤ D ∧ J D (ovN f C a0 (nP C.g)).2.1 N := by
  have hmay := h.may
  obtain ⟨hn1, hn2, e1, e2, h3, h3', _, _⟩ := nP_bnd hmay
  have hlt := h.lt hw
  have hslt : ∀ c, inBlk C.fsA c → c < M.next := fun c hc => SlAt.blk_lt h.flt hw hc
  refine F91_ok ?_
  unfold F91
  refine letP_i fun M1 hM1 => ?_
  have hM1' : M1 = M.new (.cells (tgC tg0) true) := hM1
  have hk1 : Keep M M1 [] := by rw [hM1']; exact Keep.new hw _
  have ht1 : M1.get M.next = some (.cells (tgC tg0) true) := by rw [hM1']; exact get_new _ _
  clear hM1 hM1'
  refine (c_geo M1 hk1.wf p C (h.keep hw hk1)).mono ?_
  rintro y M3 ⟨rfl, hk3⟩
  have ht3 := hk3.get hk1.wf ht1 (by simp)
  have hMt : M.next < M3.next := hk3.wf _ _ ht3
  refine ⟨_, _, _, _, _, rfl, ?_⟩
  refine letP_i fun M9 hM9 => ?_
  subst hM9
  refine bindO_i (geo_st C.g (get_new M3 _) rfl) ?_
  rw [Mem.new_put]
  have hk10 := Keep.new hk3.wf (.cells (geoC C.g) true)
  have hg10 := get_new M3 (.cells (geoC C.g) true)
  generalize M3.new (.cells (geoC C.g) true) = M10 at hk10 hg10 ⊢
  have hMg : M3.next < M10.next := hk10.wf _ _ hg10
  dsimp only
  refine letP_i fun M11 hM11 => ?_
  subst hM11
  refine bindO_i (place_stE (cs := [i64 0, i64 0]) 0 0 (get_new M10 _) rfl) ?_
  rw [Mem.new_put]
  have hk12 := Keep.new hk10.wf (.cells [i64 0, i64 0] true)
  have hp12 := get_new M10 (.cells [i64 0, i64 0] true)
  generalize M10.new (.cells [i64 0, i64 0] true) = M12 at hk12 hp12 ⊢
  have hMp : M10.next < M12.next := hk12.wf _ _ hp12
  have hK12 : Keep M M12 [] := hk1.trans0 (hk3.trans0 (hk10.trans0 hk12))
  have ht12 := (hk10.trans0 hk12).get hk3.wf ht3 (by simp)
  have hg12 := hk12.get hk10.wf hg10 (by simp)
  rw [nil_eq, bindO_some]
  simp only [zB_bool, condB_false]
  generalize hbt : M.next = bt at *
  generalize hbg : M3.next = bg at *
  generalize hbp : M10.next = bp at *
  generalize hD : M12.next = D at *
  -- what holds ahead of the i-th place
  let I : Nat → Chip → α → Mem → Prop := fun i C' a P => ovN f C a0 i = (C', a, 0) ∧ P.WF ∧ D ≤ P.next ∧ ChipAt P p C' ∧ C'.g = C.g ∧ C'.fs = C.fs ∧ C'.fsA = C.fsA ∧ foot p C' = foot p C ∧ (∀ c, c < M.next → c ≠ q → c ∉ foot p C → P.get c = M.get c) ∧
    P.get bg = some (.cells (geoC C.g) true) ∧ P.get bp = some (.cells [i64 (plB C.g i : Int), i64 (plK C.g i : Int)] true) ∧ (∃ cs, P.get bt = some (.cells cs true) ∧ cs.length = 4) ∧ J D a P
  have pl0 : plB C.g 0 = 0 ∧ plK C.g 0 = 0 := by unfold plB plK; simp
  have hI0 : I 0 C a0 M12 := ⟨rfl, hk12.wf, Nat.le_of_eq hD.symm, h.keep hw hK12, rfl, rfl, rfl, rfl, fun c hc _ _ => hK12.old c hc (by simp), hg12, by rw [pl0.1, pl0.2]; exact hp12, ⟨_, ht12, rfl⟩, h0 D M12 hK12 (by omega) (Nat.le_of_eq hD.symm)⟩
  refine ⟨fun m P => ∃ (i : Nat) (C' : Chip) (a : α), i < nP C.g ∧ m = nP C.g - i ∧ I i C' a P, ⟨nP C.g, 0, C, a0, hn1, rfl, hI0⟩, ?_⟩
  rintro _ m P ⟨i, C', a, hi, rfl, hI⟩
  obtain ⟨hpl, _, _, _⟩ := pl_is hmay hi
  have fin : ∀ (N : Mem) (C2 : Chip) (a2 : α) (z : Int), ovN f C a0 (nP C.g) = (C2, a2, z) → N.WF → D ≤ N.next → ChipAt N p C2 → C2.fsA = C.fsA → foot p C2 = foot p C → (∀ c, c < M.next → c ≠ q → c ∉ foot p C → N.get c = M.get c) → J D a2 N →
      ((.val (.int .i64 z) : AV) = i64 (ovN f C a0 (nP C.g)).2.2 ∧ StepX M N p C (ovN f C a0 (nP C.g)).1 q ∧ ∃ D, bt ≤ D ∧ J D (ovN f C a0 (nP C.g)).2.1 N) := by
    intro N C2 a2 z he hwN hDN hat hfs hft hold hJ
    rw [he]
    refine ⟨rfl, ⟨hat, ⟨hwN, by omega, fun c hc hn => ?_⟩, hft, hfs⟩, D, by omega, hJ⟩
    simp only [List.mem_cons, not_or] at hn
    exact hold c hc hn.1 hn.2
  have nxt : ∀ (N : Mem) (C2 : Chip) (a2 : α), ovN f C a0 (i + 1) = (C2, a2, 0) → N.WF → D ≤ N.next → ChipAt N p C2 → C2.g = C.g → C2.fs = C.fs → C2.fsA = C.fsA → foot p C2 = foot p C → (∀ c, c < M.next → c ≠ q → c ∉ foot p C → N.get c = M.get c) →
      N.get bg = some (.cells (geoC C.g) true) → N.get bp = some (.cells [i64 (plB C.g i : Int), i64 (plK C.g i : Int)] true) → (∃ cs, N.get bt = some (.cells cs true) ∧ cs.length = 4) → J D a2 N →
      bindO (eLd tb 23 (.ptr bg 0) N) fun y24 => ∃ (z25 : Int) (z26 : Int) (z27 : Int) (z28 : Int) (z29 : Int), y24.1 = (.agg [(.val (.int .i64 z25)), (.val (.int .i64 z26)), (.val (.int .i64 z27)), (.val (.int .i64 z28)), (.val (.int .i64 z29))]) ∧
        (bindO (eLd tb 30 (.ptr bp 0) N) fun y30 => ∃ (z31 : Int) (z32 : Int), y30.1 = (.agg [(.val (.int .i64 z31)), (.val (.int .i64 z32))]) ∧
          (CallA tb.P 114 [(.agg [(.val (.int .i64 z25)), (.val (.int .i64 z26)), (.val (.int .i64 z27)), (.val (.int .i64 z28)), (.val (.int .i64 z29))]), (.agg [(.val (.int .i64 z31)), (.val (.int .i64 z32))])] N fun y33 M34 => ∃ (z35 : Int) (z36 : Int) (b37 : Bool), y33 = (.tup [(.agg [(.val (.int .i64 z35)), (.val (.int .i64 z36))]), (.val (.bool b37))]) ∧
            (bindO (eSt tb 30 (.ptr bp 0) (.agg [(.val (.int .i64 z35)), (.val (.int .i64 z36))]) M34) fun y38 => condB (b37) (∃ k39 : Nat, k39 < nP C.g - i ∧ ∃ (i : Nat) (C' : Chip) (a : α), i < nP C.g ∧ k39 = nP C.g - i ∧ I i C' a y38.2)
              ((.val (.int .i64 0) : AV) = i64 (ovN f C a0 (nP C.g)).2.2 ∧ StepX M y38.2 p C (ovN f C a0 (nP C.g)).1 q ∧ ∃ D, bt ≤ D ∧ J D (ovN f C a0 (nP C.g)).2.1 y38.2)))) := by
    intro N C2 a2 he hwN hDN hat hg2 hfs2 hfsA hft hold hgN hpN htN hJ
    refine bindO_i (eLd_some (geo_ld hgN).2.2.2.2.2) ?_
    refine ⟨_, _, _, _, _, rfl, ?_⟩
    refine bindO_i (eLd_some (place_ld hpN).2.2) ?_
    refine ⟨_, _, rfl, ?_⟩
    refine (c_next N hwN C.g hmay i hi).mono ?_
    rintro y M34 ⟨hk34, hy⟩
    have hp34 := hk34.get hwN hpN (by simp)
    have hb34 : bp < M34.next := hk34.wf _ _ hp34
    have hne : ∀ c, c < bt → c ≠ bp := fun c hc => by omega
    have put : ∀ (x y : Int), ∃ N2, eSt tb 30 (.ptr bp 0) (placeA x y) M34 = some (undefA, N2) ∧ N2 = M34.put bp (.cells [i64 x, i64 y] true) := fun x y => ⟨_, place_stE x y hp34 rfl, rfl⟩
    have after : ∀ (x y : Int), (M34.put bp (.cells [i64 x, i64 y] true)).WF ∧ D ≤ (M34.put bp (.cells [i64 x, i64 y] true)).next ∧ ChipAt (M34.put bp (.cells [i64 x, i64 y] true)) p C2 ∧ (∀ c, c < M.next → c ≠ q → c ∉ foot p C → (M34.put bp (.cells [i64 x, i64 y] true)).get c = M.get c) ∧
        (M34.put bp (.cells [i64 x, i64 y] true)).get bg = some (.cells (geoC C.g) true) ∧ (∃ cs, (M34.put bp (.cells [i64 x, i64 y] true)).get bt = some (.cells cs true) ∧ cs.length = 4) ∧ J D a2 (M34.put bp (.cells [i64 x, i64 y] true)) := by
      intro x y
      have kp : Keep M34 (M34.put bp (.cells [i64 x, i64 y] true)) [bp] := Keep.put hk34.wf hb34 _
      refine ⟨kp.wf, Nat.le_trans hDN (Nat.le_trans hk34.nxt kp.nxt), ?_, fun c hc h1 h2 => ?_, ?_, ?_, ?_⟩
      · refine (hat.keep hwN hk34).keepS hk34.wf kp (fun c hc => ?_)
        simp only [List.mem_singleton] at hc
        subst hc
        refine ⟨fun hm => ?_, fun hm => ?_⟩
        · rw [hft] at hm; have := hlt _ hm; omega
        · rw [hfsA] at hm; have := hslt _ hm; omega
      · rw [Mem.get_put, if_neg (by omega), hk34.old c (by omega) (by simp)]
        exact hold c hc h1 h2
      · rw [Mem.get_put, if_neg (by omega)]; exact hk34.get hwN hgN (by simp)
      · obtain ⟨cs, h1, h2⟩ := htN
        exact ⟨cs, by rw [Mem.get_put, if_neg (by omega)]; exact hk34.get hwN h1 (by simp), h2⟩
      · refine hst D a2 M34 _ (hst D a2 N _ hJ hwN fun c row hr _ => hk34.get hwN hr (by simp)) hk34.wf fun c row hr hc => ?_
        rw [Mem.get_put, if_neg (by omega)]; exact hr
    rcases hy with ⟨hlt2, rfl⟩ | ⟨hend, rfl⟩
    · refine ⟨_, _, true, rfl, ?_⟩
      obtain ⟨N2, e3, e4⟩ := put (plB C.g (i + 1)) (plK C.g (i + 1))
      obtain ⟨a1, a2', a3, a4, a5, a6, a7⟩ := after (plB C.g (i + 1)) (plK C.g (i + 1))
      rw [← e4] at a1 a2' a3 a4 a5 a6 a7
      refine bindO_i e3 ?_
      simp only [condB_true]
      exact ⟨nP C.g - (i + 1), by omega, i + 1, C2, a2, hlt2, rfl, he, a1, a2', a3, hg2, hfs2, hfsA, hft, a4, a5, by rw [e4, Mem.get_put, if_pos rfl], a6, a7⟩
    · refine ⟨_, _, false, rfl, ?_⟩
      obtain ⟨N2, e3, e4⟩ := put 0 0
      obtain ⟨a1, a2', a3, a4, a5, a6, a7⟩ := after 0 0
      rw [← e4] at a1 a2' a3 a4 a5 a6 a7
      refine bindO_i e3 ?_
      simp only [condB_false]
      exact fin N2 C2 a2 0 (by rw [← hend]; exact he) a1 a2' a3 hfsA hft a4 a7
  obtain ⟨heI, hwP, hDP, hatP, hgP, hfsP, hfsAP, hftP, holdP, hbgP, hbpP, hbtP, hJP⟩ := hI
  have l0 : eLd tb 3 (.ptr bp 0) P = some (.val (.int .i64 (plB C.g i : Int)), P) := eLd_some (place_ld hbpP).1
  refine bindO_i l0 ?_
  simp only [zI_int]
  refine (c_badOf P hwP p C' hatP (plB C.g i : Int)).mono ?_
  rintro y M22 ⟨rfl, hk22⟩
  simp only [zB_bool]
  have hstep : ovN f C a0 (i + 1) = ovS f (C', a, 0) i := by
    show ovS f (ovN f C a0 i) i = _
    rw [heI]
  have hat22 := hatP.keep hwP hk22
  have hbg22 := hk22.get hwP hbgP (by simp)
  have hbp22 := hk22.get hwP hbpP (by simp)
  have hbt22 : ∃ cs, M22.get bt = some (.cells cs true) ∧ cs.length = 4 := by
    obtain ⟨cs, h1, h2⟩ := hbtP
    exact ⟨cs, hk22.get hwP h1 (by simp), h2⟩
  have hold22 : ∀ c, c < M.next → c ≠ q → c ∉ foot p C → M22.get c = M.get c := fun c hc h1 h2 => by rw [hk22.old c (by omega) (by simp)]; exact holdP c hc h1 h2
  have hJ22 : J D a M22 := hst D a P _ hJP hwP fun c row hr _ => hk22.get hwP hr (by simp)
  have hD22 : D ≤ M22.next := Nat.le_trans hDP hk22.nxt
  refine condB_i (fun hb => ?_) (fun hb => ?_)
  · refine nxt M22 C' a ?_ hk22.wf hD22 hat22 hgP hfsP hfsAP hftP hold22 hbg22 hbp22 hbt22 hJ22
    rw [hstep]
    unfold ovS
    rw [if_neg (by simp)]
    simp only
    rw [hgP, if_pos hb]
  have hb' : ¬ badF C'.fs (plB C'.g i : Int) = true := by rw [hgP, hb]; simp
  refine bindO_i (eLd_some (place_ld hbp22).2.2) ?_
  refine ⟨_, _, rfl, ?_⟩
  refine (c_look M22 hk22.wf p C' hat22 (plB C.g i) (plK C.g i)).mono ?_
  rintro y M44 ⟨u, rfl, hu, hfu, s44⟩
  have hS : ovN f C a0 (i + 1) = if rdE C' (plB C.g i) (plK C.g i) = 0 then (rdC C' (plB C.g i) (plK C.g i), f a (plB C.g i) (plK C.g i) (lkT 0 (rdB C' (plB C.g i) (plK C.g i))) (lkS 0 (rdB C' (plB C.g i) (plK C.g i))), 0)
      else (rdC C' (plB C.g i) (plK C.g i), a, rdE C' (plB C.g i) (plK C.g i)) := by
    rw [hstep]
    unfold ovS
    rw [if_neg (by simp)]
    simp only
    rw [if_neg hb', hgP]
  have hlen := rdB_len hatP (plB C.g i) (plK C.g i)
  obtain ⟨g1, g2, g3⟩ := rdC_same C' (plB C.g i) (plK C.g i)
  generalize rdE C' (plB C.g i) (plK C.g i) = e at *
  generalize rdB C' (plB C.g i) (plK C.g i) = l at *
  generalize rdC C' (plB C.g i) (plK C.g i) = C2 at *
  refine ⟨u, (lkT e l).k, (lkT e l).p, (lkT e l).s, (lkT e l).e, _, _, rfl, ?_⟩
  have hf44 : ∀ c, bt ≤ c → c ∉ foot p C' := fun c hc hm => by rw [hftP] at hm; have := hlt _ hm; omega
  obtain ⟨cs, hbt1, hbt2⟩ := hbt22
  have hbt44 := step_get s44 hk22.wf hbt1 (hf44 _ (Nat.le_refl _))
  have hbg44 := step_get s44 hk22.wf hbg22 (hf44 _ (by omega))
  have hbp44 := step_get s44 hk22.wf hbp22 (hf44 _ (by omega))
  refine bindO_i (tg_st (lkT e l) hbt44 hbt2) ?_
  have kp : Keep M44 (M44.put bt (.cells (tgC (lkT e l)) true)) [bt] := Keep.put s44.wf (s44.wf _ _ hbt44) _
  have hbt52 : (M44.put bt (.cells (tgC (lkT e l)) true)).get bt = some (.cells (tgC (lkT e l)) true) := by rw [Mem.get_put, if_pos rfl]
  have hD44 : D ≤ M44.next := Nat.le_trans hD22 s44.keep.nxt
  have hft2 : foot p C2 = foot p C := s44.foot.trans hftP
  have hfsA2 : C2.fsA = C.fsA := s44.fsA.trans hfsAP
  have hat52 : ChipAt (M44.put bt (.cells (tgC (lkT e l)) true)) p C2 := s44.at'.keepS s44.wf kp (fun c hc => by
    simp only [List.mem_singleton] at hc
    subst hc
    refine ⟨fun hm => ?_, fun hm => ?_⟩
    · rw [hft2] at hm; have := hlt _ hm; omega
    · rw [hfsA2] at hm; have := hslt _ hm; omega)
  have hold52 : ∀ c, c < M.next → c ≠ q → c ∉ foot p C → (M44.put bt (.cells (tgC (lkT e l)) true)).get c = M.get c := fun c hc h1 h2 => by
    rw [Mem.get_put, if_neg (by omega), s44.keep.old c (by omega) (by rw [hftP]; exact h2)]
    exact hold22 c hc h1 h2
  have hJ52 : J D a (M44.put bt (.cells (tgC (lkT e l)) true)) := hst D a M44 _ (hst D a M22 _ hJ22 hk22.wf fun c row hr hc => step_get s44 hk22.wf hr (fun hm => by
    rw [hftP] at hm
    rcases hc with rfl | hc
    · exact hqf hm
    · have := hlt _ hm; omega)) s44.wf fun c row hr hc => by
      rw [Mem.get_put, if_neg (by omega)]; exact hr
  have hbg52 : (M44.put bt (.cells (tgC (lkT e l)) true)).get bg = some (.cells (geoC C.g) true) := by rw [Mem.get_put, if_neg (by omega)]; exact hbg44
  have hbp52 : (M44.put bt (.cells (tgC (lkT e l)) true)).get bp = some (.cells [i64 (plB C.g i : Int), i64 (plK C.g i : Int)] true) := by rw [Mem.get_put, if_neg (by omega)]; exact hbp44
  have hw52 := kp.wf
  have hD52 : D ≤ (M44.put bt (.cells (tgC (lkT e l)) true)).next := hD44
  generalize M44.put bt (.cells (tgC (lkT e l)) true) = M52 at *
  clear kp hbt44 hbg44 hbp44
  refine condB_i (fun hz => ?_) (fun hz => ?_)
  · have hz : ¬ e = 0 := by simpa using hz
    rw [if_neg hz] at hS
    have hstop := ovN_stop (f := f) (C := C) (a := a0) (i := i + 1) (by rw [hS]; exact hz) (nP C.g - (i + 1))
    rw [show i + 1 + (nP C.g - (i + 1)) = nP C.g by omega] at hstop
    exact fin M52 C2 a e (by rw [hstop, hS]) hw52 hD52 hat52 hfsA2 hft2 hold52 hJ52
  have hz : e = 0 := by simpa using hz
  subst hz
  rw [if_pos rfl] at hS
  refine bindO_i (eLd_some (place_ld hbp52).2.2) ?_
  refine ⟨_, _, rfl, ?_⟩
  refine bindO_i (eLd_some (tg_ld hbt52)) ?_
  refine ⟨_, _, _, _, rfl, ?_⟩
  refine eCall_i hG ?_
  have hs2 : (0 : Int) ≤ lkS 0 l ∧ lkS 0 l ≤ 2 := by
    unfold lkS
    rw [if_pos rfl]
    unfold state
    split
    · split
      · decide
      · split <;> decide
    · decide
  refine (hcall D a M52 (plB C.g i) (plK C.g i) (lkT 0 l) (lkS 0 l) ⟨i, C', hi, heI⟩ hw52 (by omega) hD52 hJ52 hs2).mono ?_
  rintro y M62 ⟨hw62, hn62, hold62, hJ62⟩
  have get62 : ∀ c row, c < D → c ≠ q → M52.get c = some row → M62.get c = some row := fun c row h1 h2 h4 => by rw [hold62 c h1 h2]; exact h4
  have kq : Keep M52 M62 (q :: []) → True := fun _ => trivial
  have hat62 : ChipAt M62 p C2 := by
    have hfl := hat52.lt hw52
    have gf : ∀ c row, c ∈ foot p C2 → M52.get c = some row → M62.get c = some row := fun c row hm hr => by
      rw [hft2] at hm
      have := hlt _ hm
      exact get62 c row (by omega) (fun e => hqf (by rw [← e]; exact hm)) hr
    refine ⟨gf _ _ (by simp [foot]) hat52.main, gf _ _ (by simp [foot]) hat52.tab, fun B hB => gf _ _ ?_ (hat52.dat B hB), ?_, hat52.nd, hat52.fsx, hat52.one, hat52.fsl, hat52.may, hat52.len, hat52.ful, hat52.cby0⟩
    · simp only [foot, List.mem_cons, List.mem_map]
      exact .inr (.inr ⟨B, hB, rfl⟩)
    · refine SlAt.mono hat52.flt fun c row hc hr => ?_
      rw [hfsA2] at hc
      have := hslt c hc
      exact get62 c row (by omega) (fun e => hqs (by rw [← e]; exact hc)) hr
  refine nxt M62 C2 _ hS hw62 (by omega) hat62 (by rw [g1, hgP]) (by rw [g2, hfsP]) hfsA2 hft2 (fun c hc h1 h2 => by rw [hold62 c (by omega) h1]; exact hold52 c hc h1 h2) (get62 _ _ (by omega) (by omega) hbg52) (get62 _ _ (by omega) (by omega) hbp52) ⟨_, get62 _ _ (by omega) (by omega) hbt52, rfl⟩ hJ62

end Go.Proofs.Ytjffimbigamadaa

/- Scan, Count: leaf's. -/
namespace Go.Proofs.Ytjffimbigamadaa
open Go.AM

structure Fd where
  b : Int
  k : Int
  t : Tg
def fdC (f : Fd) : List AV := [i64 f.b, i64 f.k, i64 f.t.k, i64 f.t.p, i64 f.t.s, i64 f.t.e]
theorem fdC_len (f : Fd) : (fdC f).length = 6 := rfl
theorem fdC_one (f : Fd) : ∀ v ∈ fdC f, v.one = true := by
  intro v hv
  simp only [fdC, List.mem_cons, List.not_mem_nil, or_false] at hv
  rcases hv with rfl | rfl | rfl | rfl | rfl | rfl <;> rfl
theorem ty70 : tb.ty.get 70 = some ⟨.sli 78, 1, 24, [.slice none 0 0], none⟩ := by kernel_rfl
theorem ty78 : tb.ty.get 78 = some ⟨.st [(0, 2, true), (2, 4, true)], 6, 48, [.int .i64 0, .int .i64 0, .int .i64 0, .int .i64 0, .int .i64 0, .int .i64 0], some [30, 76]⟩ := by kernel_rfl
/-- Founds: none yet, or what append alone has made. -/
def GrF (M : Mem) (x : AV) (l : List Fd) : Prop := (x = .val (.slice none 0 0) ∧ l = []) ∨ ∃ b, Grown 6 M x l.length (l.flatMap fdC) b
def FdsAt (M : Mem) (x : AV) (l : List Fd) : Prop := SlAt 6 M x l.length (l.flatMap fdC)
theorem GrF.at {M : Mem} {x : AV} {l : List Fd} (h : GrF M x l) : FdsAt M x l := by
  rcases h with ⟨rfl, rfl⟩ | ⟨b, h⟩
  · exact SlAt.nil
  · exact h.at
theorem GrF.mono {M N : Mem} {x : AV} {l : List Fd} (h : GrF M x l) (hk : ∀ c r, inBlk x c → M.get c = some r → N.get c = some r) : GrF N x l := by
  rcases h with h | ⟨b, h1, h2, h3, h4⟩
  · exact .inl h
  · exact .inr ⟨b, h1, h2, h3, hk b _ (by rw [h1]; exact ⟨by omega, rfl⟩) h4⟩
theorem GrF.one {M : Mem} {x : AV} {l : List Fd} (h : GrF M x l) : x.one = true := by
  rcases h with ⟨rfl, rfl⟩ | ⟨b, h1, _⟩
  · rfl
  · rw [h1]; rfl

theorem GrF.grow {M : Mem} {x : AV} {l : List Fd} (hw : M.WF) (h : GrF M x l) (f : Fd) (hb : l.length ≤ 10000) :
    ∃ x' N, evAppend tb 70 70 x (.sl M.next 0 1 1 none) (M.new (.cells (fdC f) true)) = some (x', N) ∧ GrF N x' (l ++ [f]) ∧ GrowTo M N x x' ∧ ∀ c, inBlk x' c → M.next ≤ c := by
  have hw1 := hw.new (.cells (fdC f) true)
  have hs : SlAt 6 (M.new (.cells (fdC f) true)) (.sl M.next 0 1 1 none) 1 (fdC f) := ⟨rfl, .inr ⟨_, _, _, _, rfl, ⟨Nat.le_refl _, .inl rfl⟩, .inr ⟨_, _, get_new _ _, by rw [fdC_len]; exact Nat.le_refl _, by rw [List.drop_zero, List.take_of_length_le (by rw [fdC_len]; exact Nat.le_refl _)]⟩⟩⟩
  have ef : [f].flatMap fdC = fdC f := by simp
  rcases h with ⟨rfl, rfl⟩ | ⟨b, hg⟩
  · obtain ⟨N, h1, rfl⟩ := append_nil (T := tb) (k := 6) ty70 rfl ty78 rfl hs (by omega) ⟨by simp only; omega, by omega⟩
    refine ⟨_, _, h1, .inr ⟨M.next + 1, rfl, by simp, by simp [fdC_len], ?_⟩, ⟨hw1.new _, by show M.next ≤ M.next + 1 + 1; omega, fun c hc _ => ?_, fun c hc => .inl (by rw [← hc.2]; exact Nat.le_succ _)⟩, fun c hc => by rw [← hc.2]; exact Nat.le_succ _⟩
    · rw [List.nil_append, ef, Mem.get_new, if_pos (by rfl)]
    · rw [Mem.get_new, if_neg (by show c ≠ M.next + 1; omega), Mem.get_new, if_neg (by omega)]
  · have hbM := hw _ _ hg.2.2.2
    have hg1 : Grown 6 (M.new (.cells (fdC f) true)) x l.length (l.flatMap fdC) b := ⟨hg.1, hg.2.1, hg.2.2.1, by rw [Mem.get_new, if_neg (by omega)]; exact hg.2.2.2⟩
    obtain ⟨N, h1, rfl⟩ := append_grown (T := tb) (k := 6) ty70 rfl ty78 rfl hg1 hs (by omega) (fdC_one f) ⟨by simp only; omega, by omega⟩
    refine ⟨_, _, h1, .inr ⟨M.next + 1, by simp, by simp, ?_, ?_⟩, ⟨(hw1.kill _).new _, by show M.next ≤ M.next + 1 + 1; omega, fun c hc hn => ?_, fun c hc => .inl (by rw [← hc.2]; exact Nat.le_succ _)⟩, fun c hc => by rw [← hc.2]; exact Nat.le_succ _⟩
    · rw [flat_length fdC_len]
    · rw [Mem.get_new, if_pos (by rfl), List.flatMap_append, ef]
    · have hcb : c ≠ b := fun he => hn (by rw [he, hg.1]; exact ⟨by have := hg.2.1; omega, rfl⟩)
      rw [Mem.get_new, if_neg (by show c ≠ M.next + 1; omega), Mem.get_kill, if_neg hcb, Mem.get_new, if_neg (by omega)]

def fScan (a : List Fd) (b k : Nat) (t : Tg) (s : Int) : List Fd := if s = 1 then a ++ [⟨b, k, t⟩] else a
def JScan (q D : Nat) (a : List Fd) (N : Mem) : Prop := ∃ x, N.get q = some (.cells [x] true) ∧ GrF N x a ∧ ∀ c, inBlk x c → D ≤ c
theorem scan_len (C : Chip) : ∀ i, (ovN fScan C [] i).2.1.length ≤ i
  | 0 => Nat.le_refl _
  | i + 1 => by
    have ih := scan_len C i
    show (ovS fScan (ovN fScan C [] i) i).2.1.length ≤ _
    unfold ovS
    split
    · omega
    · split
      · omega
      · split
        · simp only [fScan]
          split
          · rw [List.length_append]; simp; omega
          · omega
        · show (ovN fScan C [] i).2.1.length ≤ _
          omega

theorem each_scan (q D : Nat) (a : List Fd) (N : Mem) (b k : Nat) (t : Tg) (s : Int) (hw : N.WF) (hq : q < D) (hD : D ≤ N.next) (hJ : JScan q D a N) (ha : a.length ≤ 1000) :
    CallA tb.P 93 [placeA b k, tgA t, i64 s, .ptr q 0] N fun y N' => N'.WF ∧ N.next ≤ N'.next ∧ (∀ c, c < D → c ≠ q → N'.get c = N.get c) ∧ JScan q D (fScan a b k t s) N' := by
  refine F93_ok ?_
  unfold F93
  refine ⟨_, _, rfl, _, _, _, _, rfl, ?_⟩
  simp only [i64, zI_int]
  refine letP_i fun M8 hM8 => ?_
  have hM8' : M8 = N.new (.cells [i64 (b : Int), i64 (k : Int)] true) := hM8
  have hk8 : Keep N M8 [] := by rw [hM8']; exact Keep.new hw _
  have hp8 : M8.get N.next = some (.cells [i64 (b : Int), i64 (k : Int)] true) := by rw [hM8']; exact get_new _ _
  clear hM8 hM8'
  refine letP_i fun M9 hM9 => ?_
  have hM9' : M9 = M8.new (.cells (tgC t) true) := hM9
  have hk9 : Keep M8 M9 [] := by rw [hM9']; exact Keep.new hk8.wf _
  have ht9 : M9.get M8.next = some (.cells (tgC t) true) := by rw [hM9']; exact get_new _ _
  clear hM9 hM9'
  have hK := hk8.trans0 hk9
  have hp9 := hk9.get hk8.wf hp8 (by simp)
  obtain ⟨x, hx, hg, hf⟩ := hJ
  have hqN := hw _ _ hx
  have hx9 := hK.get hw hx (by simp)
  have hg9 : GrF M9 x a := hg.mono fun c r _ hr => hK.get hw hr (by simp)
  refine condB_i (fun hs => ?_) (fun hs => ?_)
  · have hs : s = 1 := by simpa using hs
    have ldx : eLd tb 70 (.ptr q 0) M9 = some (x, M9) := eLd_some (ld_cell ty70 rfl hx9 rfl)
    refine bindO_i ldx ?_
    refine bindO_i (eLd_some (place_ld hp9).2.2) ?_
    refine ⟨_, _, rfl, ?_⟩
    refine bindO_i (eLd_some (tg_ld ht9)) ?_
    refine ⟨_, _, _, _, rfl, ?_⟩
    refine letP_i fun M19 hM19 => ?_
    subst hM19
    obtain ⟨x', N2, h1, h2, h3, h4⟩ := GrF.grow hK.wf hg9 ⟨b, k, t⟩ (by omega)
    refine bindO_i h1 ?_
    have hq2 : N2.get q = some (.cells [x] true) := by
      rw [h3.old q (Nat.lt_of_lt_of_le hqN hK.nxt) (fun hm => by have := hf q hm; omega)]; exact hx9
    have hst : eSt tb 70 (.ptr q 0) x' N2 = some (undefA, N2.put q (.cells [x'] true)) := eSt_some (st_cell ty70 rfl h2.one hq2 (by simp))
    refine bindO_i hst ?_
    have hqN2 : q < N2.next := h3.wf _ _ hq2
    refine ⟨h3.wf.put hqN2 _, Nat.le_trans hK.nxt h3.nxt, fun c hc hne => ?_, x', by rw [Mem.get_put, if_pos rfl], ?_, fun c hc => Nat.le_trans hD (Nat.le_trans hK.nxt (h4 c hc))⟩
    · rw [Mem.get_put, if_neg hne, h3.old c (by have := hK.nxt; omega) (fun hm => by have := hf c hm; omega)]
      exact hK.old c (by omega) (by simp)
    · unfold fScan
      rw [if_pos hs]
      exact h2.mono fun c r hc hr => by
        have := h4 c hc
        have := hK.nxt
        rw [Mem.get_put, if_neg (by omega)]; exact hr
  · have hs : ¬ s = 1 := by simpa using hs
    refine ⟨hK.wf, hK.nxt, fun c hc _ => hK.old c (by omega) (by simp), x, hx9, ?_, hf⟩
    unfold fScan
    rw [if_neg hs]
    exact hg9

/-- A step of the chip, some block of one's own beside. -/
theorem stepx_of {M M1 N : Mem} {p q : Nat} {C C' : Chip} (hk : Keep M M1 []) (hq : M.next ≤ q) (s : StepX M1 N p C C' q) (hfs : C'.fs = C.fs) (hg : C'.g = C.g) : Step M N p C C' :=
  ⟨s.at', ⟨s.keep.wf, Nat.le_trans hk.nxt s.keep.nxt, fun c hc hn => by
    rw [s.keep.old c (Nat.lt_of_lt_of_le hc hk.nxt) (by simp only [List.mem_cons, not_or]; exact ⟨by omega, hn⟩)]
    exact hk.old c hc (by simp)⟩, s.foot, s.fsA, hfs, hg⟩

theorem fn93' : tb.fn.get 93 = some Try.f93 := fn93
theorem c_scan (M : Mem) (hw : M.WF) (p : Nat) (C : Chip) (h : ChipAt M p C) :
    CallA tb.P 40 [.ptr p 0] M fun y N => ∃ x, y = .tup [x, i64 (ovN fScan C [] (nP C.g)).2.2] ∧ GrF N x (if (ovN fScan C [] (nP C.g)).2.2 = 0 then (ovN fScan C [] (nP C.g)).2.1 else []) ∧ (∀ c, inBlk x c → M.next ≤ c) ∧ Step M N p C (ovN fScan C [] (nP C.g)).1 := by
  refine F40_ok ?_
  unfold F40
  refine letP_i fun M1 hM1 => ?_
  have hk1 : Keep M M1 [] := by rw [hM1]; exact Keep.new hw _
  have hq1 : M1.get M.next = some (.cells [.val (.slice none 0 0)] true) := by rw [hM1]; exact get_new _ _
  clear hM1
  have hqn := hk1.wf _ _ hq1
  obtain ⟨_, hn2, _⟩ := nP_bnd h.may
  have h1 := h.keep hw hk1
  refine (c_over fScan (JScan M.next) 93 M.next fn93' M1 hk1.wf p C h1 hqn (fun hm => by have := h.lt hw _ hm; omega) (fun hm => by have := SlAt.blk_lt h.flt hw hm; omega) [] ?_ ?_ ?_).mono ?_
  · intro D N hk _ _
    exact ⟨_, hk.get hk1.wf hq1 (by simp), .inl ⟨rfl, rfl⟩, fun c hc => hc.elim⟩
  · rintro D a N N' ⟨x, hx, hg, hf⟩ _ hN
    exact ⟨x, hN _ _ hx (.inl rfl), hg.mono fun c r hc hr => hN c r hr (.inr (hf c hc)), hf⟩
  · rintro D a N b k t s ⟨i, C', hi, he⟩ hwN hMD hDN hJ hs
    have hl := scan_len C i
    rw [he] at hl
    exact each_scan M.next D a N b k t s hwN (by omega) hDN hJ (by simp only at hl; omega)
  · rintro y N ⟨rfl, sx, D, hMD, x, hx, hg, hf⟩
    obtain ⟨g1, g2, _⟩ := ovN_same fScan C [] (nP C.g)
    have s := stepx_of hk1 (Nat.le_refl _) sx g2 g1
    simp only [i64, zI_int]
    refine condB_i (fun hz => ?_) (fun hz => ?_)
    · have hz : ¬ (ovN fScan C [] (nP C.g)).2.2 = 0 := by simpa using hz
      rw [if_neg hz]
      exact ⟨.val (.slice none 0 0), rfl, .inl ⟨rfl, rfl⟩, fun c hc => hc.elim, s⟩
    · have hz : (ovN fScan C [] (nP C.g)).2.2 = 0 := by simpa using hz
      have ldx : eLd tb 70 (.ptr M.next 0) N = some (x, N) := eLd_some (ld_cell ty70 rfl hx rfl)
      refine bindO_i ldx ?_
      rw [if_pos hz]
      exact ⟨x, by rw [hz], hg, fun c hc => by have := hf c hc; omega, s⟩

end Go.Proofs.Ytjffimbigamadaa

/- Scan, Count: the document's; both alike. -/
namespace Go.Proofs.Ytjffimbigamadaa
open Go.AM

theorem DocAt.of_get {M N : Mem} {p : Nat} {S : DocS} (h : DocAt M p S) (hg : ∀ c row, (c ∈ own p S ∨ inBlk S.d.fsA c ∨ ∃ q ∈ S.pg, inBlk q.1 c) → M.get c = some row → N.get c = some row) : DocAt N p S :=
  ⟨hg _ _ (.inl (by simp [own])) h.main, SlAt.mono h.flt fun c r hc hr => hg c r (.inr (.inl hc)) hr, h.pgA, h.nxA, h.wrA, h.dnA, hg _ _ (.inl (by simp [own])) h.pgs, hg _ _ (.inl (by simp [own])) h.nxs, hg _ _ (.inl (by simp [own])) h.wrs, hg _ _ (.inl (by simp [own])) h.dns,
    fun q hq => ⟨SlAt.mono (h.byt q hq).1 fun c r hc hr => hg c r (.inr (.inr ⟨q, hq, hc⟩)) hr, (h.byt q hq).2⟩, h.nd, h.fsx, h.fsl, h.may, h.pgl, h.nxl, h.wrl, h.dnl, h.raw, h.cby0⟩

theorem pl_at {g : Geo} {b j : Nat} (hj : j < g.pg.toNat) : plB g (b * g.pg.toNat + j) = b ∧ plK g (b * g.pg.toNat + j) = j := by
  unfold plB plK
  constructor
  · rw [Nat.add_comm, Nat.add_mul_div_right _ _ (by omega), Nat.div_eq_of_lt hj, Nat.zero_add]
  · rw [Nat.add_comm, Nat.add_mul_mod_self_right, Nat.mod_eq_of_lt hj]

/-- The document's chip on the way of a look over it. -/
structure DInv (M : Mem) (r : Nat) (S : DocS) (P : Mem) (S' : DocS) : Prop where
  wf : P.WF
  nxt : M.next ≤ P.next
  at' : DocAt P r S'
  pg : S'.pg = S.pg
  ow : own r S' = own r S
  fsA : S'.d.fsA = S.d.fsA
  g : S'.d.g = S.d.g
  fs : S'.fs = S.fs
  old : ∀ c, c < M.next → c ∉ own r S → P.get c = M.get c

theorem DInv.step {M : Mem} {r : Nat} {S : DocS} {P N : Mem} {S' S'' : DocS} (h : DInv M r S P S') (s : DStep P N r S' S'') (hpg : S''.pg = S'.pg) (hg : S''.d.g = S'.d.g) (hfs : S''.fs = S'.fs) : DInv M r S N S'' :=
  ⟨s.keep.wf, Nat.le_trans h.nxt s.keep.nxt, s.at', hpg.trans h.pg, s.own.trans h.ow, s.fsA.trans h.fsA, hg.trans h.g, hfs.trans h.fs, fun c hc hn => by
    rw [s.keep.old c (Nat.lt_of_lt_of_le hc h.nxt) (by rw [h.ow]; exact hn)]; exact h.old c hc hn⟩
/-- What lies elsewhere is written. -/
theorem DInv.grow {M : Mem} {r : Nat} {S : DocS} {P N : Mem} {S' : DocS} (h : DInv M r S P S') (hM : DocAt M r S) (hw : M.WF) (hwN : N.WF) (hn : P.next ≤ N.next) (hold : ∀ c, c < M.next → N.get c = P.get c) : DInv M r S N S' := by
  refine ⟨hwN, Nat.le_trans h.nxt hn, h.at'.of_get fun c row hc hr => ?_, h.pg, h.ow, h.fsA, h.g, h.fs, fun c hc hne => by rw [hold c hc]; exact h.old c hc hne⟩
  have hlt : c < M.next := by
    rcases hc with hc | hc | ⟨q, hq, hc⟩
    · rw [h.ow] at hc; exact hM.lt hw c hc
    · rw [h.fsA] at hc; exact SlAt.blk_lt hM.flt hw hc
    · rw [h.pg] at hq; exact SlAt.blk_lt (hM.byt q hq).1 hw hc
  rw [hold c hlt]; exact hr
theorem DInv.keep {M : Mem} {r : Nat} {S : DocS} {P N : Mem} {S' : DocS} (h : DInv M r S P S') (hM : DocAt M r S) (hw : M.WF) (k : Keep P N []) : DInv M r S N S' :=
  h.grow hM hw k.wf k.nxt fun c hc => k.old c (Nat.lt_of_lt_of_le hc h.nxt) (by simp)
end Go.Proofs.Ytjffimbigamadaa
