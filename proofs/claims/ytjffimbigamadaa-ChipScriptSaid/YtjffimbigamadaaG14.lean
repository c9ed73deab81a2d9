import Derived.Test.YtjffimbigamadaaG13
import Derived.Test.YtjffimbigamadaaKA
set_option linter.unusedSimpArgs false
set_option linter.unusedVariables false
/- What the laws do with a chip without faults. -/
namespace Go.Proofs.Ytjffimbigamadaa
open Go.AM

section
variable {M : Mem} {p F G : Nat} {C : Chip} {g : Geo} {i : Nat} {l : List (BitVec 8)} {nx wr : Int}

theorem h_prog (h : Here M p F G C) (ok : Ok C g i l nx wr) {j : Nat} (hj : nx = (j : Int)) (hp : isG g i j = true) {x : AV} {d : List (BitVec 8)} (hx : BytesAt M x d) (hd : d.length = rawN g) (hr : rawN g ≤ 200) (hxf : ∀ c, inBlk x c → c < F ∨ G ≤ c) :
    CallA tb.P 19 [.ptr p 0, placeA i j, x] M fun y N => y = i64 0 ∧ ∃ C', Step M N p C C' ∧ Here N p F G C' ∧ Ok C' g i (over l (j * rawN g) d) (iAdd .i64 (j : Int) 1) wr := by
  refine (h_program h i j x d hx (by omega) hxf).mono ?_
  rintro y N ⟨rfl, s, hN⟩
  obtain ⟨h1, h2⟩ := ok.pg hj hp hd
  exact ⟨by rw [h1], _, s, hN, h2⟩

theorem h_progNo (h : Here M p F G C) (ok : Ok C g i l nx wr) {k : Int} (hk : nx ≠ k) {x : AV} {d : List (BitVec 8)} (hx : BytesAt M x d) (hd : d.length ≤ 200) (hxf : ∀ c, inBlk x c → c < F ∨ G ≤ c) :
    CallA tb.P 19 [.ptr p 0, placeA i k, x] M fun y N => (∃ z, y = i64 z ∧ z ≠ 0) ∧ ∃ C', Step M N p C C' ∧ Here N p F G C' ∧ Ok C' g i l nx wr := by
  refine (h_program h i k x d hx hd hxf).mono ?_
  rintro y N ⟨rfl, s, hN⟩
  obtain ⟨h1, h2⟩ := ok.pgNo hk d
  exact ⟨⟨_, rfl, h1⟩, _, s, hN, h2⟩

theorem h_read (h : Here M p F G C) (ok : Ok C g i l nx wr) {j : Nat} (hp : isG g i j = true) :
    CallA tb.P 21 [.ptr p 0, placeA i j] M fun y N => ∃ u, y = .tup [u, i64 0] ∧ BytesAt N u ((l.drop (j * rawN g)).take (rawN g)) ∧ (∀ c, inBlk u c → M.next ≤ c) ∧ ∃ C', Step M N p C C' ∧ Here N p F G C' ∧ Ok C' g i l nx wr := by
  refine (c_read M h.wf p C h.at' i j).mono ?_
  rintro y N ⟨u, rfl, hu, hfr, s⟩
  obtain ⟨h1, h2, h3⟩ := ok.rd hp
  rw [h2] at hu
  exact ⟨u, by rw [h1], hu.at, hfr, _, s, h.step s, h3⟩

theorem h_erase (h : Here M p F G C) (ok : Ok C g i l nx wr) (hp : isG g i 0 = true) :
    CallA tb.P 24 [.ptr p 0, i64 (i : Int)] M fun y N => y = i64 0 ∧ ∃ C', Step M N p C C' ∧ Here N p F G C' ∧ Ok C' g i (List.replicate l.length 255#8) 0 (iAdd .i64 wr 1) := by
  refine (c_erase M h.wf p C h.at' i).mono ?_
  rintro y N ⟨rfl, s⟩
  obtain ⟨h1, h2⟩ := ok.er hp
  exact ⟨by rw [h1], _, s, h.step s, h2⟩

theorem h_used (h : Here M p F G C) (ok : Ok C g i l nx wr) : CallA tb.P 23 [.ptr p 0, i64 (i : Int)] M fun y N => y = i64 nx ∧ Keep M N [] ∧ Here N p F G C := by
  refine (c_used M h.wf p C h.at' i).mono ?_
  rintro y N ⟨rfl, hk⟩
  exact ⟨by rw [ok.used.1], hk, h.keep hk⟩

theorem h_wear (h : Here M p F G C) (ok : Ok C g i l nx wr) : CallA tb.P 25 [.ptr p 0, i64 (i : Int)] M fun y N => y = i64 wr ∧ Keep M N [] ∧ Here N p F G C := by
  refine (c_wear M h.wf p C h.at' i).mono ?_
  rintro y N ⟨rfl, hk⟩
  exact ⟨by rw [ok.used.2], hk, h.keep hk⟩
end

theorem nil_nil24 {M : Mem} {xo yo : Operand} : eBin tb .eql 24 xo yo (.val (.pointer none)) (.val (.pointer none)) M = some (.val (.bool true), M) := eBin_some (by kernel_rfl)

theorem place_st {M : Mem} {b : Nat} {cs : List AV} (k p : Int) (hg : M.get b = some (.cells cs true)) (hl : cs.length = 2) : evStore tb 30 (.ptr b 0) (placeA k p) M = some (M.put b (.cells [i64 k, i64 p] true)) :=
  st_all ty30 rfl hg hl (by intro v hv; simp only [List.mem_cons, List.not_mem_nil, or_false] at hv; rcases hv with rfl | rfl <;> rfl)

/-- A box with a place. -/
theorem box_place {M : Mem} (k p : Int) {K : AV × Mem → Prop} (h : ∀ N, N = M.new (.cells [i64 k, i64 p] true) → K (undefA, N)) :
    letP (M.new (.cells [(.val (.int .i64 0)), (.val (.int .i64 0))] true)) fun M' => bindO (eSt tb 30 (.ptr M.next 0) (placeA k p) M') K := by
  unfold letP
  refine bindO_i (eSt_some (place_st k p (get_new M _) rfl)) ?_
  rw [Mem.new_put]
  exact h _ rfl

theorem add_u8 (v : BitVec 8) (k : Nat) : iAdd .u8 (v.toNat : Int) (IntKind.wrap .u8 (k : Int)) = ((v + BitVec.ofNat 8 k).toNat : Int) := by
  rw [iAdd, wrap_u8, wrap_u8, BitVec.toNat_add, BitVec.toNat_ofNat]
  omega

/-- A block's bytes behind so many programs. -/
def pagesL (g : Geo) (v : Nat → BitVec 8) : Nat → List (BitVec 8)
  | 0 => List.replicate (g.pg.toNat * rawN g) 255#8
  | k + 1 => over (pagesL g v k) (k * rawN g) (pat (v k) (rawN g))

theorem pagesL_len (g : Geo) (v : Nat → BitVec 8) : ∀ k, k ≤ g.pg.toNat → (pagesL g v k).length = g.pg.toNat * rawN g
  | 0, _ => by simp [pagesL]
  | k + 1, h => over_len (pagesL_len g v k (by omega)) (pat_length _ _) (by omega)

theorem pagesL_page (g : Geo) (v : Nat → BitVec 8) : ∀ k, k ≤ g.pg.toNat → ∀ q, q < g.pg.toNat → ((pagesL g v k).drop (q * rawN g)).take (rawN g) = if q < k then pat (v q) (rawN g) else List.replicate (rawN g) 255#8
  | 0, _, q, hq => by rw [if_neg (by omega)]; exact rep_page hq
  | k + 1, h, q, hq => by
    unfold pagesL
    rw [over_page (pagesL_len g v k (by omega)) (pat_length _ _) (by omega) hq, pagesL_page g v k (by omega) q hq]
    by_cases e : q = k
    · subst e; rw [if_pos rfl, if_pos (by omega)]
    · rw [if_neg e]
      by_cases e2 : q < k
      · rw [if_pos e2, if_pos (by omega)]
      · rw [if_neg e2, if_neg (by omega)]

/-- What a geometry that may be is, in numbers. -/
theorem geo_nums {g : Geo} (h : mayG g = true) : g.bl = ((g.bl.toNat : Nat) : Int) ∧ g.pg = ((g.pg.toNat : Nat) : Int) ∧ 8 ≤ g.bl.toNat ∧ g.bl.toNat ≤ 20 ∧ 4 ≤ g.pg.toNat ∧ g.pg.toNat ≤ 8 ∧ 40 ≤ rawN g ∧ rawN g ≤ 80 ∧ iAdd .i64 g.by' 16 = (rawN g : Int) := by
  have hm := mayG_iff.1 h
  refine ⟨by omega, by omega, by omega, by omega, by omega, by omega, by unfold rawN; omega, by unfold rawN; omega, ?_⟩
  rw [iAdd, wrap_i64' (by omega) (by omega)]
  unfold rawN; omega

theorem isG_nat {g : Geo} {i j : Nat} (hi : i < g.bl.toNat) (hj : j < g.pg.toNat) : isG g i j = true := isG_iff.2 ⟨⟨by omega, by omega⟩, by omega, by omega⟩

/-- A new chip: any of its blocks. -/
theorem new_ok {g : Geo} {fsA : AV} {bb : Nat} {bs : List Blk} (hb : blank g bs) {i : Nat} (hi : i < bs.length) : Ok (newChip g fsA [] bb bs) g i (List.replicate (g.pg.toNat * rawN g) 255#8) 0 0 := by
  have e := hb _ (List.getElem_mem hi)
  refine ⟨rfl, rfl, rfl, rfl, bs[i], List.getElem?_eq_getElem hi, ?_, ?_, ?_⟩ <;> rw [e] <;> rfl

end Go.Proofs.Ytjffimbigamadaa
