import Derived.Test.YtjffimbigamadaaG12
import Derived.Test.YtjffimbigamadaaG17
import Derived.Test.YtjffimbigamadaaR9
set_option linter.unusedSimpArgs false
set_option linter.unusedVariables false
set_option linter.unusedSectionVars false
/- The document's chip: New. -/
namespace Go.Proofs.Ytjffimbigamadaa
open Go.AM

/-- A slice put aside and filled with noughts. -/
theorem make_fl {n id : Nat} (hn : n ≤ 1000) : evMakeFl tb 60 (i64 (n : Int)) (i64 (n : Int)) id = some (.sl id 0 n n none, .cells (intsI (List.replicate n 0)) true) := by
  unfold evMakeFl i64
  rw [ty60]
  have h1 : decide (0 ≤ (n : Int)) = true := by simp
  have h2 : decide ((n : Int) ≤ (n : Int)) = true := by simp
  have h3 : decide (((8 : Nat) : Int) * (n : Int) ≤ 281474976710656) = true := by
    rw [decide_eq_true_eq]; omega
  have h4 : decide ((n : Int) < 4611686018427387904) = true := by
    rw [decide_eq_true_eq]; omega
  simp only [ty3, h1, h2, h4, cond_true, Int.toNat_natCast]
  rw [h3, cond_true]
  have e : repA n (ofVs [.int .i64 0]) = intsI (List.replicate n 0) := by
    have := repA_one' (AV.val (.int .i64 0)) n
    simp only [intsI, List.map_replicate, i64]
    exact this
  rw [e]

def newD (g : Geo) (fsA : AV) (nb : Nat) (x : AV) : Doc := ⟨g, fsA, x, .sl nb 0 g.bl.toNat g.bl.toNat none, .sl (nb + 1) 0 g.bl.toNat g.bl.toNat none, .sl (nb + 2) 0 g.bl.toNat g.bl.toNat none, 0, 0, false, 0, 0, 0, 0#8⟩
def pgsA (R : Nat) (bl : List Nat) : List AV := bl.map fun b => .sl b 0 R R none
theorem pgsA_length (R : Nat) (bl : List Nat) : (pgsA R bl).length = bl.length := by simp [pgsA]
/-- A document's chip on the way: so many pages. -/
structure BldD (M1 M : Mem) (p : Nat) (D : AV → Doc) (R : Nat) (bl : List Nat) (x : AV) : Prop where
  wf : M.WF
  nxt : M1.next ≤ M.next
  old : ∀ c, c < M1.next → c ≠ p → M.get c = M1.get c
  main : M.get p = some (.cells (docC (D x)) true)
  sl : (x = .val (.slice none 0 0) ∧ bl = []) ∨ ∃ bb, Grown 1 M x bl.length (pgsA R bl) bb ∧ M1.next ≤ bb ∧ ∀ b ∈ bl, b ≠ bb
  dat : ∀ b ∈ bl, M.get b = some (.cells (bvs (List.replicate R 255#8)) true) ∧ M1.next ≤ b

theorem BldD.keep {M1 M N : Mem} {p : Nat} {D : AV → Doc} {R : Nat} {x : AV} {bl : List Nat} (h : BldD M1 M p D R bl x) (hk : Keep M N []) : BldD M1 N p D R bl x :=
  ⟨hk.wf, Nat.le_trans h.nxt hk.nxt, fun c hc hp => by rw [hk.old c (Nat.lt_of_lt_of_le hc h.nxt) (by simp)]; exact h.old c hc hp, hk.get h.wf h.main (by simp),
    h.sl.imp id fun ⟨bb, ⟨g1, g2, g3, g4⟩, h2⟩ => ⟨bb, ⟨g1, g2, g3, hk.get h.wf g4 (by simp)⟩, h2⟩, fun B hB => ⟨hk.get h.wf (h.dat B hB).1 (by simp), (h.dat B hB).2⟩⟩

/-- What New makes. -/
structure NewDoc (g : Geo) (fs : List Flt) (S : DocS) : Prop where
  geo : S.d.g = g
  fs : S.fs = fs
  ops : S.d.ops = 0
  cuts : S.d.cuts = 0
  off : S.d.off = false
  wait : S.d.wait = 0
  nx : S.nx = List.replicate g.bl.toNat 0
  wr : S.wr = List.replicate g.bl.toNat 0
  dn : S.dn = List.replicate g.bl.toNat 0
  pg : ∀ q ∈ S.pg, q.2 = List.replicate (rawN g) 255#8

theorem bump_put4 {M N : Mem} (hw : M.WF) (hk : Keep ⟨M.next + 4, M.rows⟩ N []) (r0 r1 r2 r3 : Row) : Keep M ((((N.put M.next r0).put (M.next + 1) r1).put (M.next + 2) r2).put (M.next + 3) r3) [] := by
  have hn : M.next + 4 ≤ N.next := hk.nxt
  refine ⟨(((hk.wf.put (by omega) _).put (by show _ < N.next; omega) _).put (by show _ < N.next; omega) _).put (by show _ < N.next; omega) _, by show M.next ≤ N.next; omega, fun c hc _ => ?_⟩
  rw [Mem.get_put, if_neg (by omega), Mem.get_put, if_neg (by omega), Mem.get_put, if_neg (by omega), Mem.get_put, if_neg (by omega)]
  exact hk.old c (by show c < M.next + 4; omega) (by simp)

theorem bump_keep4 {M : Mem} (h : M.WF) : Keep M ⟨M.next + 4, M.rows⟩ [] := ⟨fun b r hb => by have := h b r hb; show b < M.next + 4; omega, by show M.next ≤ M.next + 4; omega, fun _ _ _ => rfl⟩

theorem fl_one {M : Mem} {n b : Nat} (id : Nat) : eFlBS tb 59 1 [(0, .sl b 0 n n none)] id = some (.sl id 0 1 1 none, .cells [.sl b 0 n n none] true) := by
  unfold eFlBS
  rw [ty59]
  simp only [ty33]
  rfl

theorem d_new (M : Mem) (hw : M.WF) (g : Geo) (x : AV) (fs : List Flt) (hx : FltsAt M x fs) (hfl : fs.length ≤ 9223372036854775807) :
    CallA tb.P 33 [geoA g, x] M fun y N => Keep M N [] ∧ ((mayP g fs = false ∧ y = .val (.pointer none)) ∨
      (mayP g fs = true ∧ ∃ (p : Nat) (S : DocS), y = .ptr p 0 ∧ DocAt N p S ∧ NewDoc g fs S ∧ (∀ c ∈ own p S, M.next ≤ c) ∧ (∀ c, inBlk S.d.fsA c → M.next ≤ c) ∧ ∀ q ∈ S.pg, ∀ c, inBlk q.1 c → M.next ≤ c)) := by
  refine F33_ok ?_
  unfold F33
  refine ⟨_, _, _, _, _, rfl, ?_⟩
  refine letP_i fun M6 hM6 => ?_
  have hM6' : M6 = M.new (.cells (geoC g) true) := hM6
  have hK6 : Keep M M6 [] := by rw [hM6']; exact Keep.new hw _
  have hg6 : M6.get M.next = some (.cells (geoC g) true) := by rw [hM6']; exact get_new _ _
  clear hM6 hM6'
  obtain ⟨_, _, _, _, _, l5⟩ := geo_ld hg6
  refine bindO_i (eLd_some l5) ?_
  refine ⟨_, _, _, _, _, rfl, ?_⟩
  refine (r_mayP M6 hK6.wf g x fs (SlAt.keep0 hx hw hK6) hfl).mono ?_
  rintro y M14 ⟨rfl, hk14⟩
  have hK14 := hK6.trans0 hk14
  simp only [zB_bool]
  refine condB_i (fun q => ?_) (fun q => ?_)
  · exact ⟨hK14, .inl ⟨by simpa using q, by trivial⟩⟩
  have q : mayP g fs = true := by simpa using q
  have hmg : mayG g = true := by unfold mayP at q; rw [Bool.and_eq_true, Bool.and_eq_true] at q; exact q.1.1
  have hfs8 : fs.length ≤ 8 := by unfold mayP at q; rw [Bool.and_eq_true, Bool.and_eq_true, decide_eq_true_eq] at q; exact q.1.2
  have hm := mayG_iff.1 hmg
  have hg14 := hk14.get hK6.wf hg6 (by simp)
  have hgn : M.next < M14.next := hk14.wf _ _ hg14
  refine letP_i fun M16 hM16 => ?_
  have hb := bump_keep4 hk14.wf
  rw [← hM16] at hb
  have hg16 := hb.get hk14.wf hg14 (by simp)
  have hx16 : FltsAt M16 x fs := SlAt.keep0 hx hw (hK14.trans0 hb)
  obtain ⟨a0, _, _, _, _, l5⟩ := geo_ld hg16
  have a0' : eLd tb 3 (.ptr M.next 0) M16 = some (i64 g.bl, M16) := eLd_some a0
  simp only [i64] at a0'
  refine bindO_i (eLd_some l5) ?_
  refine ⟨_, _, _, _, _, rfl, ?_⟩
  simp only [a0', bindO_some, zI_int]
  -- the faults
  obtain ⟨fsA, M29, hap, hfA, hk29, hff, hshape⟩ : ∃ fsA M29, evAppend tb 54 54 (.val (.slice none 0 0)) x M16 = some (fsA, M29) ∧ FltsAt M29 fsA fs ∧ Keep M16 M29 [] ∧ (∀ c, inBlk fsA c → M16.next ≤ c) ∧ (fsA = .val (.slice none 0 0) ∨ ∃ b n, fsA = .sl b 0 n n (some 3)) := by
    by_cases h0 : fs.length = 0
    · have hnil : fs = [] := List.eq_nil_of_length_eq_zero h0
      subst hnil
      exact ⟨_, _, append_zero (T := tb) (k := 3) ty54 rfl ty53 rfl (SlAt.nil) hx16, SlAt.nil, Keep.refl hb.wf, fun c hc => hc.elim, .inl rfl⟩
    · obtain ⟨N, h1, rfl⟩ := append_nil (T := tb) (k := 3) ty54 rfl ty53 rfl hx16 (by omega) ⟨by simp only; omega, by omega⟩
      refine ⟨_, _, h1, ⟨by rw [flat_length fltC_len], .inr ⟨_, _, _, _, rfl, ⟨Nat.le_refl _, .inr rfl⟩, .inr ⟨_, _, get_new _ _, by rw [flat_length fltC_len]; omega, by rw [List.drop_zero, List.take_of_length_le (by rw [flat_length fltC_len]; omega)]⟩⟩⟩, Keep.new hb.wf _, fun c hc => by rw [← hc.2]; exact Nat.le_refl _, .inr ⟨_, _, rfl⟩⟩
  refine bindO_i hap ?_
  have hg29 := hk29.get hb.wf hg16 (by simp)
  obtain ⟨b0, _, _, _, _, m5⟩ := geo_ld hg29
  have b0' : eLd tb 3 (.ptr M.next 0) M29 = some (i64 g.bl, M29) := eLd_some b0
  refine ⟨bindO_i (eLd_some m5) rfl, bindO_i b0' rfl, bindO_i b0' rfl, bindO_i b0' rfl, ?_⟩
  have hbl : g.bl = ((g.bl.toNat : Nat) : Int) := by omega
  have hmk : ∀ id, evMakeFl tb 60 (.val (.int .i64 g.bl)) (.val (.int .i64 g.bl)) id = some (.sl id 0 g.bl.toNat g.bl.toNat none, .cells (intsI (List.replicate g.bl.toNat 0)) true) := fun id => by
    have := make_fl (n := g.bl.toNat) (id := id) (by omega)
    rw [← hbl] at this
    exact this
  simp only [hmk, bindO_some]
  have hfone : fsA.one = true := by
    rcases hshape with rfl | ⟨_, _, rfl⟩ <;> rfl
  have hbd : evBuild tb 62 [(0, geoA g), (1, fsA), (3, .sl M14.next 0 g.bl.toNat g.bl.toNat none), (4, .sl (M14.next + 1) 0 g.bl.toNat g.bl.toNat none), (5, .sl (M14.next + 2) 0 g.bl.toNat g.bl.toNat none)] = some (.agg (docC (newD g fsA M14.next (.val (.slice none 0 0))))) := by
    unfold evBuild
    rw [ty62]
    rcases hshape with rfl | ⟨_, _, rfl⟩ <;> rfl
  refine bindO_i (eBd_some hbd) ?_
  refine ⟨_, _, _, _, _, _, _, _, _, _, _, _, _, _, _, _, _, rfl, ?_⟩
  refine letP_i fun M55 hM55 => ?_
  have hM55' : M55 = (((M29.put M14.next (.cells (intsI (List.replicate g.bl.toNat 0)) true)).put (M14.next + 1) (.cells (intsI (List.replicate g.bl.toNat 0)) true)).put (M14.next + 2) (.cells (intsI (List.replicate g.bl.toNat 0)) true)).put (M14.next + 3) (.cells (docC (newD g fsA M14.next (.val (.slice none 0 0)))) true) := hM55
  clear hM55
  have hpk : Keep M14 M55 [] := by rw [hM55']; exact bump_put4 hk14.wf (by rw [← hM16]; exact hk29) _ _ _ _
  have hn29 : M14.next + 4 ≤ M29.next := by have := hk29.nxt; rw [hM16] at this; exact this
  have hn55 : M29.next = M55.next := by rw [hM55']; rfl
  have hp55 : M55.get (M14.next + 3) = some (.cells (docC (newD g fsA M14.next (.val (.slice none 0 0)))) true) := by rw [hM55', Mem.get_put, if_pos rfl]
  have hd55 : M55.get (M14.next + 2) = some (.cells (intsI (List.replicate g.bl.toNat 0)) true) := by rw [hM55', Mem.get_put, if_neg (by omega), Mem.get_put, if_pos rfl]
  have hw55 : M55.get (M14.next + 1) = some (.cells (intsI (List.replicate g.bl.toNat 0)) true) := by rw [hM55', Mem.get_put, if_neg (by omega), Mem.get_put, if_neg (by omega), Mem.get_put, if_pos rfl]
  have hx55 : M55.get M14.next = some (.cells (intsI (List.replicate g.bl.toNat 0)) true) := by rw [hM55', Mem.get_put, if_neg (by omega), Mem.get_put, if_neg (by omega), Mem.get_put, if_neg (by omega), Mem.get_put, if_pos rfl]
  have hff4 : ∀ c, inBlk fsA c → M14.next + 4 ≤ c := fun c hc => by have := hff c hc; rw [hM16] at this; exact this
  have hfA55 : FltsAt M55 fsA fs := SlAt.mono hfA fun c r hc hr => by
    have := hff4 c hc
    rw [hM55', Mem.get_put, if_neg (by omega), Mem.get_put, if_neg (by omega), Mem.get_put, if_neg (by omega), Mem.get_put, if_neg (by omega)]; exact hr
  have hflt55 : ∀ c, inBlk fsA c → c < M55.next := fun c hc => SlAt.blk_lt hfA55 hpk.wf hc
  have hg55 := hpk.get hk14.wf hg14 (by simp)
  have hK55 := hK14.trans0 hpk
  clear hM55'
  have hnb : M14.next + 4 ≤ M55.next := by omega
  generalize hq : M14.next = nb at *
  obtain ⟨n, hn⟩ : ∃ n, n = g.bl.toNat * g.pg.toNat := ⟨_, rfl⟩
  have hn2 : 1 ≤ n ∧ n ≤ 160 := by
    have h1 : g.bl.toNat * g.pg.toNat ≤ 20 * 8 := Nat.mul_le_mul (by omega) (by omega)
    have h2 : 8 * 4 ≤ g.bl.toNat * g.pg.toNat := Nat.mul_le_mul (by omega) (by omega)
    omega
  have hmul : iMul .i64 g.bl g.pg = (n : Int) := by
    have h3 : ((g.bl.toNat * g.pg.toNat : Nat) : Int) = g.bl * g.pg := by rw [Int.natCast_mul, ← hbl, show ((g.pg.toNat : Nat) : Int) = g.pg by omega]
    rw [iMul, ← h3, ← hn, wrap_i64' (by omega) (by omega)]
  have hr : 40 ≤ rawN g ∧ rawN g ≤ 80 := by unfold rawN; omega
  refine ⟨fun z m P => ∃ (bl : List Nat) (x : AV), z = bl.length ∧ m = n - bl.length ∧ bl.length ≤ n ∧ BldD M55 P (nb + 3) (newD g fsA nb) (rawN g) bl x,
    ⟨n, [], _, rfl, rfl, Nat.zero_le _, ⟨hpk.wf, Nat.le_refl _, fun _ _ _ => rfl, hp55, .inl ⟨rfl, rfl⟩, fun B hB => by simp at hB⟩⟩, ?_⟩
  rintro _ z m P ⟨bl, xs, rfl, rfl, hbn, hB⟩
  have hgP : P.get M.next = some (.cells (geoC g) true) := by rw [hB.old _ (by omega) (by omega)]; exact hg55
  obtain ⟨c0, c1, _, _, _, c5⟩ := geo_ld hgP
  have c0' : eLd tb 3 (.ptr M.next 0) P = some (i64 g.bl, P) := eLd_some c0
  have c1' : eLd tb 3 (.ptr M.next 1) P = some (i64 g.pg, P) := eLd_some c1
  simp only [i64] at c0' c1'
  simp only [c0', c1', bindO_some, zI_int, hmul]
  refine condB_i (fun hlt => ?_) (fun hge => ?_)
  rotate_left
  · -- all pages stand
    have hge : bl.length = n := by have : ¬ (bl.length : Int) < n := by simpa using hge
                                   omega
    rcases hB.sl with ⟨h1, h2⟩ | ⟨bb, hgr, hbb, hne⟩
    · subst h2; simp at hge; omega
    have hKP : Keep M P [] := ⟨hB.wf, Nat.le_trans hK55.nxt hB.nxt, fun c hc _ => by
      rw [hB.old c (by have := hK55.nxt; omega) (by omega)]
      exact hK55.old c hc (by simp)⟩
    refine ⟨hKP, .inr ⟨q, nb + 3, ⟨newD g fsA nb xs, fs, bl.map (fun b => (.sl b 0 (rawN g) (rawN g) none, List.replicate (rawN g) 255#8)), List.replicate g.bl.toNat 0, List.replicate g.bl.toNat 0, List.replicate g.bl.toNat 0, bb, nb, nb + 1, nb + 2⟩, rfl, ?_, ⟨rfl, rfl, rfl, rfl, rfl, rfl, rfl, rfl, rfl, ?_⟩, ?_, ?_, ?_⟩⟩
    · have hold : ∀ c r, c < M55.next → c ≠ nb + 3 → M55.get c = some r → P.get c = some r := fun c r h1 h2 h3 => by rw [hB.old c h1 h2]; exact h3
      refine ⟨hB.main, SlAt.mono hfA55 fun c r hc hr => hold c r (hflt55 c hc) (by have := hff4 c hc; omega) hr, ?_, by simp [newD], by simp [newD], by simp [newD], ?_, hold nb _ (by omega) (by omega) hx55, hold (nb + 1) _ (by omega) (by omega) hw55, hold (nb + 2) _ (by omega) (by omega) hd55, ?_, ?_, ?_, hfs8, hmg, ?_, by simp [newD], by simp [newD], by simp [newD], ?_, Int.le_refl 0⟩
      · show xs = _
        rw [hgr.1, List.length_map]
      · have e : List.map (fun x => x.1) (bl.map (fun b => ((.sl b 0 (rawN g) (rawN g) none : AV), List.replicate (rawN g) 255#8))) = pgsA (rawN g) bl := by simp [pgsA]
        rw [e]; exact hgr.2.2.2
      · intro qq hqq
        obtain ⟨b, hb', rfl⟩ := List.mem_map.1 hqq
        obtain ⟨h1, h2⟩ := hB.dat b hb'
        refine ⟨⟨by simp, .inr ⟨b, 0, rawN g, none, by simp, ⟨by simp, .inl rfl⟩, .inr ⟨_, _, h1, by simp, by rw [List.drop_zero, List.take_of_length_le (by simp)]⟩⟩⟩, rfl, fun c hc hm => ?_⟩
        have hc' : b = c := hc.2
        subst hc'
        have := hne b hb'
        simp only [own, List.mem_cons, List.not_mem_nil, or_false] at hm
        omega
      · simp only [own, List.nodup_cons, List.mem_cons, List.not_mem_nil, or_false, not_or, List.nodup_nil, and_true, not_false_eq_true]
        omega
      · intro c hc hm
        have h1 := hff4 c hc
        have h2 := hflt55 c hc
        simp only [own, List.mem_cons, List.not_mem_nil, or_false] at hm
        omega
      · show (List.map _ bl).length = _
        rw [List.length_map, hge, hn]; rfl
      · intro qq hqq
        obtain ⟨b, hb', rfl⟩ := List.mem_map.1 hqq
        simp [newD]
    · intro qq hqq
      obtain ⟨b, hb', rfl⟩ := List.mem_map.1 hqq
      rfl
    · intro c hc
      simp only [own, List.mem_cons, List.not_mem_nil, or_false] at hc
      omega
    · intro c hc
      have := hff4 c hc
      omega
    · intro qq hqq c hc
      obtain ⟨b, hb', rfl⟩ := List.mem_map.1 hqq
      have hc' : b = c := hc.2
      have := (hB.dat b hb').2
      omega
  have hlt : bl.length < n := by have : (bl.length : Int) < n := by simpa using hlt
                                 omega
  refine letP_i fun M65 hM65 => ?_
  have hM65' : M65 = bump P := hM65
  subst hM65'
  have hkb := bump_keep hB.wf
  have hB65 := hB.keep hkb
  have hg65 := hkb.get hB.wf hgP (by simp)
  have ldx : ∀ {N : Mem} {x : AV}, BldD M55 N (nb + 3) (newD g fsA nb) (rawN g) bl x → eLd tb 59 (.ptr (nb + 3) 6) N = some (x, N) := fun h => eLd_some (ld_cell ty59 rfl h.main rfl)
  refine bindO_i (ldx hB65) ?_
  obtain ⟨_, _, _, _, _, d5⟩ := geo_ld hg65
  refine bindO_i (eLd_some d5) ?_
  refine ⟨_, _, _, _, _, rfl, ?_⟩
  refine (r_raw (bump P) hkb.wf g hmg).mono ?_
  rintro y M74 ⟨rfl, hk74⟩
  have hB74 := hB65.keep hk74
  simp only [i64, zI_int]
  refine ⟨bindO_i (ldx hB74) rfl, ?_⟩
  refine (r_fill M74 hk74.wf 255#8 (rawN g) (by omega)).mono ?_
  rintro y M78 ⟨rfl, hM78⟩
  have hk78 : Keep M74 M78 [] := by rw [hM78]; exact Keep.new hk74.wf _
  have hd78 : M78.get M74.next = some (.cells (bvs (List.replicate (rawN g) 255#8)) true) := by rw [hM78]; exact get_new _ _
  clear hM78
  have hB78 := hB74.keep hk78
  refine ⟨bindO_i (ldx hB78) rfl, ?_⟩
  refine bindO_i (fl_one (M := M78) P.next) ?_
  have hnP : P.next + 1 ≤ M74.next := hk74.nxt
  have hk80 : Keep P (M78.put P.next (.cells [.sl M74.next 0 (rawN g) (rawN g) none] true)) [] := bump_put hB.wf (hk74.trans0 hk78) _
  have hl80 : (M78.put P.next (.cells [.sl M74.next 0 (rawN g) (rawN g) none] true)).get P.next = some (.cells [.sl M74.next 0 (rawN g) (rawN g) none] true) := by rw [Mem.get_put, if_pos rfl]
  have hd80 : (M78.put P.next (.cells [.sl M74.next 0 (rawN g) (rawN g) none] true)).get M74.next = some (.cells (bvs (List.replicate (rawN g) 255#8)) true) := by rw [Mem.get_put, if_neg (by omega)]; exact hd78
  generalize M78.put P.next (.cells [.sl M74.next 0 (rawN g) (rawN g) none] true) = M80 at hk80 hl80 hd80 ⊢
  have hB80 := hB.keep hk80
  have hs : SlAt 1 M80 (.sl P.next 0 1 1 none) 1 [.sl M74.next 0 (rawN g) (rawN g) none] := ⟨rfl, .inr ⟨_, _, _, _, rfl, ⟨Nat.le_refl _, .inl rfl⟩, .inr ⟨_, _, hl80, Nat.le_refl _, rfl⟩⟩⟩
  have hn80 : M74.next < M80.next := hk80.wf _ _ hd80
  have hPb : ∀ b ∈ bl, b < P.next := fun b h => hB.wf _ _ (hB.dat b h).1
  have hpP : nb + 3 < P.next := hB.wf _ _ hB.main
  obtain ⟨y81, M81, hap, hgr, hpk81, hge81⟩ : ∃ y81 M81, evAppend tb 59 59 xs (.sl P.next 0 1 1 none) M80 = some (y81, M81) ∧ Grown 1 M81 y81 (bl.length + 1) (pgsA (rawN g) (bl ++ [M74.next])) M80.next ∧ (M81.WF ∧ M80.next ≤ M81.next ∧ ∀ c, c < M55.next → M81.get c = M80.get c) ∧ ∀ c r, M80.get c = some r → (c ∈ bl ∨ c = M74.next ∨ c = nb + 3) → M81.get c = some r := by
    have epg : pgsA (rawN g) (bl ++ [M74.next]) = pgsA (rawN g) bl ++ [.sl M74.next 0 (rawN g) (rawN g) none] := by simp [pgsA]
    rw [epg]
    rcases hB80.sl with ⟨h1, rfl⟩ | ⟨bb, hg, hb1, hb2⟩
    · subst h1
      obtain ⟨N, h1, rfl⟩ := append_nil (T := tb) (k := 1) ty59 rfl ty33 rfl hs (by omega) ⟨by simp only; omega, by omega⟩
      exact ⟨_, _, h1, ⟨rfl, by simp, by simp [pgsA], get_new _ _⟩, ⟨hB80.wf.new _, Nat.le_succ _, fun c hc => by rw [Mem.get_new, if_neg (by have := hB80.nxt; omega)]⟩, fun c r hc _ => (Keep.new hB80.wf _).get hB80.wf hc (by simp)⟩
    · have hbbP : bb < P.next := by
        rcases hB.sl with ⟨h1, h2⟩ | ⟨b2, hg2, _, _⟩
        · have h3 := hg.1; rw [h1] at h3; cases h3
        · have h3 := hg.1
          rw [hg2.1] at h3
          injection h3 with h3
          rw [← h3]; exact hB.wf _ _ hg2.2.2.2
      obtain ⟨N, h1, rfl⟩ := append_grown (T := tb) (k := 1) ty59 rfl ty33 rfl hg hs (by omega) (by intro v hv; simp only [List.mem_singleton] at hv; subst hv; rfl) ⟨by simp only; omega, by omega⟩
      refine ⟨_, _, h1, ⟨rfl, by omega, by rw [List.length_append, pgsA_length]; simp, get_new (M80.kill bb) _⟩, ⟨(hB80.wf.kill _).new _, Nat.le_succ _, fun c hc => by rw [Mem.get_new, if_neg (by have := hB80.nxt; show c ≠ M80.next; omega), Mem.get_kill, if_neg (by omega)]⟩, fun c r hc hcase => ?_⟩
      have h2 := hB80.wf _ _ hc
      have hcb : c ≠ bb := by
        rcases hcase with h | rfl | rfl
        · exact hb2 c h
        · omega
        · omega
      rw [Mem.get_new, if_neg (by show c ≠ M80.next; omega), Mem.get_kill, if_neg hcb]; exact hc
  refine bindO_i hap ?_
  have hmain := hge81 _ _ hB80.main (.inr (.inr rfl))
  have hyone : y81.one = true := by rw [hgr.1]; rfl
  have hst : eSt tb 59 (.ptr (nb + 3) 6) y81 M81 = some (undefA, M81.put (nb + 3) (.cells (docC (newD g fsA nb y81)) true)) := eSt_some (st_cell ty59 rfl hyone hmain (by simp [docC]))
  refine bindO_i hst ?_
  refine ⟨n - (bl.length + 1), by omega, bl ++ [M74.next], y81, by rw [List.length_append]; exact iInc (by omega), by rw [List.length_append]; rfl, by rw [List.length_append]; exact hlt, ?_⟩
  refine ⟨hpk81.1.put (by have := hpk81.2.1; omega) _, Nat.le_trans hB80.nxt hpk81.2.1, fun c hc hcp => ?_, by rw [Mem.get_put, if_pos rfl], .inr ⟨M80.next, ⟨?_, by simp, by rw [pgsA_length]; simp, ?_⟩, hB80.nxt, ?_⟩, ?_⟩
  · rw [Mem.get_put, if_neg hcp, hpk81.2.2 c hc]
    exact hB80.old c hc hcp
  · rw [hgr.1]; simp
  · rw [Mem.get_put, if_neg (by omega)]; exact hgr.2.2.2
  · intro b h
    rcases List.mem_append.1 h with h | h
    · have := hPb b h; omega
    · simp only [List.mem_singleton] at h; omega
  · intro b h
    rcases List.mem_append.1 h with h | h
    · refine ⟨?_, (hB.dat b h).2⟩
      have h5 : b ≠ nb + 3 := fun e => by have := (hB.dat b h).2; omega
      rw [Mem.get_put, if_neg h5]
      exact hge81 _ _ (hB80.dat b h).1 (.inl h)
    · simp only [List.mem_singleton] at h; subst h
      refine ⟨?_, by have := hB.nxt; omega⟩
      rw [Mem.get_put, if_neg (by omega)]
      exact hge81 _ _ hd80 (.inr (.inl rfl))

end Go.Proofs.Ytjffimbigamadaa

/- The document's chip: Program. -/
namespace Go.Proofs.Ytjffimbigamadaa
open Go.AM

theorem Gr.app {M : Mem} {x y : AV} {l m : List (BitVec 8)} (hw : M.WF) (h : Gr M x l) (hy : BytesAt M y m) (hb : l.length + m.length ≤ 1000000) :
    ∃ x' N, evAppend tb 33 33 x y M = some (x', N) ∧ Gr N x' (l ++ m) ∧ GrowTo M N x x' := by
  by_cases hm : 0 < m.length
  · obtain ⟨x', N, h1, h2, h3, _⟩ := Gr.grow hw h hy hm hb
    exact ⟨x', N, h1, h2, h3⟩
  · have hnil : m = [] := List.eq_nil_of_length_eq_zero (by omega)
    subst hnil
    refine ⟨x, M, append_zero (T := tb) (k := 1) ty33 rfl ty5 rfl h.at hy, by rw [List.append_nil]; exact h, GrowTo.refl hw x⟩

theorem BytesAt.slice' {M : Mem} {x : AV} {l : List (BitVec 8)} (h : BytesAt M x l) {lo hi : Option AV} {a r : Nat}
    (hlo : (lo = none ∧ a = 0) ∨ lo = some (.val (.int .i64 (a : Int)))) (hhi : (hi = none ∧ r = l.length) ∨ hi = some (.val (.int .i64 (r : Int)))) (har : a ≤ r) (hrn : r ≤ l.length) :
    ∃ y, evSliceAt tb 33 x lo hi none = some y ∧ BytesAt M y ((l.take r).drop a) ∧ ∀ c, inBlk y c → inBlk x c := by
  obtain ⟨y, h1, h2, h3⟩ := SlAt.slice h ty33 rfl ty5 rfl (k1 := .i64) (k2 := .i64) hlo hhi har hrn
  refine ⟨y, h1, ?_, h3⟩
  unfold BytesAt
  have e1 : ((l.take r).drop a).length = r - a := by simp; omega
  have e2 : bvs ((l.take r).drop a) = ((bvs l).drop (a * 1)).take ((r - a) * 1) := by
    unfold bvs
    rw [Nat.mul_one, Nat.mul_one, List.map_drop, List.map_take, List.drop_take]
  rw [e1, e2]; exact h2

theorem gr_one {M : Mem} {u : AV} {l : List (BitVec 8)} (h : Gr M u l) : u.one = true := by
  rcases h with ⟨rfl, _⟩ | ⟨b, h, _⟩
  · rfl
  · rw [h]; rfl

/-- Program: what becomes of the document's chip, and what is answered. -/
def pgN (S : DocS) (d : List (BitVec 8)) : Nat := if trn S.d = true then min d.length S.d.cby.toNat else d.length
def pgE (S : DocS) (b k : Int) (d : List (BitVec 8)) (u : AV) : DocS × Int :=
  if S.d.off = true then (S, 9)
  else if isG S.d.g b k = true ∧ d.length = rawN S.d.g then
    match S.dn[b.toNat]?, S.nx[b.toNat]?, S.pg[b.toNat * S.d.g.pg.toNat + k.toNat]? with
    | some dn, some nx, some q =>
      if failsR S.fs b dn = true then ({ S with d := trD S.d }, if trn S.d = true then 9 else 10)
      else if k ≠ nx then ({ S with d := trD S.d }, if trn S.d = true then 9 else 11)
      else ({ S with d := trD S.d, pg := S.pg.set (b.toNat * S.d.g.pg.toNat + k.toNat) (u, d.take (pgN S d) ++ q.2.drop (pgN S d)), nx := S.nx.set b.toNat (iAdd .i64 nx 1), dn := if trn S.d = true then S.dn else S.dn.set b.toNat (iAdd .i64 dn 1) }, if trn S.d = true then 9 else 0)
    | _, _, _ => (S, 0)
  else (S, 2)

theorem d_program (M : Mem) (hw : M.WF) (p : Nat) (S : DocS) (h : DocAt M p S) (b k : Int) (x : AV) (d : List (BitVec 8)) (hx : BytesAt M x d) (hd : d.length ≤ 9223372036854775807) (hxf : ∀ c, inBlk x c → c ∉ own p S) :
    CallA tb.P 82 [.ptr p 0, placeA b k, x] M fun y N => ∃ u, y = i64 (pgE S b k d u).2 ∧ DocAt N p (pgE S b k d u).1 ∧ Keep M N (own p S) ∧ ∀ c, inBlk u c → M.next ≤ c := by
  refine F82_ok ?_
  unfold F82
  refine ⟨_, _, rfl, ?_⟩
  refine letP_i fun M3 hM3 => ?_
  have hM3' : M3 = M.new (.cells [i64 b, i64 k] true) := hM3
  have hK : Keep M M3 [] := by rw [hM3']; exact Keep.new hw _
  have hpl : M3.get M.next = some (.cells [i64 b, i64 k] true) := by rw [hM3']; exact get_new _ _
  clear hM3 hM3'
  have h1 := h.keep hw hK
  have hown : ∀ c ∈ own p S, c < M.next := fun c hc => by
    simp only [own, List.mem_cons, List.not_mem_nil, or_false] at hc
    rcases hc with rfl | rfl | rfl | rfl | rfl
    · exact hw _ _ h.main
    · exact hw _ _ h.pgs
    · exact hw _ _ h.nxs
    · exact hw _ _ h.wrs
    · exact hw _ _ h.dns
  have hpn : M.next ∉ own p S := fun hm => by have := hown _ hm; omega
  simp only [eNil_ptr, bindO_some, ra8, zP_ptr, rd_off h1.main, zB_bool]
  refine condB_i (fun q => ?_) (fun q => ?_)
  · refine ⟨.val (.slice none 0 0), ?_, ?_, hK.mono (by simp), fun c hc => hc.elim⟩
    · unfold pgE; rw [if_pos q]; rfl
    · unfold pgE; rw [if_pos q]; exact h1
  have q' : ¬ S.d.off = true := by rw [q]; simp
  refine letP_i fun K44 hK44 => ?_
  have bad : ∀ N, Keep M N [] → ¬ (isG S.d.g b k = true ∧ d.length = rawN S.d.g) → K44 true N := by
    intro N hk hno
    rw [hK44]
    simp only [condB_true]
    refine ⟨.val (.slice none 0 0), ?_, ?_, hk.mono (by simp), fun c hc => hc.elim⟩
    · unfold pgE; rw [if_neg q', if_neg hno]; rfl
    · unfold pgE; rw [if_neg q', if_neg hno]; exact h.keep hw hk
  have good : ∀ N, Keep M3 N [] → isG S.d.g b k = true → d.length = rawN S.d.g → K44 false N := by
    intro N hk3 hq hl
    rw [hK44]
    clear bad hK44 K44
    simp only [condB_false]
    have hk := hK.trans0 hk3
    have hN := h.keep hw hk
    have hplN := hk3.get hK.wf hpl (by simp)
    have hxN : BytesAt N x d := SlAt.keep0 hx hw hk
    refine (d_turn N hk3.wf p S hN).mono ?_
    rintro y M46 ⟨rfl, hD, hk46⟩
    have hKM : Keep M M46 (own p S) := hk.trans hk46 (by simp) (fun c hc _ => by simp only [List.mem_singleton] at hc; subst hc; simp [own])
    have hpl46 : M46.get M.next = some (.cells [i64 b, i64 k] true) := hk46.get hk3.wf hplN (by simp only [List.mem_singleton]; intro e; exact hpn (by rw [e]; simp [own]))
    have hx46 : BytesAt M46 x d := SlAt.keep hxN hk3.wf hk46 (fun c hc hm => by simp only [List.mem_singleton] at hm; subst hm; exact hxf _ hc (by simp [own]))
    have hnx46 : M.next ≤ M46.next := hKM.nxt
    simp only [zB_bool]
    obtain ⟨⟨b1, b2⟩, k1, k2⟩ := isG_iff.1 hq
    have hm := mayG_iff.1 h.may
    obtain ⟨i, rfl⟩ : ∃ i : Nat, b = (i : Int) := ⟨b.toNat, by omega⟩
    obtain ⟨j, rfl⟩ : ∃ j : Nat, k = (j : Int) := ⟨k.toNat, by omega⟩
    have hdn : i < S.dn.length := by rw [h.dnl]; omega
    have hnx : i < S.nx.length := by rw [h.nxl]; omega
    have hidx : i * S.d.g.pg.toNat + j < S.pg.length := by
      rw [h.pgl]
      have h5 : (i + 1) * S.d.g.pg.toNat ≤ S.d.g.bl.toNat * S.d.g.pg.toNat := Nat.mul_le_mul_right _ (by omega)
      rw [Nat.add_mul, Nat.one_mul] at h5
      omega
    have hpE : ∀ u r, (if failsR S.fs i S.dn[i] = true then ({ S with d := trD S.d }, if trn S.d = true then 9 else 10)
        else if (j : Int) ≠ S.nx[i] then ({ S with d := trD S.d }, if trn S.d = true then 9 else 11)
        else ({ S with d := trD S.d, pg := S.pg.set (i * S.d.g.pg.toNat + j) (u, d.take (pgN S d) ++ S.pg[i * S.d.g.pg.toNat + j].2.drop (pgN S d)), nx := S.nx.set i (iAdd .i64 S.nx[i] 1), dn := if trn S.d = true then S.dn else S.dn.set i (iAdd .i64 S.dn[i] 1) }, if trn S.d = true then (9 : Int) else 0)) = r → pgE S (i : Int) (j : Int) d u = r := by
      intro u r hr
      unfold pgE
      rw [if_neg q', if_pos ⟨hq, hl⟩, Int.toNat_natCast, Int.toNat_natCast, List.getElem?_eq_getElem hdn, List.getElem?_eq_getElem hnx, List.getElem?_eq_getElem hidx]
      exact hr
    obtain ⟨D, hDe⟩ : ∃ D, D = trD S.d := ⟨_, rfl⟩
    have hDs := trD_same S.d
    rw [← hDe] at hD hDs hpE
    clear hDe
    have e46 : ∀ (P : Mem) (z : Int) (u : AV), pgE S (i : Int) (j : Int) d u = ({ S with d := D }, z) → u = .val (.slice none 0 0) → P = M46 → (∃ u, (i64 z : AV) = i64 (pgE S (i : Int) (j : Int) d u).2 ∧ DocAt P p (pgE S (i : Int) (j : Int) d u).1 ∧ Keep M P (own p S) ∧ ∀ c, inBlk u c → M.next ≤ c) := by
      intro P z u e hu hP
      subst hu hP
      exact ⟨.val (.slice none 0 0), by rw [e], by rw [e]; exact hD, hKM, fun c hc => hc.elim⟩
    generalize hcut : trn S.d = cut at *
    refine letP_i fun K86 hK86 => ?_
    have fail : ∀ z : Int, z ≠ 0 → pgE S (i : Int) (j : Int) d (.val (.slice none 0 0)) = ({ S with d := D }, if cut = true then 9 else z) → K86 z M46 := by
      intro z hz e
      rw [hK86]
      refine letP_i fun K174 hK174 => ?_
      refine condB_i (fun h0 => absurd (by simpa using h0) hz) (fun _ => ?_)
      rw [hK174]
      refine condB_i (fun hc => ?_) (fun hc => ?_)
      · rw [if_pos hc] at e; exact e46 _ _ _ e rfl rfl
      · rw [if_neg (by rw [hc]; simp)] at e; exact e46 _ _ _ e rfl rfl
    have hpg : (trD S.d).g = (trD S.d).g := rfl
    have succ : ¬ failsR S.fs i S.dn[i] = true → ¬ (j : Int) ≠ S.nx[i] → K86 0 M46 := by
      intro q3 q4
      rw [hK86]
      clear fail hK86 K86
      refine letP_i fun K174 hK174 => ?_
      refine condB_i (fun _ => ?_) (fun h0 => by simp at h0)
      refine bindO_i (eLen_some hx46.len) ?_
      simp only [zI_int]
      refine letP_i fun K98 hK98 => ?_
      have go : pgN S d ≤ d.length → K98 ((pgN S d : Nat) : Int) := by
        generalize hnn : pgN S d = nn at hpE ⊢
        intro hnl
        rw [hK98]
        clear hK98 K98
        have hdg := hD.dg
        simp only [hDs.1] at hdg
        simp only [eNil_ptr, bindO_some, ra0, zP_ptr, hdg]
        refine ⟨_, _, _, _, _, rfl, ?_⟩
        obtain ⟨_, _, l3⟩ := place_ld hpl46
        refine bindO_i (eLd_some l3) ?_
        refine ⟨_, _, rfl, ?_⟩
        refine (r_number M46 hk46.wf S.d.g h.may i j hq).mono ?_
        rintro y M113 ⟨rfl, hk113⟩
        have h113 := hD.keep hk46.wf hk113
        have hx113 : BytesAt M113 x d := SlAt.keep0 hx46 hk46.wf hk113
        have hpl113 := hk113.get hk46.wf hpl46 (by simp)
        simp only [i64, zI_int, eNil_ptr, bindO_some, ra2, zP_ptr]
        have hpgn : S.d.g.pg = ((S.d.g.pg.toNat : Nat) : Int) := by omega
        have hnum : (i : Int) * S.d.g.pg + (j : Int) = ((i * S.d.g.pg.toNat + j : Nat) : Int) := by
          rw [Int.natCast_add, Int.natCast_mul, ← hpgn]
        rw [hnum]
        generalize hat : i * S.d.g.pg.toNat + j = at' at *
        obtain ⟨y119, hs119, hy119, _⟩ := hx113.slice' (lo := none) (hi := some (.val (.int .i64 (nn : Int)))) (a := 0) (r := nn) (.inl ⟨rfl, rfl⟩) (.inr rfl) (by omega) hnl
        rw [List.drop_zero] at hy119
        refine bindO_i (eSl_some hs119) ?_
        have hdp := h113.dpg
        obtain ⟨p1, p2⟩ := h113.page hidx
        simp only [hdp, bindO_some, p1, p2, zP_ptr]
        have hq0 := h113.byt _ (List.getElem_mem hidx)
        have hrw := h.raw _ (List.getElem_mem hidx)
        generalize hqq : S.pg[at'] = qq at *
        obtain ⟨y130, hs130, hy130, hi130⟩ := hq0.1.slice' (lo := some (.val (.int .i64 (nn : Int)))) (hi := none) (a := nn) (r := qq.2.length) (.inr rfl) (.inl ⟨rfl, rfl⟩) (by omega) (Nat.le_refl _)
        rw [List.take_length] at hy130
        refine bindO_i (eSl_some hs130) ?_
        have hr : 40 ≤ rawN S.d.g ∧ rawN S.d.g ≤ 80 := by unfold rawN; omega
        have hwq : ∀ c, inBlk qq.1 c → c < M113.next := fun c hc => SlAt.blk_lt hq0.1 hk113.wf hc
        obtain ⟨y131, M131, ha1, hg1, ht1⟩ := Gr.app (x := .val (.slice none 0 0)) (l := []) hk113.wf (.inl ⟨rfl, rfl⟩) hy119 (by simp; omega)
        rw [List.nil_append] at hg1
        refine bindO_i ha1 ?_
        have hk131 : Keep M113 M131 [] := ⟨ht1.wf, ht1.nxt, fun c hc _ => ht1.old c hc (fun h => h.elim)⟩
        have h131 := h113.keep hk113.wf hk131
        obtain ⟨p3, p4⟩ := h131.page hidx
        simp only at p4
        rw [hqq] at p4
        refine ⟨bindO_i h131.dpg rfl, bindO_i h131.dpg rfl, bindO_i p4 rfl, ?_⟩
        have hy131 : BytesAt M131 y130 (qq.2.drop nn) := SlAt.keep0 hy130 hk113.wf hk131
        obtain ⟨y135, M135, ha2, hg2, ht2⟩ := Gr.app hk131.wf hg1 hy131 (by simp; omega)
        refine bindO_i ha2 ?_
        have hb131 : ∀ c, inBlk y131 c → M113.next ≤ c := fun c hc => (ht1.blk c hc).resolve_right (fun h => h.elim)
        have hk135 : Keep M113 M135 [] := ⟨ht2.wf, Nat.le_trans ht1.nxt ht2.nxt, fun c hc _ => by
          rw [ht2.old c (Nat.lt_of_lt_of_le hc ht1.nxt) (fun hm => by have := hb131 c hm; omega), ht1.old c hc (fun h => h.elim)]⟩
        have hb135 : ∀ c, inBlk y135 c → M113.next ≤ c := fun c hc => by
          rcases ht2.blk c hc with h | h
          · exact Nat.le_trans ht1.nxt h
          · exact hb131 c h
        have h135 := h113.keep hk113.wf hk135
        obtain ⟨p5, _⟩ := h135.page hidx
        refine ⟨bindO_i h135.dpg rfl, ?_⟩
        simp only [p5, bindO_some, zP_ptr]
        have hu1 := gr_one hg2
        have hst : eSt tb 33 (.ptr S.pb at') y135 M135 = some (undefA, M135.put S.pb (.cells ((S.pg.set at' (y135, d.take nn ++ qq.2.drop nn)).map (·.1)) true)) := by
          have := st_cell (T := tb) (x := y135) (o := at') ty33 rfl hu1 h135.pgs (by simpa using hidx)
          rw [show (S.pg.map (·.1)).set at' y135 = (S.pg.set at' (y135, d.take nn ++ qq.2.drop nn)).map (·.1) by rw [List.map_set]] at this
          exact eSt_some this
        refine bindO_i hst ?_
        have hown135 : ∀ c ∈ own p S, c < M135.next := fun c hc => by have := hown c hc; have := hKM.nxt; have := hk113.nxt; have := hk135.nxt; omega
        have hpb : S.pb ∈ own p S := by simp [own]
        have hnbm : S.nb ∈ own p S := by simp [own]
        have hdbm : S.db ∈ own p S := by simp [own]
        have hlen : (d.take nn ++ qq.2.drop nn).length = rawN D.g := by rw [hDs.1, List.length_append, List.length_take, List.length_drop]; omega
        have hA := h135.setPg hk135.wf at' y135 _ hg2.at hu1 (fun c hc hm => by have := hb135 c hc; have := hown _ hm; have := hKM.nxt; have := hk113.nxt; omega) hlen
        have hkA : Keep M135 (M135.put S.pb (.cells ((S.pg.set at' (y135, d.take nn ++ qq.2.drop nn)).map (·.1)) true)) (own p S) := (Keep.put hk135.wf (hown135 _ hpb) _).mono (fun c hc _ => by simp only [List.mem_singleton] at hc; subst hc; exact hpb)
        have hpl140 : (M135.put S.pb (.cells ((S.pg.set at' (y135, d.take nn ++ qq.2.drop nn)).map (·.1)) true)).get M.next = some (.cells [i64 (i : Int), i64 (j : Int)] true) := by
          rw [Mem.get_put, if_neg (fun e => hpn (by rw [e]; exact hpb))]
          exact hk135.get hk113.wf hpl113 (by simp)
        simp only at hA
        generalize M135.put S.pb (.cells ((S.pg.set at' (y135, d.take nn ++ qq.2.drop nn)).map (·.1)) true) = M140 at hA hkA hpl140 ⊢
        have hK140 : Keep M M140 (own p S) := hKM.trans ((hk113.trans0 hk135).trans hkA (by simp) (fun _ h _ => h)) (fun _ h _ => h) (fun _ h _ => h)
        obtain ⟨a0, a1, _⟩ := place_ld hpl140
        have a0' : eLd tb 3 (.ptr M.next 0) M140 = some (i64 (i : Int), M140) := eLd_some a0
        simp only [i64] at a0'
        obtain ⟨x1, x2⟩ := int_at hA.nxs hnx
        simp only [i64] at x2
        simp only [eNil_ptr, bindO_some, ra3, zP_ptr, hA.dnx, a0', zI_int, x1, x2]
        refine bindO_i (int_set hA.nxs hnx _) ?_
        have hB := hA.setNx hkA.wf i (iAdd .i64 S.nx[i] 1)
        have hkB : Keep M140 (M140.put S.nb (.cells (intsI (S.nx.set i (iAdd .i64 S.nx[i] 1))) true)) (own p S) := (Keep.put hkA.wf (Nat.lt_of_lt_of_le (hown135 _ hnbm) hkA.nxt) _).mono (fun c hc _ => by simp only [List.mem_singleton] at hc; subst hc; exact hnbm)
        have hpl156 : (M140.put S.nb (.cells (intsI (S.nx.set i (iAdd .i64 S.nx[i] 1))) true)).get M.next = some (.cells [i64 (i : Int), i64 (j : Int)] true) := by
          rw [Mem.get_put, if_neg (fun e => hpn (by rw [e]; exact hnbm))]
          exact hpl140
        simp only at hB hkB
        generalize M140.put S.nb (.cells (intsI (S.nx.set i (iAdd .i64 S.nx[i] 1))) true) = M156 at hB hkB hpl156 ⊢
        have hK156 : Keep M M156 (own p S) := hK140.trans hkB (fun _ h _ => h) (fun _ h _ => h)
        have hfr : ∀ c, inBlk y135 c → M.next ≤ c := fun c hc => by have := hb135 c hc; have := hKM.nxt; have := hk113.nxt; omega
        have hE := hpE y135 _ rfl
        rw [if_neg q3, if_neg q4] at hE
        refine condB_i (fun hc => ?_) (fun hc => ?_)
        · have hc : cut = false := by simpa using hc
          obtain ⟨c0, _, _⟩ := place_ld hpl156
          have c0' : eLd tb 3 (.ptr M.next 0) M156 = some (i64 (i : Int), M156) := eLd_some c0
          simp only [i64] at c0'
          obtain ⟨x3, x4⟩ := int_at hB.dns hdn
          simp only [i64] at x4
          simp only [eNil_ptr, bindO_some, ra5, zP_ptr, hB.ddn, c0', zI_int, x3, x4]
          refine bindO_i (int_set hB.dns hdn _) ?_
          have hC := hB.setDn hkB.wf i (iAdd .i64 S.dn[i] 1)
          have hkC : Keep M156 (M156.put S.db (.cells (intsI (S.dn.set i (iAdd .i64 S.dn[i] 1))) true)) (own p S) := (Keep.put hkB.wf (Nat.lt_of_lt_of_le (hown135 _ hdbm) (Nat.le_trans hkA.nxt hkB.nxt)) _).mono (fun c hc _ => by simp only [List.mem_singleton] at hc; subst hc; exact hdbm)
          simp only at hC hkC
          rw [hK174, hc]
          simp only [condB_false]
          rw [hc, if_neg (by simp), if_neg (by simp)] at hE
          exact ⟨y135, by rw [hE]; rfl, by rw [hE]; exact hC, hK156.trans hkC (fun _ h _ => h) (fun _ h _ => h), hfr⟩
        · have hc : cut = true := by simpa using hc
          rw [hK174, hc]
          simp only [condB_true]
          rw [hc, if_pos rfl, if_pos rfl] at hE
          exact ⟨y135, by rw [hE]; rfl, by rw [hE]; exact hB, hK156, hfr⟩
      refine condB_i (fun hc => ?_) (fun hc => ?_)
      · have hcb : eLd tb 3 (.ptr p (14 + 1)) M46 = some (i64 D.cby, M46) := eLd_some (ld_cell ty3 rfl hD.main rfl)
        simp only [eNil_ptr, bindO_some, ra10, zP_ptr]
        refine bindO_i hcb ?_
        simp only [i64, zI_int]
        have hcby := hD.cby0
        simp only at hcby
        have hmin : eMin tb #[3, 3] 3 [.int .i64 (d.length : Int), .int .i64 D.cby] M46 = some (.val (.int .i64 ((pgN S d : Nat) : Int)), M46) := by
          have : eMin tb #[3, 3] 3 [.int .i64 (d.length : Int), .int .i64 D.cby] M46 = some (.val (.int .i64 (if D.cby < (d.length : Int) then D.cby else (d.length : Int))), M46) := rfl
          rw [this]
          have e2 : pgN S d = min d.length S.d.cby.toNat := by unfold pgN; rw [hcut, if_pos hc]
          rw [e2, ← hDs.2.2.2.2.2.2.1]
          congr 4
          split <;> omega
        refine bindO_i hmin ?_
        simp only [zI_int]
        refine go ?_
        unfold pgN
        split <;> omega
      · have e2 : pgN S d = d.length := by unfold pgN; rw [hcut, hc]; rfl
        have := go (by omega)
        rw [e2] at this
        exact this
    obtain ⟨a0, a1, _⟩ := place_ld hpl46
    have a0' : eLd tb 3 (.ptr M.next 0) M46 = some (i64 (i : Int), M46) := eLd_some a0
    have a1' : eLd tb 3 (.ptr M.next 1) M46 = some (i64 (j : Int), M46) := eLd_some a1
    simp only [i64] at a0' a1'
    obtain ⟨x1, x2⟩ := int_at hD.dns hdn
    obtain ⟨x3, x4⟩ := int_at hD.nxs hnx
    simp only [i64] at x2 x4
    have hdf := hD.dfs
    have hdd := hD.ddn
    have hdx := hD.dnx
    simp only at hdf hdd hdx
    simp only [eNil_ptr, bindO_some, ra1, ra5, zP_ptr, hdf, hdd, a0', zI_int, x1, x2]
    refine (r_fails M46 _ _ hD.flt (Nat.le_trans h.fsl (by decide)) _ _).mono ?_
    rintro y N' ⟨rfl, rfl⟩
    simp only [zB_bool]
    refine condB_i (fun q3 => fail 10 (by decide) (hpE _ _ (by rw [if_pos q3]))) (fun q3 => ?_)
    have q3' : ¬ failsR S.fs i S.dn[i] = true := by rw [q3]; simp
    simp only [eNil_ptr, bindO_some, ra3, zP_ptr, hdx, a0', a1', zI_int, x3, x4]
    refine condB_i (fun q4 => fail 11 (by decide) (hpE _ _ (by rw [if_neg q3', if_pos (by simpa using q4)]))) (fun q4 => succ q3' (by simpa using q4))
  clear hK44
  simp only [ra0, bindO_some, zP_ptr, h1.dg]
  refine ⟨_, _, _, _, _, rfl, ?_⟩
  obtain ⟨_, _, l2⟩ := place_ld hpl
  refine bindO_i (eLd_some l2) ?_
  refine ⟨_, _, rfl, ?_⟩
  refine (r_there M3 hK.wf S.d.g h.may b k).mono ?_
  rintro y M24 ⟨rfl, hk24⟩
  have h2 := h1.keep hK.wf hk24
  simp only [zB_bool]
  refine condB_i (fun hq => ?_) (fun hq => ?_)
  · have hq : ¬ isG S.d.g b k = true := by simpa using hq
    exact ⟨trivial, bad _ (hK.trans0 hk24) (fun h => hq h.1)⟩
  have hq : isG S.d.g b k = true := by simpa using hq
  have hx24 : BytesAt M24 x d := SlAt.keep0 hx hw (hK.trans0 hk24)
  refine bindO_i (eLen_some hx24.len) ?_
  simp only [zI_int, h2.dg, bindO_some]
  refine ⟨_, _, _, _, _, rfl, ?_⟩
  refine (r_raw M24 hk24.wf S.d.g h.may).mono ?_
  rintro y M39 ⟨rfl, hk39⟩
  have hx39 : BytesAt M39 x d := SlAt.keep0 hx24 hk24.wf hk39
  simp only [i64, zI_int]
  refine ⟨bindO_i (eLen_some hx39.len) rfl, ?_⟩
  by_cases hl : d.length = rawN S.d.g
  · rw [hl, bne_self_eq_false]
    exact good M39 (hk24.trans0 hk39) hq hl
  · rw [show (((d.length : Nat) : Int) != ((rawN S.d.g : Nat) : Int)) = true by rw [bne_iff_ne]; omega]
    exact bad M39 (hK.trans0 (hk24.trans0 hk39)) (fun h => hl h.2)

end Go.Proofs.Ytjffimbigamadaa

/- The document's chip, without addresses; Erase. -/
namespace Go.Proofs.Ytjffimbigamadaa
open Go.AM

/-- The document's chip, without addresses. -/
structure Vw where
  g : Geo
  fs : List Flt
  pg : List (List (BitVec 8))
  nx : List Int
  wr : List Int
  dn : List Int
  ops : Int
  cuts : Int
  off : Bool
  wait : Int
  cby : Int
  cf : BitVec 8
def vw (S : DocS) : Vw := ⟨S.d.g, S.fs, S.pg.map (·.2), S.nx, S.wr, S.dn, S.d.ops, S.d.cuts, S.d.off, S.d.wait, S.d.cby, S.d.cf⟩

def trnV (V : Vw) : Bool := !(V.wait == 0) && !(decide (iSub .i64 V.wait 1 > 0))
def trV (V : Vw) : Vw :=
  if V.wait = 0 then { V with ops := iAdd .i64 V.ops 1 }
  else if iSub .i64 V.wait 1 > 0 then { V with ops := iAdd .i64 V.ops 1, wait := iSub .i64 V.wait 1 }
  else { V with ops := iAdd .i64 V.ops 1, wait := iSub .i64 V.wait 1, off := true, cuts := iAdd .i64 V.cuts 1 }
theorem vw_tr (S : DocS) : vw { S with d := trD S.d } = trV (vw S) := by
  unfold vw trV trD
  dsimp only
  split
  · rfl
  · split <;> rfl

def pgVN (V : Vw) (d : List (BitVec 8)) : Nat := if trnV V = true then min d.length V.cby.toNat else d.length
def pgV (V : Vw) (b k : Int) (d : List (BitVec 8)) : Vw × Int :=
  if V.off = true then (V, 9)
  else if isG V.g b k = true ∧ d.length = rawN V.g then
    match V.dn[b.toNat]?, V.nx[b.toNat]?, V.pg[b.toNat * V.g.pg.toNat + k.toNat]? with
    | some dn, some nx, some q =>
      if failsR V.fs b dn = true then (trV V, if trnV V = true then 9 else 10)
      else if k ≠ nx then (trV V, if trnV V = true then 9 else 11)
      else ({ trV V with pg := V.pg.set (b.toNat * V.g.pg.toNat + k.toNat) (d.take (pgVN V d) ++ q.drop (pgVN V d)), nx := V.nx.set b.toNat (iAdd .i64 nx 1), dn := if trnV V = true then V.dn else V.dn.set b.toNat (iAdd .i64 dn 1) }, if trnV V = true then 9 else 0)
    | _, _, _ => (V, 0)
  else (V, 2)

theorem vw_pg (S : DocS) (b k : Int) (d : List (BitVec 8)) (u : AV) : vw (pgE S b k d u).1 = (pgV (vw S) b k d).1 ∧ (pgE S b k d u).2 = (pgV (vw S) b k d).2 := by
  unfold pgE pgV
  have e : (vw S).off = S.d.off := rfl
  have e2 : (vw S).g = S.d.g := rfl
  have e3 : (vw S).dn = S.dn := rfl
  have e4 : (vw S).nx = S.nx := rfl
  have e5 : (vw S).pg[b.toNat * S.d.g.pg.toNat + k.toNat]? = (S.pg[b.toNat * S.d.g.pg.toNat + k.toNat]?).map (·.2) := by
    show (S.pg.map (·.2))[_]? = _
    rw [List.getElem?_map]
  have e6 : (vw S).fs = S.fs := rfl
  have e7 : trnV (vw S) = trn S.d := rfl
  have e8 : pgVN (vw S) d = pgN S d := rfl
  rw [e, e2, e3, e4, e5, e6, e7, e8]
  split
  · exact ⟨rfl, rfl⟩
  · split
    · cases S.dn[b.toNat]? with
      | none => exact ⟨rfl, rfl⟩
      | some dn =>
        cases S.nx[b.toNat]? with
        | none => exact ⟨rfl, rfl⟩
        | some nx =>
          cases S.pg[b.toNat * S.d.g.pg.toNat + k.toNat]? with
          | none => exact ⟨rfl, rfl⟩
          | some q =>
            simp only [Option.map_some]
            split
            · exact ⟨vw_tr S, rfl⟩
            · split
              · exact ⟨vw_tr S, rfl⟩
              · refine ⟨?_, rfl⟩
                rw [← vw_tr]
                unfold vw
                dsimp only
                rw [List.map_set]
    · exact ⟨rfl, rfl⟩

/-- What an operation of the document's chip leaves. -/
structure DStep (M N : Mem) (p : Nat) (S S' : DocS) : Prop where
  at' : DocAt N p S'
  keep : Keep M N (own p S)
  own : own p S' = own p S
  fsA : S'.d.fsA = S.d.fsA
  pgs : ∀ q ∈ S'.pg, q ∈ S.pg ∨ ∀ c, inBlk q.1 c → M.next ≤ c

theorem pgE_same (S : DocS) (b k : Int) (d : List (BitVec 8)) (u : AV) (p : Nat) : own p (pgE S b k d u).1 = own p S ∧ (pgE S b k d u).1.d.fsA = S.d.fsA ∧ ∀ q ∈ (pgE S b k d u).1.pg, q ∈ S.pg ∨ q.1 = u := by
  have ht := trD_same S.d
  unfold pgE
  split
  · exact ⟨rfl, rfl, fun q hq => .inl hq⟩
  · split
    · split
      · split
        · exact ⟨rfl, ht.2.1, fun q hq => .inl hq⟩
        · split
          · exact ⟨rfl, ht.2.1, fun q hq => .inl hq⟩
          · refine ⟨rfl, ht.2.1, fun q hq => ?_⟩
            rcases List.mem_or_eq_of_mem_set hq with h | rfl
            · exact .inl h
            · exact .inr rfl
      · exact ⟨rfl, rfl, fun q hq => .inl hq⟩
    · exact ⟨rfl, rfl, fun q hq => .inl hq⟩

theorem d_programV (M : Mem) (hw : M.WF) (p : Nat) (S : DocS) (h : DocAt M p S) (b k : Int) (x : AV) (d : List (BitVec 8)) (hx : BytesAt M x d) (hd : d.length ≤ 9223372036854775807) (hxf : ∀ c, inBlk x c → c ∉ own p S) :
    CallA tb.P 82 [.ptr p 0, placeA b k, x] M fun y N => ∃ S', y = i64 (pgV (vw S) b k d).2 ∧ vw S' = (pgV (vw S) b k d).1 ∧ DStep M N p S S' := by
  refine (d_program M hw p S h b k x d hx hd hxf).mono ?_
  rintro y N ⟨u, rfl, h1, h2, h3⟩
  obtain ⟨e1, e2⟩ := vw_pg S b k d u
  obtain ⟨g1, g2, g3⟩ := pgE_same S b k d u p
  exact ⟨_, by rw [e2], e1, h1, h2, g1, g2, fun q hq => (g3 q hq).imp id fun e c hc => h3 c (by rw [← e]; exact hc)⟩

end Go.Proofs.Ytjffimbigamadaa

/- The chip and the document's: alike. -/
namespace Go.Proofs.Ytjffimbigamadaa
open Go.AM

/-- Both stand the same; at most so many operations. -/
structure Alike (n : Nat) (C : Chip) (V : Vw) : Prop where
  g : V.g = C.g
  fs : V.fs = C.fs
  ap : Apart C.fs
  off : V.off = C.off
  ops : V.ops = C.ops
  cuts : V.cuts = C.cuts
  o0 : 0 ≤ C.ops
  o1 : C.ops ≤ (n : Int)
  nx : V.nx = C.bs.map (·.next)
  wr : V.wr = C.bs.map (·.wear)
  dn : V.dn = C.bs.map (·.done)
  len : C.bs.length = C.g.bl.toNat
  pgl : V.pg.length = C.g.bl.toNat * C.g.pg.toNat
  ful : ∀ B ∈ C.bs, B.by'.length = C.g.pg.toNat * rawN C.g
  pg : ∀ (i j : Nat) (h : i < C.bs.length), j < C.g.pg.toNat → V.pg[i * C.g.pg.toNat + j]? = some (pageB C.bs[i] (rawN C.g) j)
  cut : (C.turn = 0 ∧ V.wait = 0) ∨ (1 ≤ V.wait ∧ V.wait ≤ 1073741824 ∧ C.turn = C.ops + V.wait ∧ V.cby = C.cby ∧ V.cf = C.cf)
  may : mayG C.g = true
  cby0 : 0 ≤ C.cby

theorem Alike.mono {n m : Nat} {C : Chip} {V : Vw} (h : Alike n C V) (hm : n ≤ m) : Alike m C V :=
  ⟨h.g, h.fs, h.ap, h.off, h.ops, h.cuts, h.o0, by have := h.o1; omega, h.nx, h.wr, h.dn, h.len, h.pgl, h.ful, h.pg, h.cut, h.may, h.cby0⟩

theorem trV_same (V : Vw) : (trV V).g = V.g ∧ (trV V).fs = V.fs ∧ (trV V).pg = V.pg ∧ (trV V).nx = V.nx ∧ (trV V).wr = V.wr ∧ (trV V).dn = V.dn ∧ (trV V).cby = V.cby ∧ (trV V).cf = V.cf := by
  unfold trV
  split
  · exact ⟨rfl, rfl, rfl, rfl, rfl, rfl, rfl, rfl⟩
  · split <;> exact ⟨rfl, rfl, rfl, rfl, rfl, rfl, rfl, rfl⟩

theorem alike_turn {n : Nat} {C : Chip} {V : Vw} (h : Alike n C V) (hn : n ≤ 1000000) :
    trnV V = bgn C ∧ Alike (n + 1) (bgC C) (trV V) ∧ (bgn C = true → V.cby = C.cby ∧ V.cf = C.cf) := by
  have h0 := h.o0
  have h1 := h.o1
  have e : iAdd .i64 C.ops 1 = C.ops + 1 := by rw [iAdd, wrap_i64' (by omega) (by omega)]
  have e' : iAdd .i64 V.ops 1 = C.ops + 1 := by rw [h.ops, e]
  rcases h.cut with ⟨h2, h3⟩ | ⟨h2, h3, h4, h5, h6⟩
  · have a1 : bgn C = false := by unfold bgn; rw [h2]; rfl
    have a2 : trnV V = false := by unfold trnV; rw [h3]; rfl
    have a3 : bgC C = { C with ops := C.ops + 1 } := by unfold bgC; rw [a1, e]; rfl
    have a4 : trV V = { V with ops := C.ops + 1 } := by unfold trV; rw [if_pos h3, e']
    rw [a1, a2, a3, a4]
    exact ⟨rfl, ⟨h.g, h.fs, h.ap, h.off, rfl, h.cuts, by show 0 ≤ C.ops + 1; omega, by show C.ops + 1 ≤ _; omega, h.nx, h.wr, h.dn, h.len, h.pgl, h.ful, h.pg, .inl ⟨h2, h3⟩, h.may, h.cby0⟩, fun hc => by cases hc⟩
  · have es : iSub .i64 V.wait 1 = V.wait - 1 := by rw [iSub, wrap_i64' (by omega) (by omega)]
    have b1 : (V.wait == 0) = false := by rw [beq_eq_false_iff_ne]; omega
    have b2 : (C.turn == 0) = false := by rw [beq_eq_false_iff_ne]; omega
    by_cases hw : V.wait = 1
    · have a1 : bgn C = true := by
        unfold bgn
        rw [b2, e, h4, hw]; simp
      have a2 : trnV V = true := by unfold trnV; rw [b1, es, hw]; rfl
      have a3 : bgC C = { C with ops := C.ops + 1, turn := 0, off := true, cuts := iAdd .i64 C.cuts 1 } := by unfold bgC; rw [a1, e]; rfl
      have a4 : trV V = { V with ops := C.ops + 1, wait := 0, off := true, cuts := iAdd .i64 C.cuts 1 } := by
        unfold trV
        rw [if_neg (by omega), es, if_neg (by omega), e', hw, h.cuts]; rfl
      rw [a1, a2, a3, a4]
      exact ⟨rfl, ⟨h.g, h.fs, h.ap, rfl, rfl, rfl, by show 0 ≤ C.ops + 1; omega, by show C.ops + 1 ≤ _; omega, h.nx, h.wr, h.dn, h.len, h.pgl, h.ful, h.pg, .inl ⟨rfl, rfl⟩, h.may, h.cby0⟩, fun _ => ⟨h5, h6⟩⟩
    · have a1 : bgn C = false := by
        unfold bgn
        have : (C.ops + 1 != C.turn) = true := by rw [bne_iff_ne]; omega
        rw [b2, e, this]; rfl
      have a2 : trnV V = false := by
        unfold trnV
        rw [b1, es, decide_eq_true (show V.wait - 1 > 0 by omega)]; rfl
      have a3 : bgC C = { C with ops := C.ops + 1 } := by unfold bgC; rw [a1, e]; rfl
      have a4 : trV V = { V with ops := C.ops + 1, wait := V.wait - 1 } := by
        unfold trV
        rw [if_neg (by omega), es, if_pos (by omega), e']
      rw [a1, a2, a3, a4]
      exact ⟨rfl, ⟨h.g, h.fs, h.ap, h.off, rfl, h.cuts, by show 0 ≤ C.ops + 1; omega, by show C.ops + 1 ≤ _; omega, h.nx, h.wr, h.dn, h.len, h.pgl, h.ful, h.pg, .inr ⟨by show 1 ≤ V.wait - 1; omega, by show V.wait - 1 ≤ _; omega, by show C.turn = C.ops + 1 + (V.wait - 1); omega, h5, h6⟩, h.may, h.cby0⟩, fun hc => by cases hc⟩

/-! ## Pages -/

theorem over_ext {l e : List (BitVec 8)} {r o : Nat} (he : e.length ≤ r) (ho : o + r ≤ l.length) : over l o e = over l o (e ++ ((l.drop o).take r).drop e.length) := by
  unfold over
  have hX : (((l.drop o).take r).drop e.length).length = r - e.length := by rw [List.length_drop, List.length_take, List.length_drop]; omega
  have h1 : ((l.drop o).take r).drop e.length = (l.drop (o + e.length)).take (r - e.length) := by
    rw [List.drop_take, List.drop_drop]
  rw [List.length_append, hX, ← Nat.add_assoc]
  have h2 : l.drop (o + e.length) = ((l.drop o).take r).drop e.length ++ l.drop (o + e.length + (r - e.length)) := by
    have := List.take_append_drop (r - e.length) (l.drop (o + e.length))
    rw [List.drop_drop] at this
    rw [h1]; exact this.symm
  have h3 : e ++ l.drop (o + e.length) = e ++ ((l.drop o).take r).drop e.length ++ l.drop (o + e.length + (r - e.length)) := by rw [List.append_assoc, ← h2]
  rw [List.append_assoc, h3, List.append_assoc, List.append_assoc, List.append_assoc]

theorem over_pages {B : Blk} {e : List (BitVec 8)} {r j k n : Nat} (hl : B.by'.length = n * r) (he : e.length ≤ r) (hj : j < n) (hk : k < n) (nx wr dn : Int) :
    pageB { B with by' := over B.by' (j * r) e, next := nx, wear := wr, done := dn } r k = if k = j then e ++ (pageB B r j).drop e.length else pageB B r k := by
  have hjr : (j + 1) * r ≤ n * r := Nat.mul_le_mul_right _ hj
  rw [Nat.add_mul, Nat.one_mul] at hjr
  unfold pageB
  dsimp only
  rw [over_ext he (by omega)]
  have := over_page (d := e ++ ((B.by'.drop (j * r)).take r).drop e.length) hl (by rw [List.length_append, List.length_drop, List.length_take, List.length_drop]; omega) hj hk
  rw [this]

theorem idx_ne {i j i' j' n : Nat} (hj : j < n) (hj' : j' < n) (h : i * n + j = i' * n + j') : i = i' ∧ j = j' := by
  rcases Nat.lt_trichotomy i i' with h1 | h1 | h1
  · have h2 : (i + 1) * n ≤ i' * n := Nat.mul_le_mul_right _ h1
    rw [Nat.add_mul, Nat.one_mul] at h2
    omega
  · subst h1; exact ⟨rfl, by omega⟩
  · have h2 : (i' + 1) * n ≤ i * n := Nat.mul_le_mul_right _ h1
    rw [Nat.add_mul, Nat.one_mul] at h2
    omega

theorem set_getElem_same {α : Type} {l : List α} {i : Nat} {a : α} (h : l[i]? = some a) : l.set i a = l := by
  apply List.ext_getElem?
  intro j
  rw [List.getElem?_set]
  split
  · rename_i e
    subst e
    have := (List.getElem?_eq_some_iff.1 h).1
    rw [if_pos this, h]
  · rfl

theorem upB_other {C : Chip} {i i' : Nat} {B : Blk} (h : i' < (C.upB i B).bs.length) (h0 : i' < C.bs.length) (hne : ¬ i = i') : (C.upB i B).bs[i'] = C.bs[i'] := by simp [Chip.upB, hne]

theorem alike_wr {n : Nat} {C : Chip} {V : Vw} (h : Alike n C V) {i j : Nat} (hi : i < C.bs.length) (hj : j < C.g.pg.toNat) {e : List (BitVec 8)} (he : e.length ≤ rawN C.g) (nx dn : Int) :
    Alike n (C.upB i { C.bs[i] with by' := over C.bs[i].by' (j * rawN C.g) e, next := nx, done := dn }) { V with pg := V.pg.set (i * C.g.pg.toNat + j) (e ++ (pageB C.bs[i] (rawN C.g) j).drop e.length), nx := V.nx.set i nx, dn := V.dn.set i dn } := by
  have hfi := h.ful _ (List.getElem_mem hi)
  have hle : (j + 1) * rawN C.g ≤ C.g.pg.toNat * rawN C.g := Nat.mul_le_mul_right _ hj
  rw [Nat.add_mul, Nat.one_mul] at hle
  refine ⟨h.g, h.fs, h.ap, h.off, h.ops, h.cuts, h.o0, h.o1, ?_, ?_, ?_, ?_, ?_, ?_, ?_, h.cut, h.may, h.cby0⟩
  · show V.nx.set i nx = _
    rw [h.nx]; simp [Chip.upB, List.map_set]
  · show V.wr = _
    rw [h.wr]
    simp only [Chip.upB, List.map_set]
    rw [set_getElem_same (by rw [List.getElem?_map, List.getElem?_eq_getElem hi]; rfl)]
  · show V.dn.set i dn = _
    rw [h.dn]; simp [Chip.upB, List.map_set]
  · rw [upB_len]; exact h.len
  · show (V.pg.set _ _).length = _
    rw [List.length_set]; exact h.pgl
  · intro B hB
    rcases mem_set hB with h1 | rfl
    · exact h.ful B h1
    · show (over _ _ _).length = _
      rw [over_length (by omega)]; exact hfi
  · intro i' j' hi' hj'
    have hi0 : i' < C.bs.length := by rw [upB_len] at hi'; exact hi'
    show (V.pg.set (i * C.g.pg.toNat + j) _)[i' * C.g.pg.toNat + j']? = _
    have hj'' : j' < C.g.pg.toNat := hj'
    have hp := h.pg i' j' hi0 hj'
    have hlt := (List.getElem?_eq_some_iff.1 hp).1
    rw [List.getElem?_set]
    by_cases hii : i = i'
    · subst hii
      have hB : (C.upB i { C.bs[i] with by' := over C.bs[i].by' (j * rawN C.g) e, next := nx, done := dn }).bs[i] = { C.bs[i] with by' := over C.bs[i].by' (j * rawN C.g) e, next := nx, done := dn } := upB_get hi'
      rw [hB]
      have ho := over_pages (B := C.bs[i]) (e := e) hfi he hj hj'' nx C.bs[i].wear dn
      show _ = some (pageB { C.bs[i] with by' := over C.bs[i].by' (j * rawN C.g) e, next := nx, wear := C.bs[i].wear, done := dn } (rawN C.g) j')
      rw [ho]
      by_cases hjj : j' = j
      · subst hjj
        rw [if_pos rfl, if_pos hlt, if_pos rfl]
      · rw [if_neg (fun e => hjj (by omega)), if_neg hjj]; exact hp
    · rw [if_neg (fun e => hii (idx_ne hj hj'' e).1), hp]
      have : (C.upB i { C.bs[i] with by' := over C.bs[i].by' (j * rawN C.g) e, next := nx, done := dn }).bs[i'] = C.bs[i'] := by
        exact upB_other hi' hi0 hii
      rw [this]; rfl

/-! ## Operations -/

theorem Alike.place {n : Nat} {C : Chip} {V : Vw} (h : Alike n C V) {b k : Int} (hp : isG C.g b k = true) : ∃ (i j : Nat), b = (i : Int) ∧ k = (j : Int) ∧ i < C.bs.length ∧ j < C.g.pg.toNat := by
  obtain ⟨⟨h1, h2⟩, h3, h4⟩ := isG_iff.1 hp
  have hm := mayG_iff.1 h.may
  have := h.len
  exact ⟨b.toNat, k.toNat, by omega, by omega, by omega, by omega⟩

theorem Alike.num {n : Nat} {C : Chip} {V : Vw} (h : Alike n C V) {i : Nat} (hi : i < C.bs.length) : V.dn[i]? = some C.bs[i].done ∧ V.nx[i]? = some C.bs[i].next ∧ V.wr[i]? = some C.bs[i].wear := by
  rw [h.dn, h.nx, h.wr]
  simp [hi]

theorem alike_pg {n : Nat} {C : Chip} {V : Vw} (h : Alike n C V) (hn : n ≤ 1000000) (b k : Int) (d : List (BitVec 8)) : (pgR C b k d).2 = (pgV V b k d).2 ∧ Alike (n + 1) (pgR C b k d).1 (pgV V b k d).1 := by
  obtain ⟨t1, t2, t3⟩ := alike_turn h hn
  unfold pgR pgV askd
  rw [h.off, h.g]
  by_cases ho : C.off = true
  · rw [if_pos ho, if_pos ho, if_neg (by decide)]; exact ⟨rfl, h.mono (by omega)⟩
  rw [if_neg ho, if_neg ho]
  by_cases hp : isG C.g b k = true
  rotate_left
  · rw [if_neg hp, if_neg (by decide), if_neg (fun hh => hp hh.1)]; exact ⟨rfl, h.mono (by omega)⟩
  rw [if_pos hp, if_pos rfl]
  by_cases hl : d.length = rawN C.g
  rotate_left
  · rw [if_neg hl, if_neg (fun hh => hl hh.2)]; exact ⟨rfl, h.mono (by omega)⟩
  have hpl : isG C.g b k = true ∧ d.length = rawN C.g := ⟨hp, hl⟩
  rw [if_pos hl, if_pos hpl, t1]
  obtain ⟨i, j, rfl, rfl, hi, hj⟩ := h.place hp
  have hN : pgVN V d = if bgn C = true then min C.cby.toNat d.length else d.length := by
    unfold pgVN
    rw [t1]
    split
    · rename_i hb
      rw [(t3 hb).1, Nat.min_comm]
    · rfl
  have hbb := bgC_bs C
  have hcby : (bgC C).cby = C.cby := hbb.2.2.2.1
  obtain ⟨q1, q2, q3, q4, q5, q6, q7, q8⟩ := trV_same V
  simp only [Int.toNat_natCast]
  obtain ⟨n1, n2, n3⟩ := h.num hi
  rw [n1, n2, h.pg i j hi hj]
  rw [← q3, ← q4, ← q6, hN, ← hcby, h.fs]
  have n1' : (trV V).dn[i]? = some C.bs[i].done := by rw [q6]; exact n1
  unfold pgS
  rw [hbb.1, List.getElem?_eq_getElem hi, hbb.2.2.1]
  simp only
  rw [← fails_alike h.ap]
  have hi1 : i < (bgC C).bs.length := by rw [hbb.1]; exact hi
  have hj1 : j < (bgC C).g.pg.toNat := by rw [hbb.2.1]; exact hj
  have hBe : (bgC C).bs[i] = C.bs[i] := by simp only [hbb.1]
  have hge : (bgC C).g = C.g := hbb.2.1
  generalize hC1 : bgC C = C1 at *
  generalize trV V = V1 at *
  generalize bgn C = cut at *
  by_cases hf : failsR C.fs (i : Int) C.bs[i].done = true
  · rw [if_pos hf, if_pos hf]
    exact ⟨by cases cut <;> rfl, t2⟩
  rw [if_neg hf, if_neg hf]
  by_cases hx : (j : Int) ≠ C.bs[i].next
  · rw [if_pos hx, if_pos hx]
    exact ⟨by cases cut <;> rfl, t2⟩
  rw [if_neg hx, if_neg hx]
  have hr : rawN C1.g = rawN C.g := by rw [hge]
  cases cut with
  | true =>
    refine ⟨rfl, ?_⟩
    rw [if_pos rfl, if_pos rfl, if_pos rfl]
    have hT : (d.take (min C1.cby.toNat d.length)).length = min C1.cby.toNat d.length := by rw [List.length_take]; omega
    have := alike_wr t2 hi1 hj1 (e := d.take (min C1.cby.toNat d.length)) (by rw [hT]; omega) (iAdd .i64 C.bs[i].next 1) C.bs[i].done
    rw [hBe, hT] at this
    rw [set_getElem_same n1', hr, hge] at this
    rw [hge]
    exact this
  | false =>
    refine ⟨rfl, ?_⟩
    rw [if_neg (by decide), if_neg (by decide), if_neg (by decide)]
    have := alike_wr t2 hi1 hj1 (e := d) (by omega) (iAdd .i64 C.bs[i].next 1) (iAdd .i64 C.bs[i].done 1)
    rw [hBe] at this
    rw [hr, hge] at this
    rw [hge, List.take_length]
    exact this

theorem alike_new {g : Geo} {fs : List Flt} {fsA : AV} {bb : Nat} {bs : List Blk} {S : DocS} (hmay : mayP g fs = true) (hmg : mayG g = true) (hlen : bs.length = g.bl.toNat) (hb : blank g bs) (hS : NewDoc g fs S) (hpl : S.pg.length = g.bl.toNat * g.pg.toNat) : Alike 0 (newChip g fsA fs bb bs) (vw S) := by
  have hmap : ∀ (f : Blk → Int), (∀ b, f (newB g b) = 0) → List.replicate g.bl.toNat 0 = bs.map f := fun f hf => by
    rw [← hlen]
    symm
    rw [List.eq_replicate_iff]
    refine ⟨by simp, fun z hz => ?_⟩
    obtain ⟨B, hB, rfl⟩ := List.mem_map.1 hz
    rw [hb B hB, hf]
  refine ⟨hS.geo, hS.fs, apart_of_mayP hmay, hS.off, hS.ops, hS.cuts, Int.le_refl 0, Int.le_refl 0, ?_, ?_, ?_, hlen, ?_, ?_, ?_, .inl ⟨rfl, hS.wait⟩, hmg, Int.le_refl 0⟩
  · show S.nx = _
    rw [hS.nx]; exact hmap _ (fun _ => rfl)
  · show S.wr = _
    rw [hS.wr]; exact hmap _ (fun _ => rfl)
  · show S.dn = _
    rw [hS.dn]; exact hmap _ (fun _ => rfl)
  · show (S.pg.map _).length = _
    rw [List.length_map]; exact hpl
  · intro B hB
    rw [hb B hB]
    show (List.replicate _ _).length = _
    rw [List.length_replicate]; rfl
  · intro i j hi hj
    have hi' : i < bs.length := hi
    have hj' : j < g.pg.toNat := hj
    show (S.pg.map (·.2))[i * g.pg.toNat + j]? = some (pageB bs[i] (rawN g) j)
    have h5 : (i + 1) * g.pg.toNat ≤ g.bl.toNat * g.pg.toNat := Nat.mul_le_mul_right _ (by omega)
    rw [Nat.add_mul, Nat.one_mul] at h5
    have hidx : i * g.pg.toNat + j < S.pg.length := by omega
    rw [List.getElem?_map, List.getElem?_eq_getElem hidx, Option.map_some, hS.pg _ (List.getElem_mem hidx), hb _ (List.getElem_mem hi')]
    show _ = some (((List.replicate (g.pg.toNat * rawN g) 255#8).drop (j * rawN g)).take (rawN g))
    rw [rep_page hj']

end Go.Proofs.Ytjffimbigamadaa
