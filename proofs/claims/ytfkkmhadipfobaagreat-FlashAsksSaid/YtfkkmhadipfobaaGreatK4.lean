import Derived.Test.YtfkkmhadipfobaaGreatB3
import Derived.Test.YtfkkmhadipfobaaGreatK3
import Derived.Test.YtfkkmhadipfobaaGreatY7
set_option linter.unusedSimpArgs false
set_option linter.unusedVariables false
set_option linter.unusedSectionVars false
/- FlashAsks: its four parts. -/
set_option maxRecDepth 100000
namespace Go.Proofs.YtfkkmhadipfobaaGreat
open Go.AM

abbrev yes : AV → Mem → Prop := fun y _ => y = .val (.bool true)
def J1 (g : Geo) (x : AV) (l : List (BitVec 8)) (z : Int) : AV → AV → AV → Int → Int → Nat → Mem → Prop := fun a b c w r _ N =>
  ∃ (ga p f : Nat) (F : Fl) (C : Chip), a = .ptr ga 0 ∧ b = .ptr p 0 ∧ c = .ptr f 0 ∧ w = wrN g l z ∧ r = rdN g z ∧ l.length ≤ 200 ∧ Asks N g x l ga p f F C []
def J2 (g : Geo) (x : AV) (l : List (BitVec 8)) (z : Int) : AV → AV → AV → Int → AV → Nat → Mem → Prop := fun a b c k d _ N =>
  ∃ (ga p f : Nat) (F : Fl) (C : Chip) (ma : List (Int × AV)), a = .ptr ga 0 ∧ b = .ptr p 0 ∧ c = .ptr f 0 ∧ l.length ≤ 200 ∧ Asks N g x l ga p f F C ma ∧
    ((k = 2 ∧ d = .val (.slice none 0 0)) ∨ (k = 0 ∧ askF C z = 0 ∧ 0 < l.length ∧ ∃ i u, lkP ma z = some (i, u) ∧ Gr N u l ∧ Gr N d l ∧ ∀ c, inBlk d c → F.mf + 4 < c ∧ ¬ inBlk u c))
def J3 (g : Geo) (x : AV) (l : List (BitVec 8)) : AV → AV → AV → Nat → Mem → Prop := fun a b c _ N =>
  ∃ (ga p f : Nat) (F : Fl) (C : Chip) (ma : List (Int × AV)), a = .ptr ga 0 ∧ b = .ptr p 0 ∧ c = .ptr f 0 ∧ Asks N g x l ga p f F C ma

theorem asks1 (g : Geo) (x : AV) (l : List (BitVec 8)) (z : Int) (M : Mem) (hw : M.WF) (hx : BytesAt M x l) : F4p1 (geoA g) (i64 z) x M (J1 g x l z) yes := by
  unfold F4p1
  refine ⟨_, _, _, _, _, rfl, ?_⟩
  simp only [i64, zI_int]
  refine letP_i fun M7 hM7 => ?_
  have e7 : M7 = M.new (.cells (geoC g) true) := hM7
  have hk7 : Keep M M7 [] := by rw [e7]; exact Keep.new hw _
  have g7 : M7.get M.next = some (.cells (geoC g) true) := by rw [e7]; exact get_new _ _
  have n7 : M7.next = M.next + 1 := by rw [e7]; rfl
  clear hM7 e7
  have hx7 : BytesAt M7 x l := SlAt.keep0 hx hw hk7
  refine bindO_i (eLen_some hx7.len) ?_
  simp only [zI_int]
  refine condB_i (fun _ => ?_) (fun hle => ?_)
  · refine (flash_awake M7).mono ?_
    rintro y M11 ⟨rfl, _⟩
    simp only [zB_bool]
  have hl : l.length ≤ 200 := by
    have := of_decide_eq_false hle
    omega
  refine bindO_i (eLd_some (ld_agg (n := 5) ty40 rfl rfl g7 (by simp [geoC]))) ?_
  refine ⟨_, _, _, _, _, rfl, ?_⟩
  refine (c_new M7 hk7.wf g _ [] SlAt.nil (by simp)).mono ?_
  rintro y19 M20 ⟨hk20, hc⟩
  rcases hc with ⟨hno, rfl⟩ | ⟨hm, p, fsA, bb, bs, rfl, hchip, hblank, hfoot, _⟩
  · refine (n_mount M20).mono ?_
    rintro y21 M22 ⟨rfl, _⟩
    refine ⟨_, _, rfl, ?_⟩
    rw [nil_nil24, bindO_some]
    simp only [zB_bool, condB_true]
    refine letP_i fun K34 hK34 => ?_
    rw [nil_nil22, bindO_some]
    simp only [zB_bool, condB_true]
    refine condB_i (fun _ => ?_) (fun h => by simp at h)
    refine (flash_awake M22).mono ?_
    rintro y M30 ⟨rfl, _⟩
    simp only [zB_bool]
    rw [hK34]
  have hmay : mayG g = true := by rw [mayP_nil] at hm; exact hm
  have hsp := mayG_iff.1 hmay
  have hnP := (nP_bnd hmay).2.1
  refine (f_mount0 M20 hk20.wf p _ hchip ⟨rfl, rfl⟩ (bare_new hmay hblank hchip.len) ⟨Int.le_refl _, by show (0 : Int) ≤ 1000000; omega⟩ (by rw [lost_new]; show (0 : Int) ≤ g.sp; omega)).mono ?_
  rintro y21 M22 ⟨f, F, C', rfl, st, calm, hbs, hfl, ⟨o, ho1, ho2⟩, hmf, e1, e2, e3, e4, _, _, _, hdeg, m0, m1, m2, m3⟩
  have hA : Asks M22 g x l M.next p f F C' [] := by
    have ho1 : C'.ops = 0 + o := ho1
    have ho2 : o ≤ nP g := ho2
    have hnx : ∀ c ∈ foot p C', M.next < c ∧ c < F.mf := fun c hc => by
      rw [st.foot] at hc
      have := hfoot c hc
      have := hchip.lt hk20.wf c hc
      omega
    have hx20 : BytesAt M20 x l := SlAt.keep0 hx7 hk7.wf hk20
    have hlt : ∀ c, inBlk x c → c < M.next := fun c hc => SlAt.blk_lt hx hw hc
    refine ⟨st.wf, hfl, st.g, st.fs, calm.off, by omega, hdeg, m1, m2, SlAt.keep hx20 hk20.wf st.keep fun c hc hm => ?_, step_get st hk20.wf (hk20.get hk7.wf g7 (by simp)) fun hm => ?_, hlt, hnx, ?_, e1, e2, e4⟩
    · have := hfoot c hm; have := hlt c hc; omega
    · have := hfoot _ hm; omega
    · have := hk20.nxt; omega
  clear hdeg m0 m1 m2 m3 ho1 ho2
  refine ⟨_, _, rfl, ?_⟩
  rw [nil_eq, bindO_some]
  simp only [zB_bool, condB_false]
  refine letP_i fun K38 hK38 => ?_
  refine condB_i (fun h => by simp at h) (fun _ => ?_)
  rw [nil_eq22, bindO_some]
  simp only [zB_bool]
  rw [hK38]
  clear hK38
  show condB false _ _
  simp only [condB_false]
  refine letP_i fun K44 hK44 => ?_
  have hend : ∀ M43, Keep M22 M43 [] → K44 (innB g z) M43 := by
    intro M43 hk
    have hB := hA.keep hk
    rw [hK44]
    refine letP_i fun K52 hK52 => ?_
    have h52 : ∀ w, w = wrN g l z → K52 w := by
      intro w hww
      rw [hK52]
      refine condB_i (fun hn => ?_) (fun hn => ?_)
      · have hn : innB g z = false := by simpa using hn
        exact ⟨M.next, p, f, F, C', rfl, rfl, rfl, hww, by unfold rdN; rw [if_neg (by rw [hn]; simp)], hl, hB⟩
      · have hn : innB g z = true := by simpa using hn
        exact ⟨M.next, p, f, F, C', rfl, rfl, rfl, hww, by unfold rdN; rw [if_pos hn], hl, hB⟩
    refine letP_i fun K50 hK50 => ?_
    refine condB_i (fun hn => ?_) (fun hn => ?_)
    · have hn : innB g z = false := by simpa using hn
      rw [hK50]
      show condB true _ _
      simp only [condB_true]
      exact h52 _ (by unfold wrN; rw [if_neg (fun h => by rw [hn] at h; simp at h)])
    · have hn : innB g z = true := by simpa using hn
      refine bindO_i (eLen_some hB.by'.len) ?_
      simp only [zI_int]
      refine bindO_i (eLd_some (ld_cell ty3 rfl hB.gr rfl)) ?_
      simp only [zI_int]
      rw [hK50]
      refine condB_i (fun h => h52 _ ?_) (fun h => h52 _ ?_)
      · have h : (l.length : Int) ≠ g.by' := by simpa using h
        unfold wrN; rw [if_neg (fun hh => h hh.2)]
      · have h : (l.length : Int) = g.by' := by simpa using h
        unfold wrN; rw [if_pos ⟨hn, h⟩]
  clear hK44
  refine condB_i (fun hz => ?_) (fun hz => ?_)
  · refine (f_logical M22 hA.wf f F p C' hA.fl).mono ?_
    rintro y39 M40 ⟨rfl, hk⟩
    rw [hA.geo]
    simp only [i64, zI_int]
    have : innB g z = decide (z < logG g) := by unfold innB; rw [hz, Bool.true_and]
    rw [← this]
    exact hend M40 hk
  · have : innB g z = false := by unfold innB; rw [hz, Bool.false_and]
    rw [← this]
    exact hend M22 (Keep.refl hA.wf)

theorem asks3 (g : Geo) (x : AV) (l : List (BitVec 8)) (z z1 z2 z3 z4 z5 : Int) : F4p3 z1 z2 z3 z4 z5 z x (J2 g x l z) (J3 g x l) yes := by
  unfold F4p3
  rintro _ x86 x87 x88 z89 x90 M91 ⟨ga, p, f, F, C, ma, rfl, rfl, rfl, hl, h, hc⟩
  rcases hc with ⟨rfl, rfl⟩ | ⟨rfl, hask, h0, i, u, hu1, hu2, hd, hfd⟩
  · refine (over_nil M91 h.wf).mono ?_
    rintro y92 M93 ho
    refine condB_i (fun hh => by simp at hh) (fun _ => ?_)
    exact ⟨ga, p, f, F, C, ma, rfl, rfl, rfl, h.keep ⟨ho.wf, ho.nxt, fun c hc _ => ho.old c hc fun hb => hb⟩⟩
  · refine (over_gr M91 h.wf x90 l hd (by omega)).mono ?_
    rintro y92 M93 ho
    refine condB_i (fun _ => ?_) (fun hh => by simp at hh)
    rcases hd with ⟨_, hd2⟩ | ⟨b, hd1, hd2⟩
    · rw [hd2] at h0; simp at h0
    have hin : inBlk x90 b := by rw [hd1]; exact ⟨by omega, rfl⟩
    rw [hd1] at ho
    have hk := ho.keep1
    have hA := h.keepS hk (fun c hc => by have hc : c = b := by simpa using hc
                                          rw [hc]; exact (hfd b hin).1)
    have hu3 : Gr M93 u l := by
      rcases hu2 with ⟨_, q2⟩ | ⟨b2, q1, q2, q3, q4⟩
      · rw [q2] at h0; simp at h0
      · refine .inr ⟨b2, q1, q2, q3, hk.get h.wf q4 fun hm => ?_⟩
        have hm : b2 = b := by simpa using hm
        exact (hfd b hin).2 (by rw [q1, hm]; exact ⟨by omega, rfl⟩)
    refine (f_read_some M93 hA.wf f F p C hA.fl hA.mp z hu1 hu3 h0 (by omega) hask).mono ?_
    rintro y94 M95 ⟨v, rfl, hv, hk2, _⟩
    refine ⟨_, _, rfl, ?_⟩
    have hB := hA.keep hk2
    refine (same_bytes M95 v x l l hv.at hB.by' (by omega)).mono ?_
    rintro y98 M99 ⟨rfl, hM⟩
    rw [hM]
    simp only [decide_true, zB_bool]
    refine condB_i (fun hh => by simp at hh) (fun _ => ?_)
    exact ⟨ga, p, f, F, C, ma, rfl, rfl, rfl, hB⟩

theorem asks4 (g : Geo) (x : AV) (l : List (BitVec 8)) (z z1 z2 z3 z4 z5 : Int) : F4p4 z1 z2 z3 z4 z5 z x (J3 g x l) yes := by
  unfold F4p4
  rintro _ x101 x102 x103 M104 ⟨ga, p, f, F, C, ma, rfl, rfl, rfl, h⟩
  have hops := h.ops
  have harm : armR C 1 0 0#8 = ({ C with cop := 1, cby := 0, cf := 0#8, turn := iAdd .i64 C.ops 1 }, 0) := by
    unfold armR
    rw [if_neg (by rw [h.off]; simp), if_neg (by omega)]
  have hadd : iAdd .i64 C.ops 1 = C.ops + 1 := by rw [iAdd, wrap_i64' (by omega) (by omega)]
  have hcut : (AV.agg [.val (.int .i64 1), .val (.int .i64 0), .val (.int .u8 0)]) = cutA 1 0 0#8 := rfl
  rw [hcut]
  refine (c_arm M104 h.wf p C h.fl.chip 1 0 0#8).mono ?_
  rintro y105 M106 ⟨rfl, s1⟩
  rw [harm] at s1 ⊢
  simp only [i64, zI_int]
  refine condB_i (fun hh => by simp at hh) (fun _ => ?_)
  generalize hC1 : ({ C with cop := 1, cby := 0, cf := 0#8, turn := iAdd .i64 C.ops 1 } : Chip) = C1 at s1
  have c1o : C1.off = false := by rw [← hC1]; exact h.off
  have c1t : C1.turn = C.ops + 1 := by rw [← hC1]; exact hadd
  have c1p : C1.ops = C.ops := by rw [← hC1]
  have c1g : C1.g = g := by rw [s1.g]; exact h.geo
  have hmay : mayG g = true := by rw [← h.geo]; exact h.fl.chip.may
  have hisG : isG C1.g 0 0 = true := by
    rw [c1g]
    have := mayG_iff.1 hmay
    unfold isG inB
    simp only [Bool.and_eq_true, decide_eq_true_eq]
    omega
  have hask : askd C1 0 0 = 0 := by unfold askd; rw [if_neg (by rw [c1o]; simp), if_pos hisG]
  have hbg : bgn C1 = true := by
    unfold bgn
    rw [c1t, c1p, hadd]
    have : ¬ C.ops + 1 = 0 := by omega
    simp [this]
  have hoff : (rdC C1 0 0).off = true := by
    unfold rdC
    rw [if_pos hask]
    unfold bgC
    rw [if_pos hbg]
  have hpl : (AV.agg [.val (.int .i64 0), .val (.int .i64 0)]) = placeA 0 0 := rfl
  rw [hpl]
  refine (c_read M106 s1.wf p C1 s1.at' 0 0).mono ?_
  rintro y108 M109 ⟨ux, rfl, _, _, s2⟩
  refine ⟨_, _, rfl, ?_⟩
  have s12 := s1.trans s2
  generalize rdC C1 0 0 = C2 at s2 s12 hoff
  have hft := h.bf
  have he2 := h.e1
  have he3 := h.e3
  have he0 := h.e0
  have hfl : FlAt M109 f F p C2 := ⟨step_get s12 h.wf h.fl.fl fun hm => by have := hft _ hm; omega, s12.at', h.fl.ptr, by rw [h.fl.geo, s12.g]⟩
  have hga : M109.get ga = some (.cells (geoC g) true) := step_get s12 h.wf h.gr fun hm => by have := hft _ hm; omega
  have ha9 : askF C2 0 = 9 := by unfold askF; rw [if_pos hoff]
  have hn9 : askF C2 0 ≠ 0 := by rw [ha9]; omega
  have r1 := f_read_ask M109 s12.wf f F p C2 hfl 0 hn9
  rw [ha9] at r1
  refine r1.mono ?_
  rintro y112 M113 ⟨rfl, hk1⟩
  refine ⟨_, _, rfl, ?_⟩
  have hfl1 := hfl.keep s12.wf hk1
  have hga1 := hk1.get s12.wf hga (by simp)
  refine (f_mount_off M113 hk1.wf p C2 hfl1.chip hoff).mono ?_
  rintro y116 M117 ⟨rfl, hM⟩
  rw [hM]
  clear hM
  refine ⟨_, _, rfl, ?_⟩
  refine letP_i fun K141 hK => ?_
  refine condB_i (fun _ => ?_) (fun hh => by simp at hh)
  have hfa : eFA tb 40 (.ptr ga 0) 2 M113 = some (.ptr ga 2, M113) := eFA_some (by unfold evFieldAddr; rw [ty40]; rfl)
  refine bindO_i hfa ?_
  simp only [zP_ptr]
  refine bindO_i (eLd_some (ld_cell ty3 rfl hga1 rfl)) ?_
  simp only [zI_int]
  have hby := mayG_iff.1 hmay
  have hbn : g.by' = ((g.by'.toNat : Nat) : Int) := by omega
  have rd := f_data M113 hk1.wf 1 g.by'.toNat (by omega)
  rw [← hbn] at rd
  refine rd.mono ?_
  rintro y125 M126 hk2
  have hfl2 := hfl1.keep hk1.wf hk2
  have r2 := f_write_ask M126 hk2.wf f F p C2 hfl2 0 y125 hn9
  rw [ha9] at r2
  refine r2.mono ?_
  rintro y127 M128 ⟨rfl, hk3⟩
  simp only [i64, zI_int]
  refine condB_i (fun _ => ?_) (fun hh => by simp at hh)
  have hfl3 := hfl2.keep hk2.wf hk3
  have r3 := f_trim_ask M128 hk3.wf f F p C2 hfl3 0 hn9
  rw [ha9] at r3
  refine r3.mono ?_
  rintro y130 M131 ⟨rfl, hk4⟩
  simp only [i64, zI_int]
  refine condB_i (fun _ => ?_) (fun hh => by simp at hh)
  have hfl4 := hfl3.keep hk3.wf hk4
  refine (f_flush_off M131 hk4.wf f F p C2 hfl4 hoff).mono ?_
  rintro y133 M134 ⟨rfl, hM⟩
  simp only [i64, zI_int]
  refine condB_i (fun _ => ?_) (fun hh => by simp at hh)
  refine condB_i (fun _ => ?_) (fun hh => by simp at hh)
  refine (flash_awake M134).mono ?_
  rintro y136 M137 ⟨rfl, _⟩
  simp only [zB_bool]
  rw [hK]

end Go.Proofs.YtfkkmhadipfobaaGreat

/- FlashAsks: its second part; the law. -/
set_option maxRecDepth 100000
namespace Go.Proofs.YtfkkmhadipfobaaGreat
open Go.AM

theorem asks2 (g : Geo) (x : AV) (l : List (BitVec 8)) (z z1 z2 z3 z4 z5 : Int) : F4p2 z1 z2 z3 z4 z5 z x (J1 g x l z) (J2 g x l z) yes := by
  unfold F4p2
  rintro _ x53 x54 x55 z56 z57 M58 ⟨ga, p, f, F, C, rfl, rfl, rfl, rfl, rfl, hl, h⟩
  have he1 := h.e1
  have he2 := h.e2
  have he3 := h.e3
  refine (lend M58 x l h.wf h.by' (by omega)).mono ?_
  rintro y59 M60 ⟨rfl, hM60⟩
  have hk60 : Keep M58 M60 [] := by rw [hM60]; exact Keep.new h.wf _
  have g60 : M60.get M58.next = some (.cells (lent l) true) := by rw [hM60]; exact get_new _ _
  clear hM60
  have hfn : f < M58.next := h.wf _ _ h.fl.fl
  generalize M58.next = b0 at g60 hfn
  have hA := h.keep hk60
  clear h hk60
  refine (a_read hA z).mono ?_
  rintro y61 M62 ⟨rfl, hk1⟩
  refine ⟨_, _, rfl, ?_⟩
  have hA1 := hA.keep hk1
  have g62 := hk1.get hA.wf g60 (by simp)
  refine (a_trim hA1 z).mono ?_
  rintro y65 M66 ⟨rfl, hk2⟩
  simp only [i64, zI_int]
  have hA2 := hA1.keep hk2
  have g66 := hk2.get hA1.wf g62 (by simp)
  refine (a_write hA2 z _ (lent_at g66) hl).mono ?_
  rintro y68 M69 ⟨rfl, hwr⟩
  simp only [i64, zI_int]
  -- what stands behind Write
  obtain ⟨ma, hA3, g69, hcase⟩ : ∃ ma, Asks M69 g x l ga p f F C ma ∧ M69.get b0 = some (.cells (lent l) true) ∧
      ((wrN g l z = 2 ∧ ma = []) ∨ (wrN g l z = 0 ∧ askF C z = 0 ∧ 0 < l.length ∧ ∃ u, lkP ma z = some (0, u) ∧ Gr M69 u l ∧ ∀ c, inBlk u c → b0 < c)) := by
    rcases hwr with ⟨e, hk, hB⟩ | ⟨e, hask, h0, u, hB, hg, hf, hk⟩
    · exact ⟨[], hB, hk.get hA2.wf g66 (by simp), .inl ⟨e, rfl⟩⟩
    · refine ⟨_, hB, hk.get hA2.wf g66 (fun hm => ?_), .inr ⟨e, hask, h0, u, lkP_upd z u, hg, fun c hc => ?_⟩⟩
      · have hm : b0 = F.mp := by simpa using hm
        omega
      · have := hf c hc
        have := hA2.wf _ _ g66
        omega
  clear hwr hA2 hA1 hA g66 g62 g60 hk1 hk2
  refine (kept M69 b0 x l l g69 hA3.by' (by omega)).mono ?_
  rintro y71 M72 ⟨rfl, hM⟩
  rw [hM]
  clear hM
  simp only [decide_true, zB_bool]
  refine (over_lent M69 hA3.wf b0 l g69 (by omega)).mono ?_
  rintro y74 M75 ho
  have hk := ho.keep1
  have hA4 := hA3.keepS hk (fun c hc => by have hc : c = b0 := by simpa using hc
                                           omega)
  -- the second Read
  rcases hcase with ⟨hwn, rfl⟩ | ⟨hwn, hask, h0, u, hu1, hu2, hu3⟩
  · refine (a_read hA4 z).mono ?_
    rintro y76 M77 ⟨rfl, hk5⟩
    refine ⟨_, _, rfl, ?_⟩
    have hA5 := hA4.keep hk5
    refine letP_i fun K85 hK85 => ?_
    refine condB_i (fun hh => by simp at hh) (fun _ => ?_)
    refine condB_i (fun hh => by simp at hh) (fun _ => ?_)
    refine condB_i (fun hh => by simp at hh) (fun _ => ?_)
    refine condB_i (fun hh => by simp at hh) (fun _ => ?_)
    rw [hwn]
    refine condB_i (fun hh => by simp at hh) (fun _ => ?_)
    refine condB_i (fun _ => ?_) (fun hh => by simp at hh)
    have hne : (rdN g z != rdN g z) = false := by simp
    rw [hne, hK85]
    show condB false _ _
    simp only [condB_false]
    exact ⟨ga, p, f, F, C, [], rfl, rfl, rfl, hl, hA5, .inl ⟨hwn, rfl⟩⟩
  · have hu75 : Gr M75 u l := by
      rcases hu2 with ⟨_, q2⟩ | ⟨b2, q1, q2, q3, q4⟩
      · rw [q2] at h0; simp at h0
      · refine .inr ⟨b2, q1, q2, q3, hk.get hA3.wf q4 fun hm => ?_⟩
        have hm : b2 = b0 := by simpa using hm
        have := hu3 b2 (by rw [q1]; exact ⟨by omega, rfl⟩)
        omega
    refine (f_read_some M75 hA4.wf f F p C hA4.fl hA4.mp z hu1 hu75 h0 (by omega) hask).mono ?_
    rintro y76 M77 ⟨v, rfl, hv, hk5, hvf⟩
    refine ⟨_, _, rfl, ?_⟩
    have hA5 := hA4.keep hk5
    have hu77 : Gr M77 u l := by
      rcases hu75 with hq | ⟨b2, q1, q2, q3, q4⟩
      · exact .inl hq
      · exact .inr ⟨b2, q1, q2, q3, hk5.get hA4.wf q4 (by simp)⟩
    have hult : ∀ c, inBlk u c → c < M75.next := fun c hc => SlAt.blk_lt hu75.at hA4.wf hc
    have hfl4 : f < M75.next := hA4.wf _ _ hA4.fl.fl
    refine letP_i fun K85 hK85 => ?_
    refine condB_i (fun hh => by simp at hh) (fun _ => ?_)
    refine condB_i (fun hh => by simp at hh) (fun _ => ?_)
    refine condB_i (fun hh => by simp at hh) (fun _ => ?_)
    refine condB_i (fun hh => by simp at hh) (fun _ => ?_)
    rw [hwn]
    refine condB_i (fun _ => ?_) (fun hh => by simp at hh)
    refine condB_i (fun hh => by simp at hh) (fun _ => ?_)
    refine (same_bytes M77 v x l l hv.at hA5.by' (by omega)).mono ?_
    rintro y80 M81 ⟨rfl, hM⟩
    rw [hM]
    clear hM
    simp only [decide_true, zB_bool]
    refine condB_i (fun hh => by simp at hh) (fun _ => ?_)
    refine condB_i (fun hh => by simp at hh) (fun _ => ?_)
    rw [hK85]
    show condB false _ _
    simp only [condB_false]
    refine ⟨ga, p, f, F, C, ma, rfl, rfl, rfl, hl, hA5, .inr ⟨hwn, hask, h0, 0, u, hu1, hu77, hv, fun c hc => ?_⟩⟩
    have := hvf c hc
    refine ⟨by omega, fun hm => ?_⟩
    have := hult c hm
    omega

theorem flash_asks (M : Mem) (hw : M.WF) (g : Geo) (z : Int) (x : AV) (l : List (BitVec 8)) (hx : BytesAt M x l) : CallA tb.P 4 [geoA g, i64 z, x] M fun y _ => y = .val (.bool true) :=
  F4_ok (asks1 g x l z M hw hx) (asks2 g x l z _ _ _ _ _) (asks3 g x l z _ _ _ _ _) (asks4 g x l z _ _ _ _ _)

end Go.Proofs.YtfkkmhadipfobaaGreat

/- FlashAsks, its arguments apart; an argument that is bytes (turned from the first seat). -/
set_option maxRecDepth 100000
namespace Go.Proofs.YtfkkmhadipfobaaGreat
open Go.AM
open Go.ChangeShapes Go.WideShapes Go.RowKit

theorem bvs_of : ∀ {zs : List Int}, (∀ z ∈ zs, 0 ≤ z ∧ z ≤ 255) → ∃ l : List (BitVec 8), l.length = zs.length ∧ intsA .u8 zs = bvs l
  | [], _ => ⟨[], rfl, rfl⟩
  | z :: zs, h => by
    obtain ⟨l, h1, h2⟩ := bvs_of (zs := zs) fun y hy => h y (by simp [hy])
    obtain ⟨b, hb⟩ := bv_of (n := 8) (h z (by simp)).1 (by have := (h z (by simp)).2; omega)
    exact ⟨b :: l, by simp [h1], by rw [hb]; show _ :: intsA .u8 zs = _ :: bvs l; rw [h2]; rfl⟩

/-- An argument that is bytes. -/
theorem bytes_arg {H : Type} {enc : TypeId × Value → H} {W : World} {t e : TypeId} (ht : Tryz.prog.underlying t = some (.slice e)) (he : Tryz.prog.underlying e = some (.int .u8)) (hc : Tryz.prog.cellsOf e = 1) {base : Nat} {v : Value} {d : DataW H} {ps : List MemPlace}
    (hval : Value.okWide Tryz.prog W .any base t v) (hd : DataW.Trod enc Tryz.prog W 0 (fun _ => true) true t v d ps) :
    ∃ (x : AV) (l : List (BitVec 8)), VR (injOf W) x v ∧ BytesAt (memOf W) x l ∧ l.length ≤ 9223372036854775807 := by
  obtain ⟨x, zs, h1, h2, h3, h4⟩ := ints_arg ht he hc hval hd
  obtain ⟨l, h5, h6⟩ := bvs_of (zs := zs) fun z hz => by
    have := h4 z hz
    have e1 : IntKind.u8.min = 0 := rfl
    have e2 : IntKind.u8.max = 255 := rfl
    omega
  refine ⟨x, l, h1, ?_, by omega⟩
  unfold BytesAt
  refine ⟨by simp, ?_⟩
  rcases h2 with ⟨rfl, rfl⟩ | ⟨b, o, c, cs, rw', rfl, g1, g2, g3, g4, g5⟩
  · exact .inl ⟨rfl, by simpa using h5⟩
  · refine .inr ⟨b, o, c, none, by rw [h5], ⟨by omega, .inl rfl⟩, ?_⟩
    rcases g4 with g4 | g4
    · left; omega
    · exact .inr ⟨cs, rw', g3, by omega, by rw [Nat.mul_one, h5, g5, h6]⟩


theorem flash_asks_all (M : Mem) (hw : M.WF) (bl pg by' sp tr : Int) (hr : ∀ y ∈ [bl, pg, by', sp, tr], -9223372036854775808 ≤ y ∧ y ≤ 9223372036854775807) (z : Int) (x : AV) (l : List (BitVec 8)) (hx : BytesAt M x l) (hl : l.length ≤ 9223372036854775807) :
    CallA tb.P 4 [.agg [.val (.int .i64 bl), .val (.int .i64 pg), .val (.int .i64 by'), .val (.int .i64 sp), .val (.int .i64 tr)], .val (.int .i64 z), x] M fun y _ => y = .val (.bool true) :=
  flash_asks M hw ⟨bl, pg, by', sp, tr⟩ z x l hx

end Go.Proofs.YtfkkmhadipfobaaGreat
