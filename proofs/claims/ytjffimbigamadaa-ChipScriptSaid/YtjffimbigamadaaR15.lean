import Derived.Test.YtjffimbigamadaaG21
import Derived.Test.YtjffimbigamadaaL1
import Derived.Test.YtjffimbigamadaaR13
set_option linter.unusedSimpArgs false
set_option linter.unusedVariables false
/- The chip and the document's, side by side; an act of both. -/
namespace Go.Proofs.Ytjffimbigamadaa
open Go.AM

theorem DocAt.keepS {M N : Mem} {p : Nat} {S : DocS} {T : List Nat} (h : DocAt M p S) (hw : M.WF) (hk : Keep M N T) (h1 : ∀ c ∈ own p S, c ∉ T) (h2 : ∀ c, inBlk S.d.fsA c → c ∉ T) (h3 : ∀ q ∈ S.pg, ∀ c, inBlk q.1 c → c ∉ T) : DocAt N p S :=
  ⟨hk.get hw h.main (h1 _ (by simp [own])), SlAt.keep h.flt hw hk h2, h.pgA, h.nxA, h.wrA, h.dnA, hk.get hw h.pgs (h1 _ (by simp [own])), hk.get hw h.nxs (h1 _ (by simp [own])), hk.get hw h.wrs (h1 _ (by simp [own])), hk.get hw h.dns (h1 _ (by simp [own])),
    fun q hq => ⟨SlAt.keep (h.byt q hq).1 hw hk (h3 q hq), (h.byt q hq).2⟩, h.nd, h.fsx, h.fsl, h.may, h.pgl, h.nxl, h.wrl, h.dnl, h.raw, h.cby0⟩

theorem DocAt.lt {M : Mem} {p : Nat} {S : DocS} (h : DocAt M p S) (hw : M.WF) : ∀ c ∈ own p S, c < M.next := fun c hc => by
  simp only [own, List.mem_cons, List.not_mem_nil, or_false] at hc
  rcases hc with rfl | rfl | rfl | rfl | rfl
  · exact hw _ _ h.main
  · exact hw _ _ h.pgs
  · exact hw _ _ h.nxs
  · exact hw _ _ h.wrs
  · exact hw _ _ h.dns

/-- A chip, the document's chip, and what a law keeps beside them: 'F' where the chip begins, 'B' where the document's does, 'X' the law's own blocks behind that. -/
structure Both (M : Mem) (p : Nat) (C : Chip) (r : Nat) (S : DocS) (F B : Nat) (X : List Nat) : Prop where
  c : ChipAt M p C
  d : DocAt M r S
  wf : M.WF
  fb : F ≤ B
  nxt : B ≤ M.next
  cr : ∀ c ∈ foot p C, F ≤ c ∧ c < B
  cs : ∀ c, inBlk C.fsA c → F ≤ c ∧ c < B
  dr : ∀ c ∈ own r S, B ≤ c ∧ c ∉ X
  ds : ∀ c, inBlk S.d.fsA c → B ≤ c ∧ c ∉ X
  dp : ∀ q ∈ S.pg, ∀ c, inBlk q.1 c → B ≤ c ∧ c ∉ X
  xr : ∀ x ∈ X, B ≤ x ∧ x < M.next

/-- What a law keeps stays. -/
def Fr (M N : Mem) (F : Nat) (X : List Nat) : Prop := ∀ c row, (c < F ∨ c ∈ X) → M.get c = some row → N.get c = some row
theorem Fr.refl {M : Mem} {F : Nat} {X : List Nat} : Fr M M F X := fun _ _ _ h => h
theorem Fr.trans {M N P : Mem} {F : Nat} {X : List Nat} (h : Fr M N F X) (k : Fr N P F X) : Fr M P F X := fun c r hc hg => k c r hc (h c r hc hg)
theorem Fr.mono {M N : Mem} {F : Nat} {X Y : List Nat} (h : Fr M N F X) (hy : ∀ c ∈ Y, c ∈ X) : Fr M N F Y := fun c r hc hg => h c r (hc.imp id (hy c)) hg
theorem Fr.keep {M N : Mem} {F : Nat} {X : List Nat} (hw : M.WF) (k : Keep M N []) : Fr M N F X := fun c r _ hg => k.get hw hg (by simp)

section
variable {M N : Mem} {p : Nat} {C C' : Chip} {r : Nat} {S S' : DocS} {F B : Nat} {X : List Nat}

theorem Both.cstep (h : Both M p C r S F B X) (s : Step M N p C C') : Both N p C' r S F B X ∧ Fr M N F X := by
  have hf : ∀ c, B ≤ c → c ∉ foot p C := fun c hc hm => by have := (h.cr c hm).2; omega
  refine ⟨⟨s.at', h.d.keepS h.wf s.keep (fun c hc => hf c (h.dr c hc).1) (fun c hc => hf c (h.ds c hc).1) (fun q hq c hc => hf c (h.dp q hq c hc).1), s.wf, h.fb, Nat.le_trans h.nxt s.keep.nxt, by rw [s.foot]; exact h.cr, by rw [s.fsA]; exact h.cs, h.dr, h.ds, h.dp, fun x hx => ⟨(h.xr x hx).1, Nat.lt_of_lt_of_le (h.xr x hx).2 s.keep.nxt⟩⟩, ?_⟩
  intro c row hc hg
  refine step_get s h.wf hg (fun hm => ?_)
  rcases hc with hc | hc
  · have := (h.cr c hm).1; omega
  · exact hf c (h.xr c hc).1 hm

theorem Both.dstep (h : Both M p C r S F B X) (s : DStep M N r S S') : Both N p C r S' F B X ∧ Fr M N F X := by
  have hf : ∀ c, c < B → c ∉ own r S := fun c hc hm => by have := (h.dr c hm).1; omega
  refine ⟨⟨h.c.keepS h.wf s.keep (fun b hb => ⟨fun hm => hf b (h.cr b hm).2 hb, fun hm => hf b (h.cs b hm).2 hb⟩), s.at', s.keep.wf, h.fb, Nat.le_trans h.nxt s.keep.nxt, h.cr, h.cs, by rw [s.own]; exact h.dr, by rw [s.fsA]; exact h.ds, fun q hq c hc => ?_, fun x hx => ⟨(h.xr x hx).1, Nat.lt_of_lt_of_le (h.xr x hx).2 s.keep.nxt⟩⟩, ?_⟩
  · rcases s.pgs q hq with h1 | h1
    · exact h.dp q h1 c hc
    · have h2 := h1 c hc
      exact ⟨Nat.le_trans h.nxt h2, fun hm => by have := (h.xr c hm).2; omega⟩
  · intro c row hc hg
    refine s.keep.get h.wf hg (fun hm => ?_)
    rcases hc with hc | hc
    · exact hf c (Nat.lt_of_lt_of_le hc h.fb) hm
    · exact (h.dr c hm).2 hc

theorem Both.keep (h : Both M p C r S F B X) (k : Keep M N []) : Both N p C r S F B X :=
  ⟨h.c.keep h.wf k, h.d.keep h.wf k, k.wf, h.fb, Nat.le_trans h.nxt k.nxt, h.cr, h.cs, h.dr, h.ds, h.dp, fun x hx => ⟨(h.xr x hx).1, Nat.lt_of_lt_of_le (h.xr x hx).2 k.nxt⟩⟩

theorem Both.drop {Y : List Nat} (h : Both M p C r S F B X) (hy : ∀ c ∈ Y, c ∈ X) : Both M p C r S F B Y :=
  ⟨h.c, h.d, h.wf, h.fb, h.nxt, h.cr, h.cs, fun c hc => ⟨(h.dr c hc).1, fun hm => (h.dr c hc).2 (hy c hm)⟩, fun c hc => ⟨(h.ds c hc).1, fun hm => (h.ds c hc).2 (hy c hm)⟩, fun q hq c hc => ⟨(h.dp q hq c hc).1, fun hm => (h.dp q hq c hc).2 (hy c hm)⟩, fun x hx => h.xr x (hy x hx)⟩

/-- A block of the law's own is written. -/
theorem Both.keepX (h : Both M p C r S F B X) {b : Nat} (hb : b ∈ X) (k : Keep M N [b]) : Both N p C r S F B X := by
  have hB := (h.xr b hb).1
  have n1 : ∀ c, c ∉ X → c ∉ [b] := fun c hc hm => by simp only [List.mem_singleton] at hm; subst hm; exact hc hb
  refine ⟨h.c.keepS h.wf k (fun c hc => ?_), h.d.keepS h.wf k (fun c hc => n1 c (h.dr c hc).2) (fun c hc => n1 c (h.ds c hc).2) (fun q hq c hc => n1 c (h.dp q hq c hc).2), k.wf, h.fb, Nat.le_trans h.nxt k.nxt, h.cr, h.cs, h.dr, h.ds, h.dp, fun x hx => ⟨(h.xr x hx).1, Nat.lt_of_lt_of_le (h.xr x hx).2 k.nxt⟩⟩
  simp only [List.mem_singleton] at hc
  subst hc
  exact ⟨fun hm => by have := (h.cr _ hm).2; omega, fun hm => by have := (h.cs _ hm).2; omega⟩

/-- Where the document's chip lies. -/
theorem Both.dlt (h : Both M p C r S F B X) : (∀ c ∈ own r S, c < M.next) ∧ (∀ c, inBlk S.d.fsA c → c < M.next) ∧ ∀ q ∈ S.pg, ∀ c, inBlk q.1 c → c < M.next :=
  ⟨h.d.lt h.wf, fun c hc => SlAt.blk_lt h.d.flt h.wf hc, fun q hq c hc => SlAt.blk_lt (h.d.byt q hq).1 h.wf hc⟩

/-- A new block of the law's own. -/
theorem Both.add (h : Both M p C r S F B X) (k : Keep M N []) {b : Nat} (h1 : M.next ≤ b) (h2 : b < N.next) : Both N p C r S F B (b :: X) := by
  obtain ⟨d1, d2, d3⟩ := h.dlt
  have hN := h.keep k
  have n1 : ∀ c, c < M.next → c ∉ X → c ∉ b :: X := fun c hc hx hm => by
    rcases List.mem_cons.1 hm with e | hm
    · omega
    · exact hx hm
  refine ⟨hN.c, hN.d, hN.wf, hN.fb, hN.nxt, hN.cr, hN.cs, fun c hc => ⟨(h.dr c hc).1, n1 c (d1 c hc) (h.dr c hc).2⟩, fun c hc => ⟨(h.ds c hc).1, n1 c (d2 c hc) (h.ds c hc).2⟩, fun q hq c hc => ⟨(h.dp q hq c hc).1, n1 c (d3 q hq c hc) (h.dp q hq c hc).2⟩, fun x hx => ?_⟩
  rcases List.mem_cons.1 hx with e | hx
  · subst e; exact ⟨Nat.le_trans h.nxt h1, h2⟩
  · exact hN.xr x hx

/-- A new block that the chip made. -/
theorem Both.cstepAdd (h : Both M p C r S F B X) (s : Step M N p C C') {b : Nat} (h1 : M.next ≤ b) (h2 : b < N.next) : Both N p C' r S F B (b :: X) := by
  obtain ⟨d1, d2, d3⟩ := h.dlt
  have hN := (h.cstep s).1
  have n1 : ∀ c, c < M.next → c ∉ X → c ∉ b :: X := fun c hc hx hm => by
    rcases List.mem_cons.1 hm with e | hm
    · omega
    · exact hx hm
  refine ⟨hN.c, hN.d, hN.wf, hN.fb, hN.nxt, hN.cr, hN.cs, fun c hc => ⟨(h.dr c hc).1, n1 c (d1 c hc) (h.dr c hc).2⟩, fun c hc => ⟨(h.ds c hc).1, n1 c (d2 c hc) (h.ds c hc).2⟩, fun q hq c hc => ⟨(h.dp q hq c hc).1, n1 c (d3 q hq c hc) (h.dp q hq c hc).2⟩, fun x hx => ?_⟩
  rcases List.mem_cons.1 hx with e | hx
  · subst e; exact ⟨Nat.le_trans h.nxt h1, h2⟩
  · exact hN.xr x hx
end

theorem l_num (M : Mem) (z : Int) : CallA tb.P 46 [.val (.int .i64 z)] M fun y N => y = .val (.int .i64 z) ∧ N = M := by
  refine F46_ok ?_
  unfold F46
  simp only [zI_int]
  exact ⟨by trivial, by trivial⟩

/-- Bytes that a law makes. -/
def patZ (v : BitVec 8) (z : Int) : List (BitVec 8) := pat v (min z.toNat 200)
theorem patZ_len (v : BitVec 8) (z : Int) : (patZ v z).length ≤ 200 := by unfold patZ; rw [pat_length]; omega
theorem l_bytes (M : Mem) (hw : M.WF) (v : BitVec 8) {z : Int} (hz : inI64 z) :
    CallA tb.P 20 [.val (.int .u8 (v.toNat : Int)), .val (.int .i64 z)] M fun y N => BytesAt N y (patZ v z) ∧ Keep M N [] ∧ ∀ c, inBlk y c → M.next ≤ c := by
  refine (c_bytes M hw v z hz).mono ?_
  rintro y N ⟨rfl, hN⟩
  have hk : Keep M N [] := by rw [hN]; exact Keep.new hw _
  exact ⟨⟨by simp, .inr ⟨_, _, _, _, by unfold patZ; rw [pat_length], ⟨by unfold patZ; rw [pat_length]; exact Nat.le_refl _, .inl rfl⟩, .inr ⟨_, true, by rw [hN]; exact get_new _ _, by unfold patZ; simp, by unfold patZ; rw [List.drop_zero, List.take_of_length_le (by simp)]⟩⟩⟩, hk, fun c hc => by rw [← hc.2]; exact Nat.le_refl _⟩

theorem r_done {M : Mem} {p : Nat} {C : Chip} {r : Nat} {S : DocS} {F B n : Nat} {X : List Nat} (h : Both M p C r S F B X) (ha : Alike n C (vw S)) (hn : n ≤ 1000000) (a : Act) (hao : actOk a) :
    CallA tb.P 34 [.ptr p 0, .ptr r 0, .agg (actC a)] M fun y N => y = .val (.bool true) ∧ ∃ C' S', Both N p C' r S' F B X ∧ Alike (n + 1) C' (vw S') ∧ Fr M N F X ∧ C'.g = C.g ∧ C'.fs = C.fs := by
  refine F34_ok ?_
  unfold F34
  refine ⟨_, _, _, _, _, _, _, _, rfl, ?_⟩
  refine letP_i fun M9 hM9 => ?_
  have hM9' : M9 = M.new (.cells (actC a) true) := hM9
  have hk9 : Keep M M9 [] := by rw [hM9']; exact Keep.new h.wf _
  have hb9 : M9.get M.next = some (.cells (actC a) true) := by rw [hM9']; exact get_new _ _
  clear hM9 hM9'
  have h9 : Both M9 p C r S F B (M.next :: X) := h.add hk9 (Nat.le_refl _) (hk9.wf _ _ hb9)
  have f9 : Fr M M9 F X := Fr.keep h.wf hk9
  have tl : ∀ c ∈ X, c ∈ M.next :: X := fun c hc => List.mem_cons_of_mem _ hc
  have ld : ∀ {N : Mem}, N.get M.next = some (.cells (actC a) true) → eLd tb 30 (.ptr M.next 1) N = some (placeA a.b a.k, N) ∧ eLd tb 5 (.ptr M.next 3) N = some (.val (.int .u8 (a.n.toNat : Int)), N) ∧ eLd tb 3 (.ptr M.next 4) N = some (.val (.int .i64 a.len), N) ∧ eLd tb 3 (.ptr M.next 1) N = some (.val (.int .i64 a.b), N) ∧ eLd tb 42 (.ptr M.next 5) N = some (cutA a.op a.by' a.f, N) := fun hb =>
    ⟨eLd_some (ld_agg (n := 2) ty30 rfl rfl hb (by simp [actC])), eLd_some (ld_cell ty5 rfl hb rfl), eLd_some (ld_cell ty3 rfl hb rfl), eLd_some (ld_cell ty3 rfl hb rfl), eLd_some (ld_agg (n := 3) ty42 rfl rfl hb (by simp [actC]))⟩
  have s0 : eLd tb 3 (.ptr M.next 0) M9 = some (.val (.int .i64 a.do'), M9) := eLd_some (ld_cell ty3 rfl hb9 rfl)
  obtain ⟨p9, n9, l9, b9, c9⟩ := ld hb9
  refine bindO_i s0 ?_
  simp only [zI_int]
  refine condB_i (fun _ => ?_) (fun _ => condB_i (fun _ => ?_) (fun _ => condB_i (fun _ => ?_) (fun _ => condB_i (fun _ => ?_) (fun _ => condB_i (fun _ => ?_) (fun _ => ?_)))))
  · -- a page is read
    refine bindO_i p9 ?_
    refine ⟨_, _, rfl, ?_⟩
    refine (c_read M9 h9.wf p C h9.c a.b a.k).mono ?_
    rintro y M16 ⟨u, rfl, hu, hfu, s16⟩
    refine ⟨u, _, rfl, ?_⟩
    obtain ⟨h16, f16⟩ := h9.cstep s16
    obtain ⟨r1, r2, r3⟩ := alike_rd ha hn a.b a.k
    have hb16 := f16 _ _ (.inr (by simp)) hb9
    obtain ⟨p16, _⟩ := ld hb16
    refine bindO_i p16 ?_
    refine ⟨_, _, rfl, ?_⟩
    -- the answer's block is the law's own
    have huX : ∃ Y, Both M16 p (rdC C a.b a.k) r S F B Y ∧ (∀ c ∈ M.next :: X, c ∈ Y) ∧ (∀ c, onBlk u c → c ∈ Y ∧ M9.next ≤ c) := by
      rcases hu with ⟨rfl, _⟩ | ⟨b, hg⟩
      · exact ⟨_, h16, fun _ h => h, fun c hc => hc.elim⟩
      · have hin : inBlk u b := by rw [hg.1]; exact ⟨by have := hg.2.1; omega, rfl⟩
        have h1 := hfu b hin
        refine ⟨b :: M.next :: X, h9.cstepAdd s16 h1 (s16.wf _ _ hg.2.2.2), fun c hc => List.mem_cons_of_mem _ hc, fun c hc => ?_⟩
        rw [hg.1] at hc
        have hc : b = c := hc
        subst hc
        exact ⟨by simp, h1⟩
    obtain ⟨Y, h16Y, hYX, huY⟩ := huX
    refine (d_readV M16 h16.wf r S h16.d a.b a.k).mono ?_
    rintro y M23 ⟨u2, S2, rfl, hu2, hfu2, v2, s23⟩
    refine ⟨u2, _, rfl, ?_⟩
    obtain ⟨h23, f23⟩ := h16Y.dstep s23
    have hu23 : Gr M23 u (rdB C a.b a.k) := hu.mono fun c row hc hg => f23 c row (.inr (huY c (inBlk_on hc)).1) hg
    rw [← v2] at r3
    refine letP_i fun K34 hK34 => ?_
    have fin : K34 true M23 := by
      rw [hK34]
      clear hK34 K34
      have hul : (rdB C a.b a.k).length ≤ 1000000 := by
        unfold rdB
        split
        · split
          · rename_i B hB
            unfold pageB
            have := h.c.may
            have hm := mayG_iff.1 this
            rw [List.length_take]
            unfold rawN; omega
          · simp
        · simp
      refine (over_gr M23 h23.wf u _ hu23 hul).mono ?_
      rintro y M36 hov
      have hX36 : Both M36 p (rdC C a.b a.k) r S2 F B Y ∧ Fr M23 M36 F X := by
        rcases hu23 with ⟨rfl, _⟩ | ⟨b, hg⟩
        · have k : Keep M23 M36 [] := ⟨hov.wf, hov.nxt, fun c hc _ => hov.old c hc (fun h => h.elim)⟩
          exact ⟨h23.keep k, Fr.keep h23.wf k⟩
        · have hon : ∀ c, onBlk u c ↔ b = c := fun c => by rw [hg.1]; exact Iff.rfl
          have k : Keep M23 M36 [b] := ⟨hov.wf, hov.nxt, fun c hc hne => hov.old c hc (fun hm => hne (by rw [(hon c).1 hm]; simp))⟩
          obtain ⟨hbY, hb9'⟩ := huY b ((hon b).2 rfl)
          refine ⟨h23.keepX hbY k, fun c row hc hgc => k.get h23.wf hgc (fun hm => ?_)⟩
          simp only [List.mem_singleton] at hm
          subst hm
          rcases hc with hc | hc
          · have := (h23.xr c hbY).1; have := h.fb; omega
          · have := (h9.xr c (tl c hc)).2; omega
      exact ⟨by trivial, _, _, hX36.1.drop (fun c hc => hYX c (tl c hc)), r3, f9.trans ((f16.mono tl).trans ((f23.mono (fun c hc => hYX c (tl c hc))).trans hX36.2)), s16.g, s16.fs⟩
    refine (same_bytes M23 u u2 _ _ hu23.at hu2.at ?_).mono ?_
    · have : rdB C a.b a.k = rdVB (vw S) a.b a.k := r2
      unfold rdB
      split
      · split
        · unfold pageB
          have hm := mayG_iff.1 h.c.may
          rw [List.length_take]
          unfold rawN; omega
        · simp
      · simp
    rintro y M27 ⟨rfl, rfl⟩
    rw [r2, decide_eq_true rfl]
    simp only [zB_bool, condB_true]
    refine (l_num M27 _).mono ?_
    rintro y M30 ⟨rfl, rfl⟩
    simp only [zI_int]
    rw [r1, beq_self_eq_true]
    exact fin
  · -- a page is programmed
    refine bindO_i n9 ?_
    simp only [zI_int]
    refine bindO_i l9 ?_
    simp only [zI_int]
    refine (l_bytes M9 h9.wf a.n hao).mono ?_
    rintro y41 M42 ⟨hy41, hk42, _⟩
    have h42 := h9.keep hk42
    have f42 : Fr M9 M42 F (M.next :: X) := Fr.keep h9.wf hk42
    have hpl := patZ_len a.n a.len
    generalize hd : patZ a.n a.len = d at *
    refine (lend M42 y41 d h42.wf hy41 (by omega)).mono ?_
    rintro y43 M44 ⟨rfl, hM44⟩
    have hk44 : Keep M42 M44 [] := by rw [hM44]; exact Keep.new h42.wf _
    have hg44 : M44.get M42.next = some (.cells (lent d) true) := by rw [hM44]; exact get_new _ _
    clear hM44
    have h44 : Both M44 p C r S F B (M42.next :: M.next :: X) := h42.add hk44 (Nat.le_refl _) (hk44.wf _ _ hg44)
    have f44 : Fr M42 M44 F (M.next :: X) := Fr.keep h42.wf hk44
    generalize hb : M42.next = b at *
    have hb44 := f44 _ _ (.inr (by simp)) (f42 _ _ (.inr (by simp)) hb9)
    obtain ⟨p44, _⟩ := ld hb44
    refine bindO_i p44 ?_
    refine ⟨_, _, rfl, ?_⟩
    have hbB : B ≤ b := (h44.xr b (by simp)).1
    refine (c_program M44 h44.wf p C h44.c a.b a.k _ d (lent_at hg44) (by omega) (fun c hc hm => by
      have hc : b = c := hc.2
      have := (h44.cr c hm).2
      omega)).mono ?_
    rintro y M49 ⟨rfl, s49⟩
    obtain ⟨h49, f49⟩ := h44.cstep s49
    obtain ⟨r1, r3⟩ := alike_pg ha hn a.b a.k d
    have hb49 := f49 _ _ (.inr (by simp)) hb44
    have hg49 := f49 _ _ (.inr (by simp)) hg44
    obtain ⟨p49, n49, l49, _⟩ := ld hb49
    simp only [i64, zI_int]
    refine bindO_i p49 ?_
    refine ⟨_, _, rfl, ?_⟩
    refine bindO_i n49 ?_
    simp only [zI_int]
    refine bindO_i l49 ?_
    simp only [zI_int]
    refine (l_bytes M49 h49.wf a.n hao).mono ?_
    rintro y58 M59 ⟨hy58, hk59, hf58⟩
    rw [hd] at hy58
    have h59 := h49.keep hk59
    have f59 : Fr M49 M59 F (b :: M.next :: X) := Fr.keep h49.wf hk59
    have hb59 := f59 _ _ (.inr (by simp)) hb49
    have hg59 := f59 _ _ (.inr (by simp)) hg49
    refine ⟨bindO_i (ld hb59).1 rfl, ?_⟩
    refine (d_programV M59 h59.wf r S h59.d a.b a.k y58 d hy58 (by omega) (fun c hc hm => by
      have h1 := hf58 c hc
      have h2 := h49.dlt.1 c hm
      omega)).mono ?_
    rintro y M62 ⟨S2, rfl, v2, s62⟩
    obtain ⟨h62, f62⟩ := h59.dstep s62
    rw [← v2] at r3
    have hb62 := f62 _ _ (.inr (by simp)) hb59
    have hg62 := f62 _ _ (.inr (by simp)) hg59
    simp only [i64, zI_int]
    refine letP_i fun K78 hK78 => ?_
    refine (l_num M62 _).mono ?_
    rintro y M65 ⟨rfl, rfl⟩
    simp only [zI_int]
    rw [r1, beq_self_eq_true, condB_true]
    obtain ⟨_, n65, l65, _⟩ := ld hb62
    refine bindO_i n65 ?_
    simp only [zI_int]
    refine bindO_i l65 ?_
    simp only [zI_int]
    refine (l_bytes M65 h62.wf a.n hao).mono ?_
    rintro y71 M72 ⟨hy71, hk72, _⟩
    rw [hd] at hy71
    have h72 := h62.keep hk72
    have f72 : Fr M65 M72 F (b :: M.next :: X) := Fr.keep h62.wf hk72
    have hg72 := f72 _ _ (.inr (by simp)) hg62
    refine (kept M72 b y71 d d hg72 hy71 (by omega)).mono ?_
    rintro y M74 ⟨rfl, rfl⟩
    simp only [zB_bool]
    rw [show decide True = true from rfl, hK78]
    refine (over_lent M74 h72.wf b d hg72 (by omega)).mono ?_
    rintro y M80 hov
    have k : Keep M74 M80 [b] := ⟨hov.wf, hov.nxt, fun c hc hne => hov.old c hc (fun hm => hne (by have hm : b = c := hm; rw [hm]; simp))⟩
    have h80 := h72.keepX (b := b) (by simp) k
    have tl2 : ∀ c ∈ X, c ∈ b :: M.next :: X := fun c hc => List.mem_cons_of_mem _ (tl c hc)
    refine ⟨by trivial, _, _, h80.drop tl2, r3, f9.trans ((f42.mono tl).trans ((f44.mono tl).trans ((f49.mono tl2).trans ((f59.mono tl2).trans ((f62.mono tl2).trans ((f72.mono tl2).trans ?_)))))), s49.g, s49.fs⟩
    intro c row hc hgc
    refine k.get h72.wf hgc (fun hm => ?_)
    simp only [List.mem_singleton] at hm
    subst hm
    rcases hc with hc | hc
    · have := h.fb; omega
    · have := (h42.xr c (tl c hc)).2; omega
  · -- a block is erased
    refine bindO_i b9 ?_
    simp only [zI_int]
    refine bindO_i b9 ?_
    simp only [zI_int]
    refine (c_erase M9 h9.wf p C h9.c a.b).mono ?_
    rintro y M86 ⟨rfl, s86⟩
    obtain ⟨h86, f86⟩ := h9.cstep s86
    obtain ⟨r1, r3⟩ := alike_ers ha hn a.b
    have hb86 := f86 _ _ (.inr (by simp)) hb9
    obtain ⟨_, _, _, b86, _⟩ := ld hb86
    simp only [i64, zI_int]
    refine ⟨bindO_i b86 rfl, ?_⟩
    refine (l_num M86 _).mono ?_
    rintro y M90 ⟨rfl, rfl⟩
    simp only [zI_int]
    refine ⟨bindO_i b86 rfl, ?_⟩
    refine (d_erase M90 h86.wf r S h86.d a.b).mono ?_
    rintro y M94 ⟨S2, rfl, v2, s94⟩
    obtain ⟨h94, f94⟩ := h86.dstep s94
    rw [← v2] at r3
    simp only [i64, zI_int]
    rw [r1, beq_self_eq_true]
    exact ⟨by trivial, _, _, h94.drop tl, r3, f9.trans ((f86.mono tl).trans (f94.mono tl)), s86.g, s86.fs⟩
  · -- a cut waits
    refine bindO_i c9 ?_
    refine ⟨_, _, _, rfl, ?_⟩
    refine bindO_i c9 ?_
    refine ⟨_, _, _, rfl, ?_⟩
    refine (c_arm M9 h9.wf p C h9.c a.op a.by' a.f).mono ?_
    rintro y M86 ⟨rfl, s86⟩
    obtain ⟨h86, f86⟩ := h9.cstep s86
    obtain ⟨r1, r3⟩ := alike_arm ha hn a.op a.by' a.f
    have hb86 := f86 _ _ (.inr (by simp)) hb9
    obtain ⟨_, _, _, _, c86⟩ := ld hb86
    simp only [i64, zI_int]
    refine ⟨bindO_i c86 rfl, ?_⟩
    refine (l_num M86 _).mono ?_
    rintro y M90 ⟨rfl, rfl⟩
    simp only [zI_int]
    refine ⟨bindO_i c86 rfl, ?_⟩
    refine (d_arm M90 h86.wf r S h86.d a.op a.by' a.f).mono ?_
    rintro y M94 ⟨S2, rfl, v2, s94⟩
    obtain ⟨h94, f94⟩ := h86.dstep s94
    rw [← v2] at r3
    simp only [i64, zI_int]
    rw [r1, beq_self_eq_true]
    exact ⟨by trivial, _, _, h94.drop tl, r3.mono (by omega), f9.trans ((f86.mono tl).trans (f94.mono tl)), s86.g, s86.fs⟩
  · -- power again
    refine (c_boot M9 h9.wf p C h9.c).mono ?_
    rintro y M86 ⟨rfl, s86⟩
    obtain ⟨h86, f86⟩ := h9.cstep s86
    obtain ⟨r1, r3⟩ := alike_boot ha
    simp only [i64, zI_int]
    refine (l_num M86 _).mono ?_
    rintro y M90 ⟨rfl, rfl⟩
    simp only [zI_int]
    refine (d_boot M90 h86.wf r S h86.d).mono ?_
    rintro y M94 ⟨S2, rfl, v2, s94⟩
    obtain ⟨h94, f94⟩ := h86.dstep s94
    rw [← v2] at r3
    simp only [i64, zI_int]
    rw [r1, beq_self_eq_true]
    exact ⟨by trivial, _, _, h94.drop tl, r3.mono (by omega), f9.trans ((f86.mono tl).trans (f94.mono tl)), s86.g, s86.fs⟩
  · exact ⟨by trivial, _, _, h9.drop tl, ha.mono (by omega), f9, rfl, rfl⟩

end Go.Proofs.Ytjffimbigamadaa

/- What is told of both. -/
namespace Go.Proofs.Ytjffimbigamadaa
open Go.AM

theorem ne_bool (xo yo : Operand) (a b : Bool) (M : Mem) : eBin tb .neq 4 xo yo (.val (.bool a)) (.val (.bool b)) M = some (.val (.bool (a != b)), M) := by
  refine eBin_some ?_
  cases a <;> cases b <;> kernel_rfl
theorem eq_bool (xo yo : Operand) (a b : Bool) (M : Mem) : eBin tb .eql 4 xo yo (.val (.bool a)) (.val (.bool b)) M = some (.val (.bool (a == b)), M) := by
  refine eBin_some ?_
  cases a <;> cases b <;> kernel_rfl

theorem eqA_int (n : Nat) (a b : Int) : eqA tb (n + 1) 3 (i64 a) (i64 b) = some (a == b) := by
  unfold eqA
  rw [ty3]
  rfl
theorem eqA_geo (n : Nat) (g : Geo) : eqA tb (n + 2) 23 (geoA g) (geoA g) = some true := by
  show (match tb.ty.get 23 with | none => none | some ti => _) = _
  rw [ty23]
  show eqFs (eqA tb (n + 1)) [(0, 1, false), (1, 1, false), (2, 1, false), (3, 1, false), (4, 1, false)] [3, 3, 3, 3, 3] (geoC g) (geoC g) = _
  have h0 : partA (0, 1, false) (geoC g) = some (i64 g.bl) := rfl
  have h1 : partA (1, 1, false) (geoC g) = some (i64 g.pg) := rfl
  have h2 : partA (2, 1, false) (geoC g) = some (i64 g.by') := rfl
  have h3 : partA (3, 1, false) (geoC g) = some (i64 g.sp) := rfl
  have h4 : partA (4, 1, false) (geoC g) = some (i64 g.tr) := rfl
  simp only [eqFs, h0, h1, h2, h3, h4, eqA_int, beq_self_eq_true]
theorem eq_geo (xo yo : Operand) (g : Geo) (M : Mem) : eBin tb .eql 23 xo yo (geoA g) (geoA g) M = some (.val (.bool true), M) := by
  refine eBin_some ?_
  show (match tb.ty.get 23 with | some ti => (match ti.eqf with | some _ => eqRes .eql (eqA tb 60 23 (geoA g) (geoA g)) | none => none) | none => none) = _
  rw [ty23]
  simp only [eqA_geo]
  rfl

theorem geo_st {M : Mem} {b : Nat} {cs : List AV} (g : Geo) (hg : M.get b = some (.cells cs true)) (hl : cs.length = 5) : eSt tb 23 (.ptr b 0) (geoA g) M = some (undefA, M.put b (.cells (geoC g) true)) :=
  eSt_some (st_all ty23 rfl hg hl (by intro v hv; simp only [geoC, List.mem_cons, List.not_mem_nil, or_false] at hv; rcases hv with rfl | rfl | rfl | rfl | rfl <;> rfl))
theorem geo_res {M : Mem} {b : Nat} {g : Geo} (hg : M.get b = some (.cells (geoC g) true)) : eRes tb [.c 23 (.ptr b 0)] M = some (geoA g) := by
  have l := (geo_ld hg).2.2.2.2.2
  unfold eRes resC resC
  simp only [l, Option.map_some]

theorem c_geo (M : Mem) (hw : M.WF) (p : Nat) (C : Chip) (h : ChipAt M p C) : CallA tb.P 36 [.ptr p 0] M fun y N => y = geoA C.g ∧ Keep M N [] := by
  refine F36_ok ?_
  unfold F36
  refine letP_i fun M1 hM1 => ?_
  subst hM1
  have hK := Keep.new hw (.cells [i64 0, i64 0, i64 0, i64 0, i64 0] true)
  have hg := get_new M (.cells [i64 0, i64 0, i64 0, i64 0, i64 0] true)
  have h1 := h.keep hw hK
  have lg := ld_g h1
  simp only [i64] at lg h1 hg hK
  simp only [nil_eq, bindO_some, zB_bool, condB_false, eNil_ptr, fa0, zP_ptr, lg]
  refine ⟨_, _, _, _, _, rfl, ?_⟩
  refine bindO_i (geo_st C.g hg rfl) ?_
  refine bindO_i (geo_res (g := C.g) (by rw [Mem.get_put, if_pos rfl])) ?_
  refine ⟨by trivial, ?_⟩
  rw [Mem.new_put]
  exact Keep.new hw _

/-- All faults are of blocks that there are. -/
def RngF (C : Chip) : Prop := ∀ f ∈ C.fs, 0 ≤ f.blk ∧ f.blk < C.g.bl
theorem rng_of_mayP {g : Geo} {fs : List Flt} (h : mayP g fs = true) : ∀ f ∈ fs, 0 ≤ f.blk ∧ f.blk < g.bl := by
  unfold mayP at h
  rw [Bool.and_eq_true, List.all_eq_true] at h
  intro f hf
  obtain ⟨i, hi, rfl⟩ := List.getElem_of_mem hf
  have h1 := h.2 i (List.mem_range.2 hi)
  rw [List.getD_eq_getElem?_getD, List.getElem?_eq_getElem hi] at h1
  unfold okF at h1
  simp only [Option.getD_some, Bool.not_eq_true', Bool.or_eq_false_iff, decide_eq_false_iff_not] at h1
  omega

theorem badR_none {C : Chip} (h : RngF C) {b : Int} (hb : ¬ (0 ≤ b ∧ b < C.g.bl)) : badR C.fs b = false := by
  unfold badR
  rw [List.any_eq_false]
  intro f hf
  have := h f hf
  have hne : ¬ f.blk = b := fun e => by rw [e] at this; exact hb this
  simp [hne]

theorem r_same {M : Mem} {p : Nat} {C : Chip} {r : Nat} {S : DocS} {F B n : Nat} {X : List Nat} (h : Both M p C r S F B X) (ha : Alike n C (vw S)) (hr : RngF C) :
    CallA tb.P 35 [.ptr p 0, .ptr r 0] M fun y N => y = .val (.bool true) ∧ Keep M N [] := by
  refine F35_ok ?_
  unfold F35
  have hm := mayG_iff.1 ha.may
  have hlen := ha.len
  have eg : S.d.g = C.g := ha.g
  have efs : S.fs = C.fs := ha.fs
  have eo : S.d.ops = C.ops := ha.ops
  have ec : S.d.cuts = C.cuts := ha.cuts
  have eoff : S.d.off = C.off := ha.off
  refine ⟨fun z m P => ∃ t : Nat, z = (t : Int) - 1 ∧ m = C.g.bl.toNat + 2 - t ∧ t ≤ C.g.bl.toNat + 2 ∧ Keep M P [], ⟨C.g.bl.toNat + 2, 0, rfl, rfl, Nat.zero_le _, Keep.refl h.wf⟩, ?_⟩
  rintro _ z m P ⟨t, rfl, rfl, ht, hkP⟩
  have hP := h.keep hkP
  have hd := hP.d
  have l0 : eLd tb 3 (.ptr r 0) P = some (.val (.int .i64 C.g.bl), P) := by rw [← eg]; exact eLd_some (ld_cell ty3 rfl hd.main rfl)
  simp only [eNil_ptr, bindO_some, ra0, zP_ptr, l0, zI_int]
  generalize hz : (t : Int) - 1 = z at *
  refine condB_i (fun hlt => ?_) (fun hge => ?_)
  · have hlt : z ≤ C.g.bl := by simpa using hlt
    refine letP_i fun K75 hK75 => ?_
    have key : ∀ (w u : Int) (q : Bool), w = wearOf C z → u = usedOf C z → q = badF C.fs z → failed C z = flD S z → K75 w u q P := by
      intro w u q hw hu hq hf
      rw [hK75]
      clear hK75 K75
      refine letP_i fun K97 hK97 => ?_
      have fin : ∀ N, Keep M N [] → K97 false N := by
        intro N hk
        rw [hK97]
        simp only [condB_false]
        exact ⟨C.g.bl.toNat + 2 - (t + 1), by omega, t + 1, by rw [iAdd, wrap_i64' (by omega) (by omega)]; omega, rfl, by omega, hk⟩
      refine (c_wear P hkP.wf p C hP.c z).mono ?_
      rintro y M77 ⟨rfl, hk77⟩
      simp only [i64, zI_int]
      rw [hw, bne_self_eq_false, condB_false]
      have h77 := hP.keep hk77
      refine (c_used M77 hk77.wf p C h77.c z).mono ?_
      rintro y M80 ⟨rfl, hk80⟩
      simp only [i64, zI_int]
      rw [hu, bne_self_eq_false, condB_false]
      have h80 := h77.keep hk80
      refine (c_failed M80 hk80.wf p C h80.c z).mono ?_
      rintro y M83 ⟨rfl, hk83⟩
      have h83 := h80.keep hk83
      simp only [zB_bool]
      refine (d_fails M83 r S h83.d z).mono ?_
      rintro y M86 ⟨rfl, rfl⟩
      simp only [zB_bool]
      rw [ne_bool, bindO_some, hf, bne_self_eq_false]
      simp only [zB_bool, condB_false]
      refine (c_badOf M86 hk83.wf p C h83.c z).mono ?_
      rintro y M91 ⟨rfl, hk91⟩
      simp only [zB_bool]
      rw [ne_bool, bindO_some, hq, bne_self_eq_false]
      simp only [zB_bool]
      exact fin M91 (hkP.trans0 (hk77.trans0 (hk80.trans0 (hk83.trans0 hk91))))
    refine (d_there P r S hd z).mono ?_
    rintro y M13 ⟨rfl, rfl⟩
    simp only [zB_bool]
    have eth : thD S z = true ↔ (0 ≤ z ∧ z < C.g.bl) := by
      unfold thD
      rw [Bool.and_eq_true, decide_eq_true_eq, decide_eq_true_eq, eg]
    refine condB_i (fun hth => ?_) (fun hth => ?_)
    · have hin := eth.1 hth
      obtain ⟨i, rfl⟩ : ∃ i : Nat, z = (i : Int) := ⟨z.toNat, by omega⟩
      have hi : i < C.bs.length := by omega
      obtain ⟨n1, n2, n3⟩ := ha.num hi
      have hwr : i < S.wr.length := by rw [hd.wrl, eg]; omega
      have hnx : i < S.nx.length := by rw [hd.nxl, eg]; omega
      obtain ⟨x1, x2⟩ := int_at hd.wrs hwr
      obtain ⟨x3, x4⟩ := int_at hd.nxs hnx
      simp only [i64] at x2 x4
      have ew : S.wr[i] = C.bs[i].wear := by
        have : S.wr[i]? = some C.bs[i].wear := n3
        rw [List.getElem?_eq_getElem hwr] at this
        exact Option.some.inj this
      have ex : S.nx[i] = C.bs[i].next := by
        have : S.nx[i]? = some C.bs[i].next := n2
        rw [List.getElem?_eq_getElem hnx] at this
        exact Option.some.inj this
      simp only [eNil_ptr, bindO_some, ra4, ra3, ra1, zP_ptr, hd.dwr, hd.dnx, x1, x2, x3, x4, zI_int, hd.dfs]
      have hwear : wearOf C (i : Int) = C.bs[i].wear := by unfold wearOf; rw [if_pos (by omega), Int.toNat_natCast, List.getElem?_eq_getElem hi]
      have hused : usedOf C (i : Int) = C.bs[i].next := by unfold usedOf; rw [if_pos (by omega), Int.toNat_natCast, List.getElem?_eq_getElem hi]
      have hfl : failed C (i : Int) = flD S (i : Int) := by
        unfold failed flD
        rw [hth, decide_eq_true (by omega), Int.toNat_natCast, List.getElem?_eq_getElem hi]
        have : S.dn[i]? = some C.bs[i].done := n1
        rw [this, efs]
        simp only [Bool.true_and]
        exact (fails_alike ha.ap _ _).symm
      have hfl8 : S.fs.length ≤ 8 := hd.fsl
      refine ⟨fun b k m P' => ∃ j : Nat, k = j ∧ m = S.fs.length - j ∧ j ≤ S.fs.length ∧ P' = M13 ∧ b = badR (S.fs.take j) (i : Int), ⟨S.fs.length, 0, rfl, rfl, Nat.zero_le _, rfl, rfl⟩, ?_⟩
      rintro _ b k m P' ⟨j, rfl, rfl, hj, rfl, rfl⟩
      simp only [hd.dfs, bindO_some]
      refine bindO_i (eLen_some hd.flt.len) ?_
      simp only [zI_int]
      refine condB_i (fun hjl => ?_) (fun hjg => ?_)
      · have hjl : j < S.fs.length := by simpa using hjl
        refine letP_i fun K69 hK69 => ?_
        have nxt : ∀ q : Bool, q = badR (S.fs.take (j + 1)) (i : Int) → K69 q := by
          intro q hq
          rw [hK69]
          exact ⟨S.fs.length - (j + 1), by omega, j + 1, iInc (by omega), rfl, hjl, by trivial, hq⟩
        have hstep : badR (S.fs.take (j + 1)) (i : Int) = (badR (S.fs.take j) (i : Int) || ((S.fs[j].blk == (i : Int)) && S.fs[j].fac)) := by
          unfold badR
          rw [List.take_add_one, List.getElem?_eq_getElem hjl, List.any_append]
          simp
        obtain ⟨bb, oo, f1, f2, f3, _⟩ := hd.flt.fields hjl
        refine condB_i (fun hb => nxt true (by rw [hstep, hb]; rfl)) (fun hb => ?_)
        rw [hb, Bool.false_or] at hstep
        refine bindO_i (eIA_some f1) ?_
        simp only [zP_ptr]
        refine bindO_i (eLd_some f2) ?_
        simp only [i64, zI_int]
        refine condB_i (fun he => ?_) (fun he => nxt false (by rw [hstep, he]; rfl))
        refine bindO_i (eIA_some f1) ?_
        simp only [zP_ptr]
        refine bindO_i (eLd_some f3) ?_
        simp only [zB_bool]
        exact nxt _ (by rw [hstep, he]; rfl)
      · have hjg : j = S.fs.length := by have : ¬ (j : Int) < S.fs.length := by simpa using hjg
                                         omega
        refine key _ _ _ (by rw [hwear, ew]) (by rw [hused, ex]) ?_ hfl
        rw [hjg, List.take_length, efs]
        exact bad_alike ha.ap _
    · have hno : ¬ (0 ≤ z ∧ z < C.g.bl) := fun hh => by rw [eth.2 hh] at hth; cases hth
      have hnone : 0 ≤ z → C.bs[z.toNat]? = none := fun h0 => List.getElem?_eq_none (by omega)
      refine key 0 0 false ?_ ?_ ?_ ?_
      · unfold wearOf
        split
        · rename_i h0; rw [hnone h0]
        · rfl
      · unfold usedOf
        split
        · rename_i h0; rw [hnone h0]
        · rfl
      · rw [← bad_alike ha.ap, badR_none hr hno]
      · unfold failed flD
        rw [hth]
        by_cases h0 : 0 ≤ z
        · rw [decide_eq_true h0, hnone h0]; rfl
        · rw [decide_eq_false h0]; rfl
  · refine letP_i fun K153 hK153 => ?_
    have l1 : ∀ {N : Mem}, DocAt N r S → eLd tb 3 (.ptr r 10) N = some (.val (.int .i64 C.ops), N) := fun hN => by rw [← eo]; exact rd_ops hN.main
    have l2 : ∀ {N : Mem}, DocAt N r S → eLd tb 3 (.ptr r 11) N = some (.val (.int .i64 C.cuts), N) := fun hN => by rw [← ec]; exact rd_cuts hN.main
    have l3 : ∀ {N : Mem}, DocAt N r S → eLd tb 4 (.ptr r 12) N = some (.val (.bool C.off), N) := fun hN => by rw [← eoff]; exact rd_off hN.main
    simp only [ra6, bindO_some, zP_ptr, l1 hd, zI_int]
    refine (c_ops P hkP.wf p C hP.c).mono ?_
    rintro y M106 ⟨rfl, rfl⟩
    simp only [i64, zI_int]
    refine ⟨bindO_i (l1 hd) rfl, ?_⟩
    rw [beq_self_eq_true, condB_true]
    simp only [ra7, bindO_some, zP_ptr, l2 hd, zI_int]
    refine (c_cuts M106 hkP.wf p C hP.c).mono ?_
    rintro y M116 ⟨rfl, rfl⟩
    simp only [i64, zI_int]
    refine ⟨bindO_i (l2 hd) rfl, ?_⟩
    rw [beq_self_eq_true, condB_true]
    simp only [ra8, bindO_some, zP_ptr, l3 hd, zB_bool]
    refine (c_on M116 hkP.wf p C hP.c).mono ?_
    rintro y M126 ⟨rfl, rfl⟩
    simp only [zB_bool]
    refine ⟨bindO_i (l3 hd) rfl, ?_⟩
    rw [eq_bool, bindO_some, beq_self_eq_true]
    simp only [zB_bool, condB_true]
    have lg : ∀ {N : Mem}, DocAt N r S → eLd tb 23 (.ptr r 0) N = some (geoA C.g, N) := fun hN => by rw [← eg]; exact hN.dg
    simp only [ra0, bindO_some, zP_ptr, lg hd]
    refine ⟨_, _, _, _, _, rfl, ?_⟩
    refine (c_geo M126 hkP.wf p C hP.c).mono ?_
    rintro y M142 ⟨rfl, hk142⟩
    refine ⟨_, _, _, _, _, rfl, ?_⟩
    have h142 := hP.keep hk142
    refine ⟨bindO_i (lg h142.d) rfl, ?_⟩
    refine bindO_i (eq_geo _ _ C.g M142) ?_
    simp only [zB_bool]
    rw [hK153]
    exact ⟨by trivial, hkP.trans0 hk142⟩

end Go.Proofs.Ytjffimbigamadaa
