import Derived.Test.YtjffimbigamadaaG14
import Derived.Test.YtjffimbigamadaaH8
set_option linter.unusedSimpArgs false
set_option linter.unusedVariables false
set_option linter.unusedSectionVars false
/- Bytes behind a slice: append of noughts; the laws' raw pages. -/
namespace Go.Proofs.Ytjffimbigamadaa
open Go.AM

structure Put where
  b : Int
  k : Int
  n : BitVec 8
  t : Tg
  torn : Int
def putC (x : Put) : List AV := [i64 x.b, i64 x.k, bv8 x.n, i64 x.t.k, i64 x.t.p, i64 x.t.s, i64 x.t.e, i64 x.torn]
theorem putC_len (x : Put) : (putC x).length = 8 := rfl
def PutsAt (M : Mem) (x : AV) (xs : List Put) : Prop := SlAt 8 M x xs.length (xs.flatMap putC)
theorem ty65 : tb.ty.get 65 = some ⟨.sli 133, 1, 24, [.slice none 0 0], none⟩ := by kernel_rfl
theorem ty133 : ∃ ti, tb.ty.get 133 = some ti ∧ ti.size = 8 ∧ ti.isAgg = true := by
  have h : (tb.ty.get 133).map (fun t => (t.size, t.isAgg)) = some (8, true) := by kernel_rfl
  cases h' : tb.ty.get 133 with
  | none => rw [h'] at h; cases h
  | some ti =>
    rw [h'] at h
    simp only [Option.map_some, Option.some.injEq, Prod.mk.injEq] at h
    exact ⟨ti, rfl, h.1, h.2⟩
theorem PutsAt.len {M M' : Mem} {x : AV} {xs : List Put} (h : PutsAt M x xs) : evLenCap tb false 65 x M' = some xs.length := SlAt.len h ty65 rfl
/-- An element, and its place. -/
theorem PutsAt.at {M : Mem} {x : AV} {xs : List Put} (h : PutsAt M x xs) {i : Nat} (hi : i < xs.length) :
    ∃ b o, evIndexAddr tb 65 x (.val (.int .i64 (i : Int))) = some (.ptr b o) ∧ evLoad tb 133 (.ptr b o) M = some (.agg (putC xs[i])) ∧ evLoad tb 30 (.ptr b o) M = some (placeA xs[i].b xs[i].k) := by
  obtain ⟨ti, h1, h2, h3⟩ := ty133
  obtain ⟨b, o, g1, g2⟩ := SlAt.ldAgg h ty65 rfl h1 h2 h3 hi (k' := .i64)
  obtain ⟨b', o', g3, _, g5, g6⟩ := SlAt.at h ty65 rfl h1 h2 hi (k' := .i64)
  rw [g1] at g3
  injection g3 with g3
  injection g3 with e1 e2
  subst e1 e2
  rw [flat_at putC_len hi] at g2
  refine ⟨b, o, g1, g2, ?_⟩
  have hl := flat_at putC_len hi
  have hce : M.cellsAt b o 2 = some [i64 xs[i].b, i64 xs[i].k] := by
    have hc := g6
    unfold Mem.cellsAt at hc ⊢
    split at hc
    · rename_i cs rw' hg
      rw [cond_eq_ite] at hc
      split at hc
      · rename_i hle
        have hle : o + 8 ≤ cs.length := Nat.le_of_ble_eq_true hle
        rw [ble_of (show o + 2 ≤ cs.length by omega), cond_true]
        injection hc with hc
        rw [hl] at hc
        have : (cs.drop o).take 2 = ((cs.drop o).take 8).take 2 := by rw [List.take_take]; rfl
        rw [this, hc]
        rfl
      · cases hc
    · cases hc
  unfold evLoad
  rw [ty30]
  simp only [hce, Option.map_some]
  rfl

theorem isInt3 : isInt tb 3 = some true := by unfold isInt; rw [ty3]
/-- Sixteen noughts more, in another array. -/
theorem app_zeros {M : Mem} {b n : Nat} {l : List (BitVec 8)} (hn : l.length = n) (hg : M.get b = some (.cells (bvs l) true)) (hl : n ≤ 1000) :
    evAppend tb 33 3 (.sl b 0 n n none) (.val (.int .i64 16)) M = some (.sl M.next 0 (n + 16) (n + 16) (some 1), M.new (.cells (bvs (l ++ List.replicate 16 0#8)) true)) := by
  have hx : BytesAt M (.sl b 0 n n none) l := ⟨by simp, .inr ⟨b, 0, n, none, by rw [hn], ⟨by omega, .inl rfl⟩, .inr ⟨_, _, hg, by simp, by rw [List.drop_zero, List.take_of_length_le (by simp)]⟩⟩⟩
  have hf : AM.evFirst 1 n (.sl b 0 n n none) M = some (bvs l) := by
    have := SlAt.evFirst hx
    rw [hn] at this
    exact this
  unfold evAppend
  rw [ty33, isInt3]
  have e1 : decide ((1 : Int) ≤ 16) = true := by decide
  have e2 : decide ((16 : Int) ≤ 1000000) = true := by decide
  simp only [ty5, e1, e2, cond_true]
  have e3 : (16 : Int).toNat = 16 := rfl
  rw [e3, ble_not (show ¬ n + 16 ≤ n by omega), cond_false]
  have e4 : Nat.beq 1 0 = false := rfl
  rw [e4, cond_false]
  unfold evGrow roomy
  rw [ble_of (show (3 * (n + 16) + 4096) * 1 ≤ 281474976710656 by omega), ble_of (show n + 16 ≤ 1152921504606846976 by omega)]
  simp only [cond_true, hf, bvs_length, hn, Nat.mul_one, AM.beq_self]
  have e5 : repA 16 (ofVs [.int .u8 0]) = bvs (List.replicate 16 0#8) := rfl
  rw [e5, bvs_append]

/-- A raw page, as a law makes it. -/
def rawL (g : Geo) (x : Put) : List (BitVec 8) := if okL (List.replicate g.by'.toNat x.n) x.t.k x.t.p x.t.s x.t.e = true then laid (List.replicate g.by'.toNat x.n) x.t.k x.t.p x.t.s x.t.e else List.replicate g.by'.toNat x.n ++ List.replicate 16 0#8
def rawT (g : Geo) (x : Put) : Nat := if x.torn ≥ 0 then min x.torn.toNat (rawN g) else rawN g
def rawP (g : Geo) (x : Put) : List (BitVec 8) := (rawL g x).take (rawT g x) ++ List.replicate (rawN g - rawT g x) 255#8
theorem rawL_len {g : Geo} (h : mayG g = true) (x : Put) : (rawL g x).length = rawN g := by
  have hm := mayG_iff.1 h
  unfold rawL rawN
  split
  · rw [laid_length, List.length_replicate]; omega
  · rw [List.length_append, List.length_replicate, List.length_replicate]; omega
theorem rawT_le (g : Geo) (x : Put) : rawT g x ≤ rawN g := by unfold rawT; split <;> omega
theorem rawP_len {g : Geo} (h : mayG g = true) (x : Put) : (rawP g x).length = rawN g := by
  have := rawL_len h x
  have := rawT_le g x
  unfold rawP
  rw [List.length_append, List.length_take, List.length_replicate]; omega

theorem set_fill {α : Type} (a : α) {l : List α} {n q : Nat} (hn : n ≤ q) (h : q < l.length) : (l.take n ++ List.replicate (q - n) a ++ l.drop q).set q a = l.take n ++ List.replicate (q + 1 - n) a ++ l.drop (q + 1) := by
  have hl : (l.take n ++ List.replicate (q - n) a).length = q := by rw [List.length_append, List.length_take, List.length_replicate]; omega
  rw [List.set_append_right _ _ (by omega), hl, Nat.sub_self, ← List.getElem_cons_drop h, List.set_cons_zero, show q + 1 - n = (q - n) + 1 by omega, List.replicate_succ']
  simp only [List.append_assoc, List.singleton_append]

theorem l_raw (M : Mem) (hw : M.WF) (g : Geo) (h : mayG g = true) (x : Put) :
    CallA tb.P 90 [geoA g, .agg (putC x)] M fun y N => BytesAt N y (rawP g x) ∧ Keep M N [] ∧ ∀ c, inBlk y c → M.next ≤ c := by
  have hm := mayG_iff.1 h
  refine F90_ok ?_
  unfold F90
  refine ⟨_, _, _, _, _, rfl, _, _, _, _, _, _, _, _, rfl, ?_⟩
  refine letP_i fun M14 hM14 => ?_
  have hM14' : M14 = M.new (.cells (geoC g) true) := hM14
  have hk14 : Keep M M14 [] := by rw [hM14']; exact Keep.new hw _
  have hg14 : M14.get M.next = some (.cells (geoC g) true) := by rw [hM14']; exact get_new _ _
  clear hM14 hM14'
  refine letP_i fun M15 hM15 => ?_
  have hM15' : M15 = M14.new (.cells (putC x) true) := hM15
  have hk15 : Keep M14 M15 [] := by rw [hM15']; exact Keep.new hk14.wf _
  have hx15 : M15.get M14.next = some (.cells (putC x) true) := by rw [hM15']; exact get_new _ _
  clear hM15 hM15'
  have hg15 := hk15.get hk14.wf hg14 (by simp)
  have hK15 := hk14.trans0 hk15
  have hby : g.by' = ((g.by'.toNat : Nat) : Int) := by omega
  obtain ⟨n, hn⟩ : ∃ n, n = g.by'.toNat := ⟨_, rfl⟩
  rw [← hn] at hby
  have hn2 : 24 ≤ n ∧ n ≤ 64 := by omega
  have hrw : rawN g = n + 16 := by unfold rawN; omega
  have l2 : eLd tb 3 (.ptr M.next 2) M15 = some (.val (.int .i64 (n : Int)), M15) := by rw [← hby]; exact eLd_some (geo_ld hg15).2.2.1
  refine bindO_i l2 ?_
  simp only [zI_int]
  have hmk := make_sl (T := tb) (M := M15) ty33 rfl ty5 (l := n) (c := n) (by omega) (by simp only; omega) (by omega) (k1 := .i64) (k2 := .i64)
  simp only [ofVs, ofV, repA_one'] at hmk
  have hz : List.replicate n (AV.val (.int .u8 0)) = bvs (List.replicate n 0#8) := by simp [bvs, bv8]
  rw [hz] at hmk
  refine bindO_i hmk ?_
  dsimp only
  have hmn : M14.next < M15.next := hk15.wf _ _ hx15
  have hk18 := Keep.new hK15.wf (.cells (bvs (List.replicate n 0#8)) true)
  have hd18 := get_new M15 (.cells (bvs (List.replicate n 0#8)) true)
  have hx18 := hk18.get hK15.wf hx15 (by simp)
  generalize M15.new (.cells (bvs (List.replicate n 0#8)) true) = M18 at hk18 hd18 hx18 ⊢
  have hK18 := hK15.trans0 hk18
  generalize hb : M15.next = b at *
  have hlen : ∀ {P : Mem}, evLenCap tb false 33 (.sl b 0 n n none) P = some n := by
    intro P
    unfold evLenCap
    rw [ty33]
    rfl
  refine ⟨fun z q P => ∃ i : Nat, z = i ∧ q = n - i ∧ i ≤ n ∧ P.WF ∧ P.next = M18.next ∧ P.get b = some (.cells (bvs (List.replicate i x.n ++ (List.replicate n 0#8).drop i)) true) ∧ (∀ c, c ≠ b → P.get c = M18.get c), ⟨n, 0, rfl, rfl, Nat.zero_le _, hk18.wf, rfl, by simpa using hd18, fun _ _ => rfl⟩, ?_⟩
  rintro _ q1 q2 P ⟨i, rfl, rfl, hi, hwP, hnP, hdP, hoP⟩
  refine bindO_i (eLen_some hlen) ?_
  simp only [zI_int]
  have hxP : P.get M14.next = some (.cells (putC x) true) := by rw [hoP _ (by omega)]; exact hx18
  have hbP : b < P.next := hwP _ _ hdP
  refine condB_i (fun hlt => ?_) (fun hge => ?_)
  · have hlt : i < n := by simpa using hlt
    have ln : eLd tb 5 (.ptr M14.next 2) P = some (.val (.int .u8 (x.n.toNat : Int)), P) := eLd_some (ld_cell ty5 rfl hxP rfl)
    refine bindO_i ln ?_
    simp only [zI_int]
    refine bindO_i (ia_by hlt) ?_
    simp only [zP_ptr]
    have hst := cells_store hdP (i := i) (by simp; omega) x.n
    rw [fill_set x.n (by simpa using hlt)] at hst
    refine bindO_i (eSt_some hst) ?_
    refine ⟨n - (i + 1), by omega, i + 1, iInc (by omega), rfl, hlt, hwP.put hbP _, hnP, by rw [Mem.get_put, if_pos rfl], fun c hc => by rw [Mem.get_put, if_neg hc]; exact hoP c hc⟩
  have hge : i = n := by have : ¬ (i : Int) < n := by simpa using hge
                         omega
  subst hge
  rw [List.drop_of_length_le (by simp), List.append_nil] at hdP
  have hKP : Keep M P [] := ⟨hwP, by rw [hnP]; exact hK18.nxt, fun c hc _ => by rw [hoP c (by have := hK15.nxt; omega)]; exact hK18.old c hc (by simp)⟩
  have lt : eLd tb 76 (.ptr M14.next 3) P = some (tgA x.t, P) := eLd_some (ld_agg (n := 4) ty76 rfl rfl hxP (by simp [putC]))
  refine bindO_i lt ?_
  refine ⟨_, _, _, _, rfl, ?_⟩
  have hdat : BytesAt P (.sl b 0 i i none) (List.replicate i x.n) := ⟨by simp, .inr ⟨b, 0, i, none, by simp, ⟨by simp, .inl rfl⟩, .inr ⟨_, _, hdP, by simp, by rw [List.drop_zero, List.take_of_length_le (by simp)]⟩⟩⟩
  refine (t_reflay P hwP _ _ x.t.k x.t.p x.t.s x.t.e hdat (by simp; omega)).mono ?_
  rintro y M39 ⟨hk39, hres⟩
  have hxM39 : M39.get M14.next = some (.cells (putC x) true) := hk39.get hwP hxP (by simp)
  have hd39 := hk39.get hwP hdP (by simp)
  have hK39 := hKP.trans0 hk39
  -- what is left: the bytes behind are 255
  have tail : ∀ (N : Mem) (u : AV), Keep M N [] → N.get M14.next = some (.cells (putC x) true) → (∃ ub, Grown 1 N u (rawN g) (bvs (rawL g x)) ub ∧ M.next ≤ ub ∧ ub ≠ M14.next) →
      bindO (eLen tb false 33 u N) fun y46 => zI .i64 y46.1 fun z47 => letP (fun (z54 : Int) => ∃ J56 : Int → Nat → Mem → Prop, (∃ n57 : Nat, J56 z54 n57 N) ∧
        ∀ (_ : Nat → Option AV) (z58 : Int) (n59 : Nat) (M60 : Mem), J56 z58 n59 M60 →
        (bindO (eLen tb false 33 u M60) fun y61 => zI .i64 y61.1 fun z62 => condB (decide (z58 < z62)) (bindO (eIA tb 33 u (.val (.int .i64 z58)) M60) fun y63 => zP y63.1 fun p64 o65 => bindO (eSt tb 5 (.ptr p64 o65) (.val (.int .u8 255)) M60) fun y66 => ∃ k67 : Nat, k67 < n59 ∧
        (J56 (iAdd .i64 z58 1) k67 y66.2)) (BytesAt M60 u (rawP g x) ∧ Keep M M60 [] ∧ ∀ c, inBlk u c → M.next ≤ c))) fun K55 => bindO (eLd tb 3 (.ptr M14.next 7) N) fun y48 => zI .i64 y48.1 fun z49 => condB (decide (z49 ≥ (0 : Int))) (bindO (eLd tb 3 (.ptr M14.next 7) N) fun y50 => zI .i64 y50.1 fun z51 => bindO (eMin tb #[3, 3] 3 [.int .i64 z51, .int .i64 z47] N) fun y52 => zI .i64 y52.1 fun z53 => K55 z53) (K55 z47) := by
    intro N u hkN hxN hu
    obtain ⟨ub, hug, hub, hubx⟩ := hu
    have hLl := rawL_len h x
    have hulen : ∀ {P : Mem}, evLenCap tb false 33 u P = some (rawN g) := by
      intro P
      rw [hug.1]
      unfold evLenCap
      rw [ty33]
      rfl
    refine bindO_i (eLen_some hulen) ?_
    simp only [zI_int]
    refine letP_i fun K55 hK55 => ?_
    have go : K55 ((rawT g x : Nat) : Int) := by
      rw [hK55]
      clear hK55 K55
      have hT := rawT_le g x
      refine ⟨fun z q P => ∃ i : Nat, z = i ∧ q = rawN g - i ∧ rawT g x ≤ i ∧ i ≤ rawN g ∧ P.WF ∧ P.next = N.next ∧ P.get ub = some (.cells (bvs ((rawL g x).take (rawT g x) ++ List.replicate (i - rawT g x) 255#8 ++ (rawL g x).drop i)) true) ∧ (∀ c, c ≠ ub → P.get c = N.get c), ⟨rawN g - rawT g x, rawT g x, rfl, rfl, Nat.le_refl _, hT, hkN.wf, rfl, by rw [Nat.sub_self, List.replicate_zero, List.append_nil, List.take_append_drop]; exact hug.2.2.2, fun _ _ => rfl⟩, ?_⟩
      rintro _ q1 q2 P ⟨i, rfl, rfl, hTi, hi, hwP, hnP, hdP, hoP⟩
      refine bindO_i (eLen_some hulen) ?_
      simp only [zI_int]
      have hbP : ub < P.next := hwP _ _ hdP
      refine condB_i (fun hlt => ?_) (fun hge => ?_)
      · have hlt : i < rawN g := by simpa using hlt
        have hia : eIA tb 33 u (.val (.int .i64 (i : Int))) P = some (.ptr ub i, P) := eIA_some (grown_idx hug hlt)
        refine bindO_i hia ?_
        simp only [zP_ptr]
        have hll : ((rawL g x).take (rawT g x) ++ List.replicate (i - rawT g x) 255#8 ++ (rawL g x).drop i).length = rawN g := by
          simp only [List.length_append, List.length_take, List.length_replicate, List.length_drop]; omega
        have hst := cells_store hdP (i := i) (by omega) 255#8
        rw [set_fill 255#8 hTi (by omega)] at hst
        refine bindO_i (eSt_some hst) ?_
        exact ⟨rawN g - (i + 1), by omega, i + 1, iInc (by omega), rfl, by omega, hlt, hwP.put hbP _, hnP, by rw [Mem.get_put, if_pos rfl], fun c hc => by rw [Mem.get_put, if_neg hc]; exact hoP c hc⟩
      · have hge : i = rawN g := by have : ¬ (i : Int) < rawN g := by simpa using hge
                                    omega
        subst hge
        rw [List.drop_of_length_le (by omega), List.append_nil] at hdP
        have hPl := rawP_len h x
        refine ⟨?_, ⟨hwP, by rw [hnP]; exact hkN.nxt, fun c hc _ => by rw [hoP c (by omega)]; exact hkN.old c hc (by simp)⟩, fun c hc => ?_⟩
        · rw [hug.1]
          refine ⟨by rw [bvs_length]; omega, .inr ⟨ub, 0, _, some 1, by rw [hPl], ⟨by rw [hPl]; exact Nat.le_refl _, .inr rfl⟩, .inr ⟨_, _, hdP, ?_, ?_⟩⟩⟩
          · have hPe : (List.take (rawT g x) (rawL g x) ++ List.replicate (rawN g - rawT g x) 255#8) = rawP g x := rfl
            rw [hPe, bvs_length, hPl]; omega
          · have hPe : (List.take (rawT g x) (rawL g x) ++ List.replicate (rawN g - rawT g x) 255#8) = rawP g x := rfl
            rw [hPe, List.drop_zero, List.take_of_length_le (by rw [bvs_length]; omega)]
        · rw [hug.1] at hc
          have := hc.2
          omega
    have lt7 : eLd tb 3 (.ptr M14.next 7) N = some (.val (.int .i64 x.torn), N) := eLd_some (ld_cell ty3 rfl hxN rfl)
    refine bindO_i lt7 ?_
    simp only [zI_int]
    refine condB_i (fun ht => ?_) (fun ht => ?_)
    · have ht : x.torn ≥ 0 := by simpa using ht
      refine bindO_i lt7 ?_
      simp only [zI_int]
      have hmin : eMin tb #[3, 3] 3 [.int .i64 x.torn, .int .i64 ((rawN g : Nat) : Int)] N = some (.val (.int .i64 ((rawT g x : Nat) : Int)), N) := by
        have : eMin tb #[3, 3] 3 [.int .i64 x.torn, .int .i64 ((rawN g : Nat) : Int)] N = some (.val (.int .i64 (if ((rawN g : Nat) : Int) < x.torn then ((rawN g : Nat) : Int) else x.torn)), N) := rfl
        rw [this]
        unfold rawT
        rw [if_pos ht]
        congr 4
        split <;> omega
      refine bindO_i hmin ?_
      simp only [zI_int]
      exact go
    · have ht : ¬ x.torn ≥ 0 := by simpa using ht
      have : rawT g x = rawN g := by unfold rawT; rw [if_neg ht]
      rw [this] at go
      exact go
  have hMx : M.next ≤ M14.next := hk14.nxt
  have hrl : List.replicate g.by'.toNat x.n = List.replicate i x.n := by rw [hn]
  rcases hres with ⟨hok, u, rfl, hu, hfu⟩ | ⟨hno, rfl⟩
  · refine ⟨u, 0, rfl, ?_⟩
    refine letP_i fun K45 hK45 => ?_
    refine condB_i (fun h => by simp at h) (fun _ => ?_)
    rw [hK45]
    refine tail M39 u hK39 hxM39 ?_
    have eL : rawL g x = laid (List.replicate i x.n) x.t.k x.t.p x.t.s x.t.e := by unfold rawL; rw [hrl, if_pos hok]
    have hll : (laid (List.replicate i x.n) x.t.k x.t.p x.t.s x.t.e).length = rawN g := by rw [← eL]; exact rawL_len h x
    rcases hu with ⟨rfl, he⟩ | ⟨ub, hug⟩
    · rw [he] at hll; simp at hll; omega
    · rw [← eL] at hug hll
      refine ⟨ub, by rw [← hll]; exact hug, ?_, ?_⟩
      · have := hfu ub (by rw [hug.1]; exact ⟨by omega, rfl⟩)
        have := hKP.nxt; omega
      · have := hfu ub (by rw [hug.1]; exact ⟨by omega, rfl⟩)
        have := hwP _ _ hxP
        omega
  · refine ⟨.val (.slice none 0 0), 2, rfl, ?_⟩
    refine letP_i fun K45 hK45 => ?_
    refine condB_i (fun _ => ?_) (fun h => by simp at h)
    refine bindO_i (app_zeros (l := List.replicate i x.n) (by simp) hd39 (by omega)) ?_
    rw [hK45]
    have hkn := Keep.new hk39.wf (.cells (bvs (List.replicate i x.n ++ List.replicate 16 0#8)) true)
    have hxn := hkn.get hk39.wf hxM39 (by simp)
    refine tail _ _ (hK39.trans0 hkn) hxn ?_
    have eL : rawL g x = List.replicate i x.n ++ List.replicate 16 0#8 := by unfold rawL; rw [hrl, if_neg (by rw [hno]; simp)]
    refine ⟨M39.next, ⟨by rw [hrw], by omega, by rw [bvs_length, rawL_len h]; omega, by rw [eL]; exact get_new _ _⟩, hK39.nxt, ?_⟩
    have := hk39.wf _ _ hxM39
    omega

end Go.Proofs.Ytjffimbigamadaa

/- Founds compared, written over; a chip and the document's with pages. -/
namespace Go.Proofs.Ytjffimbigamadaa
open Go.AM

theorem eqA_tg (n : Nat) (t : Tg) : eqA tb (n + 2) 76 (tgA t) (tgA t) = some true := by
  show (match tb.ty.get 76 with | none => none | some ti => _) = _
  rw [ty76]
  show eqFs (eqA tb (n + 1)) [(0, 1, false), (1, 1, false), (2, 1, false), (3, 1, false)] [3, 3, 3, 3] (tgC t) (tgC t) = _
  have h0 : partA (0, 1, false) (tgC t) = some (i64 t.k) := rfl
  have h1 : partA (1, 1, false) (tgC t) = some (i64 t.p) := rfl
  have h2 : partA (2, 1, false) (tgC t) = some (i64 t.s) := rfl
  have h3 : partA (3, 1, false) (tgC t) = some (i64 t.e) := rfl
  simp only [eqFs, h0, h1, h2, h3, eqA_int, beq_self_eq_true]
theorem eqA_pl (n : Nat) (b k : Int) : eqA tb (n + 2) 30 (placeA b k) (placeA b k) = some true := by
  show (match tb.ty.get 30 with | none => none | some ti => _) = _
  rw [ty30]
  show eqFs (eqA tb (n + 1)) [(0, 1, false), (1, 1, false)] [3, 3] [i64 b, i64 k] [i64 b, i64 k] = _
  have h0 : partA (0, 1, false) [i64 b, i64 k] = some (i64 b) := rfl
  have h1 : partA (1, 1, false) [i64 b, i64 k] = some (i64 k) := rfl
  simp only [eqFs, h0, h1, eqA_int, beq_self_eq_true]
theorem eqA_fd (n : Nat) (f : Fd) : eqA tb (n + 3) 78 (.agg (fdC f)) (.agg (fdC f)) = some true := by
  show (match tb.ty.get 78 with | none => none | some ti => _) = _
  rw [ty78]
  show eqFs (eqA tb (n + 2)) [(0, 2, true), (2, 4, true)] [30, 76] (fdC f) (fdC f) = _
  have h0 : partA (0, 2, true) (fdC f) = some (placeA f.b f.k) := rfl
  have h1 : partA (2, 4, true) (fdC f) = some (tgA f.t) := rfl
  simp only [eqFs, h0, h1, eqA_pl, eqA_tg]
theorem ne_fd (xo yo : Operand) (f : Fd) (M : Mem) : eBin tb .neq 78 xo yo (.agg (fdC f)) (.agg (fdC f)) M = some (.val (.bool false), M) := by
  refine eBin_some ?_
  show (match tb.ty.get 78 with | some ti => (match ti.eqf with | some _ => eqRes .neq (eqA tb 60 78 (.agg (fdC f)) (.agg (fdC f))) | none => none) | none => none) = _
  rw [ty78]
  simp only [eqA_fd]
  rfl
theorem ne_tg (xo yo : Operand) (t : Tg) (M : Mem) : eBin tb .neq 76 xo yo (tgA t) (tgA t) M = some (.val (.bool false), M) := by
  refine eBin_some ?_
  show (match tb.ty.get 76 with | some ti => (match ti.eqf with | some _ => eqRes .neq (eqA tb 60 76 (tgA t) (tgA t)) | none => none) | none => none) = _
  rw [ty76]
  simp only [eqA_tg]
  rfl

theorem FdsAt.len {M M' : Mem} {x : AV} {l : List Fd} (h : FdsAt M x l) : evLenCap tb false 70 x M' = some l.length := SlAt.len h ty70 rfl
theorem FdsAt.at {M : Mem} {x : AV} {l : List Fd} (h : FdsAt M x l) {i : Nat} (hi : i < l.length) :
    ∃ b o, evIndexAddr tb 70 x (.val (.int .i64 (i : Int))) = some (.ptr b o) ∧ evLoad tb 78 (.ptr b o) M = some (.agg (fdC l[i])) := by
  obtain ⟨b, o, g1, g2⟩ := SlAt.ldAgg h ty70 rfl ty78 rfl rfl hi (k' := .i64)
  rw [flat_at fdC_len hi] at g2
  exact ⟨b, o, g1, g2⟩

theorem same_founds (M : Mem) (x y : AV) (l : List Fd) (hx : FdsAt M x l) (hy : FdsAt M y l) (hl : l.length ≤ 1000) :
    CallA tb.P 50 [x, y] M fun v N => v = .val (.bool true) ∧ N = M := by
  refine F50_ok ?_
  unfold F50
  refine bindO_i (eLen_some hx.len) ?_
  simp only [zI_int]
  refine bindO_i (eLen_some hy.len) ?_
  simp only [zI_int]
  rw [bne_self_eq_false]
  simp only [condB_false]
  refine ⟨fun z n P => ∃ i : Nat, z = i ∧ n = l.length - i ∧ i ≤ l.length ∧ P = M, ⟨l.length, 0, rfl, rfl, Nat.zero_le _, rfl⟩, ?_⟩
  rintro _ z n P ⟨i, rfl, rfl, hi, rfl⟩
  refine bindO_i (eLen_some hx.len) ?_
  simp only [zI_int]
  refine condB_i (fun hlt => ?_) (fun _ => ⟨by trivial, by trivial⟩)
  have hlt : i < l.length := by simpa using hlt
  obtain ⟨b, o, g1, g2⟩ := hx.at hlt
  obtain ⟨b', o', g3, g4⟩ := hy.at hlt
  refine bindO_i (eIA_some g1) ?_
  simp only [zP_ptr]
  refine bindO_i (eIA_some g3) ?_
  simp only [zP_ptr]
  refine bindO_i (eLd_some g2) ?_
  refine ⟨_, _, _, _, _, _, rfl, ?_⟩
  refine bindO_i (eLd_some g4) ?_
  refine ⟨_, _, _, _, _, _, rfl, ?_⟩
  refine bindO_i (ne_fd _ _ l[i] P) ?_
  simp only [zB_bool, condB_false]
  exact ⟨l.length - (i + 1), by omega, i + 1, iInc (by omega), rfl, hlt, by trivial⟩

/-! ## Both, with pages -/

structure Calm (C : Chip) : Prop where
  off : C.off = false
  turn : C.turn = 0

theorem Calm.bg {C : Chip} (h : Calm C) : bgn C = false ∧ bgC C = { C with ops := iAdd .i64 C.ops 1 } ∧ Calm (bgC C) := by
  have h1 : bgn C = false := by unfold bgn; rw [h.turn]; rfl
  have h2 : bgC C = { C with ops := iAdd .i64 C.ops 1 } := by unfold bgC; rw [h1]; rfl
  exact ⟨h1, h2, by rw [h2]; exact ⟨h.off, h.turn⟩⟩
theorem Calm.pg {C : Chip} (h : Calm C) (b k : Int) (d : List (BitVec 8)) : Calm (pgR C b k d).1 := by
  obtain ⟨_, _, h3⟩ := h.bg
  unfold pgR
  split
  · split
    · unfold pgS
      split
      · exact h3
      · split
        · exact h3
        · split
          · exact h3
          · split <;> exact ⟨h3.off, h3.turn⟩
    · exact h
  · exact h
theorem pgR_same (C : Chip) (b k : Int) (d : List (BitVec 8)) : (pgR C b k d).1.g = C.g ∧ (pgR C b k d).1.fs = C.fs := by
  have hb := bgC_bs C
  unfold pgR
  split
  · split
    · unfold pgS
      split
      · exact ⟨hb.2.1, hb.2.2.1⟩
      · split
        · exact ⟨hb.2.1, hb.2.2.1⟩
        · split
          · exact ⟨hb.2.1, hb.2.2.1⟩
          · split <;> exact ⟨hb.2.1, hb.2.2.1⟩
    · exact ⟨rfl, rfl⟩
  · exact ⟨rfl, rfl⟩

set_option maxRecDepth 100000 in
theorem l_both (M : Mem) (hw : M.WF) (g : Geo) (fx : AV) (fs : List Flt) (hfx : FltsAt M fx fs) (hfl : fs.length ≤ 9223372036854775807) (px : AV) (ps : List Put) (hpx : PutsAt M px ps) (hpl : ps.length ≤ 1000) :
    CallA tb.P 38 [geoA g, fx, px] M fun y N => N.WF ∧ M.next ≤ N.next ∧ (∀ c, c < M.next → N.get c = M.get c) ∧ ((mayP g fs = false ∧ y = .tup [.val (.pointer none), .val (.pointer none), .val (.bool true)]) ∨
      (mayP g fs = true ∧ ∃ p C r S F B, y = .tup [.ptr p 0, .ptr r 0, .val (.bool true)] ∧ M.next ≤ F ∧ Both N p C r S F B [] ∧ Alike ps.length C (vw S) ∧ RngF C ∧ C.g = g ∧ C.fs = fs ∧ Calm C)) := by
  refine F38_ok ?_
  unfold F38
  refine ⟨_, _, _, _, _, rfl, ?_⟩
  refine letP_i fun M6 hM6 => ?_
  have hM6' : M6 = M.new (.cells (geoC g) true) := hM6
  have hk6 : Keep M M6 [] := by rw [hM6']; exact Keep.new hw _
  have hg6 : M6.get M.next = some (.cells (geoC g) true) := by rw [hM6']; exact get_new _ _
  clear hM6 hM6'
  have hf6 : FltsAt M6 fx fs := SlAt.keep0 hfx hw hk6
  have hp6 : PutsAt M6 px ps := SlAt.keep0 hpx hw hk6
  have hgn : M.next < M6.next := hk6.wf _ _ hg6
  have hplt : ∀ c, inBlk px c → c < M6.next := fun c hc => SlAt.blk_lt hp6 hk6.wf hc
  obtain ⟨_, _, _, _, _, l5⟩ := geo_ld hg6
  refine bindO_i (eLd_some l5) ?_
  refine ⟨_, _, _, _, _, rfl, ?_⟩
  refine bindO_i (eLd_some l5) ?_
  refine ⟨_, _, _, _, _, rfl, ?_⟩
  refine (c_new M6 hk6.wf g fx fs hf6 hfl).mono ?_
  rintro y19 M20 ⟨hk20, hc⟩
  have hg20 := hk20.get hk6.wf hg6 (by simp)
  obtain ⟨_, _, _, _, _, m5⟩ := geo_ld hg20
  refine ⟨bindO_i (eLd_some m5) rfl, ?_⟩
  have hf20 : FltsAt M20 fx fs := SlAt.keep0 hf6 hk6.wf hk20
  refine (d_new M20 hk20.wf g fx fs hf20 hfl).mono ?_
  clear hfl
  rintro y22 M23 ⟨hk23, hd⟩
  have hK : Keep M M23 [] := hk6.trans0 (hk20.trans0 hk23)
  refine letP_i fun K29 hK29 => ?_
  rcases hc with ⟨hno, rfl⟩ | ⟨hmay, p, fsA, bb, bs, rfl, hchip, hblank, hfoot, hfsA⟩
  · rcases hd with ⟨_, rfl⟩ | ⟨hyes, _⟩
    rotate_left
    · rw [hno] at hyes; cases hyes
    rw [nil_nil24, bindO_some]
    simp only [zB_bool, condB_true]
    rw [hK29]
    simp only [condB_true]
    rw [nil_nil24, bindO_some]
    simp only [zB_bool]
    rw [nil_nil55, bindO_some]
    simp only [zB_bool]
    rw [eq_bool, bindO_some]
    simp only [zB_bool, beq_self_eq_true]
    exact ⟨hK.wf, hK.nxt, fun c hc => hK.old c hc (by simp), .inl ⟨hno, by trivial⟩⟩
  rcases hd with ⟨hno, _⟩ | ⟨_, r, S, rfl, hdoc, hnew, hown, hdfs, hdpg⟩
  · rw [hno] at hmay; cases hmay
  rw [nil_eq, bindO_some]
  simp only [zB_bool, condB_false]
  rw [nil_eq55, bindO_some]
  simp only [zB_bool]
  rw [hK29]
  clear hK29 K29
  simp only [condB_false]
  have hB : Both M23 p (newChip g fsA fs bb bs) r S M6.next M20.next [] := ⟨hchip.keep hk20.wf hk23, hdoc, hk23.wf, hk20.nxt, hk23.nxt, fun c hc => ⟨hfoot c hc, hchip.lt hk20.wf c hc⟩, fun c hc => ⟨hfsA c hc, SlAt.blk_lt hchip.flt hk20.wf hc⟩, fun c hc => ⟨hown c hc, by simp⟩, fun c hc => ⟨hdfs c hc, by simp⟩, fun q hq c hc => ⟨hdpg q hq c hc, by simp⟩, fun c hc => by simp at hc⟩
  have hA : Alike 0 (newChip g fsA fs bb bs) (vw S) := alike_new hmay hchip.may hchip.len hblank hnew (by have := hdoc.pgl; rw [hnew.geo] at this; exact this)
  have hR : ∀ f ∈ fs, 0 ≤ f.blk ∧ f.blk < g.bl := rng_of_mayP hmay
  have hg23 := hk23.get hk20.wf hg20 (by simp)
  have hp23 : PutsAt M23 px ps := SlAt.keep0 (SlAt.keep0 hp6 hk6.wf hk20) hk20.wf hk23
  have hmg : mayG g = true := hchip.may
  clear hdoc hnew hown hdfs hdpg
  refine ⟨fun z m P => ∃ (t : Nat) (C : Chip) (S : DocS), z = t ∧ m = ps.length - t ∧ t ≤ ps.length ∧ Both P p C r S M6.next M20.next [] ∧ Alike t C (vw S) ∧ C.g = g ∧ C.fs = fs ∧ Calm C ∧ (∀ c, c < M6.next → P.get c = M23.get c), ⟨ps.length, 0, newChip g fsA fs bb bs, S, rfl, rfl, Nat.zero_le _, hB, hA, rfl, rfl, ⟨rfl, rfl⟩, fun _ _ => rfl⟩, ?_⟩
  clear hB hA hchip hblank hfoot hfsA
  rintro _ z m P ⟨t, C, S1, rfl, rfl, ht, hB, hA, hCg, hCf, hcalm, hold⟩
  have hpP : PutsAt P px ps := SlAt.mono hp23 fun c row hc hr => by rw [hold c (hplt c hc)]; exact hr
  have hgP : P.get M.next = some (.cells (geoC g) true) := by rw [hold _ hgn]; exact hg23
  refine bindO_i (eLen_some hpP.len) ?_
  simp only [zI_int]
  refine condB_i (fun hlt => ?_) (fun hge => ?_)
  rotate_left
  · have hge : t = ps.length := by have : ¬ (t : Int) < ps.length := by simpa using hge
                                   omega
    subst hge
    refine ⟨hB.wf, Nat.le_trans (Nat.le_of_lt hgn) (Nat.le_trans hB.fb hB.nxt), fun c hc => ?_, .inr ⟨hmay, p, C, r, S1, M6.next, M20.next, by trivial, Nat.le_of_lt hgn, hB, hA, by unfold RngF; rw [hCf, hCg]; exact hR, hCg, hCf, hcalm⟩⟩
    rw [hold c (by omega)]
    exact hK.old c hc (by simp)
  have hlt : t < ps.length := by simpa using hlt
  obtain ⟨b, o, q1, q2, q3⟩ := hpP.at hlt
  refine bindO_i (eIA_some q1) ?_
  simp only [zP_ptr]
  refine bindO_i (eLd_some (geo_ld hgP).2.2.2.2.2) ?_
  refine ⟨_, _, _, _, _, rfl, ?_⟩
  refine bindO_i (eLd_some q2) ?_
  refine ⟨_, _, _, _, _, _, _, _, rfl, ?_⟩
  refine (l_raw P hB.wf g hmg ps[t]).mono ?_
  rintro y61 M62 ⟨hy, hk62, hfy⟩
  have hB62 := hB.keep hk62
  have hp62 : PutsAt M62 px ps := SlAt.keep0 hpP hB.wf hk62
  have hrl := rawP_len hmg ps[t]
  have hm := mayG_iff.1 hmg
  have hrn : rawN g ≤ 80 := by unfold rawN; omega
  obtain ⟨b', o', q4, _, q5⟩ := hp62.at hlt
  refine bindO_i (eIA_some q4) ?_
  simp only [zP_ptr]
  refine bindO_i (eIA_some q4) ?_
  simp only [zP_ptr]
  refine bindO_i (eLd_some q5) ?_
  refine ⟨_, _, rfl, ?_⟩
  refine bindO_i (eLd_some q5) ?_
  refine ⟨_, _, rfl, ?_⟩
  generalize hu : ps[t] = u at *
  obtain ⟨d1, d2, d3⟩ := hB.dlt
  have hyX : ∀ c, inBlk y61 c → P.next ≤ c ∧ c < M62.next := fun c hc => ⟨hfy c hc, SlAt.blk_lt hy hk62.wf hc⟩
  refine (c_program M62 hB62.wf p C hB62.c u.b u.k y61 (rawP g u) hy (by omega) (fun c hc hm => by
    have h1 := (hyX c hc).1
    have h2 := (hB62.cr c hm).2
    have := hB.nxt
    omega)).mono ?_
  rintro y M76 ⟨rfl, s76⟩
  obtain ⟨h76, f76⟩ := hB62.cstep s76
  obtain ⟨r1, r3⟩ := alike_pg hA (by omega) u.b u.k (rawP g u)
  have hy76 : BytesAt M76 y61 (rawP g u) := SlAt.mono hy fun c row hc hr => step_get s76 hB62.wf hr (fun hm => by
    have h1 := (hyX c hc).1
    have h2 := (hB62.cr c hm).2
    have := hB.nxt
    omega)
  have hpP76 : ∀ c, c < M6.next → M76.get c = M62.get c := fun c hc => s76.keep.old c (Nat.lt_of_lt_of_le hc (Nat.le_trans hB62.fb hB62.nxt)) (fun hm => by have := (hB62.cr c hm).1; omega)
  have hp76 : PutsAt M76 px ps := SlAt.mono hp62 fun c row hc hr => by rw [hpP76 c (hplt c hc)]; exact hr
  have q5' : evLoad tb 30 (.ptr b' o') M76 = some (placeA u.b u.k) := by
    obtain ⟨b2, o2, q6, _, q7⟩ := hp76.at hlt
    rw [q4] at q6
    injection q6 with q6
    injection q6 with e1 e2
    subst e1 e2
    rw [hu] at q7
    exact q7
  simp only [i64, zI_int]
  refine ⟨bindO_i (eLd_some q5') rfl, ?_⟩
  refine (l_num M76 _).mono ?_
  rintro y M80 ⟨rfl, rfl⟩
  simp only [zI_int]
  refine ⟨bindO_i (eLd_some q5') rfl, ?_⟩
  refine (d_programV M80 h76.wf r S1 h76.d u.b u.k y61 (rawP g u) hy76 (by omega) (fun c hc hm => by
    have h1 := (hyX c hc).1
    have h2 := d1 c hm
    omega)).mono ?_
  rintro y M84 ⟨S2, rfl, v2, s84⟩
  obtain ⟨h84, f84⟩ := h76.dstep s84
  rw [← v2] at r3
  simp only [i64, zI_int]
  rw [r1, bne_self_eq_false]
  simp only [condB_false]
  obtain ⟨e1, e2⟩ := pgR_same C u.b u.k (rawP g u)
  refine ⟨ps.length - (t + 1), by omega, t + 1, _, S2, iInc (by omega), rfl, hlt, h84, r3, by rw [e1, hCg], by rw [e2, hCf], hcalm.pg _ _ _, fun c hc => ?_⟩
  have hcB : c < M80.next := Nat.lt_of_lt_of_le hc (Nat.le_trans h76.fb h76.nxt)
  rw [s84.keep.old c hcB (fun hm => by have := (h76.dr c hm).1; have := h76.fb; omega), hpP76 c hc, hk62.old c (Nat.lt_of_lt_of_le hc (Nat.le_trans hB.fb hB.nxt)) (by simp)]
  exact hold c hc

end Go.Proofs.Ytjffimbigamadaa

/- A calm chip looked over; the leaf laws awake. -/
namespace Go.Proofs.Ytjffimbigamadaa
open Go.AM

/-- What the i-th page of a chip holds. -/
def pgI (C : Chip) (i : Nat) : List (BitVec 8) := match C.bs[plB C.g i]? with | some B => pageB B (rawN C.g) (plK C.g i) | none => []
/-- What is gathered of pages that hold such tags, and are so. -/
def foldT {α : Type} (g : Geo) (f : α → Nat → Nat → Tg → Int → α) (bad : Int → Bool) (T : Nat → Tg × Int) (a : α) : Nat → α
  | 0 => a
  | i + 1 => if bad (plB g i) = true then foldT g f bad T a i else f (foldT g f bad T a i) (plB g i) (plK g i) (T i).1 (T i).2
def seeI (C : Chip) (i : Nat) : Tg × Int := (lkT 0 (pgI C i), lkS 0 (pgI C i))

theorem foldT_congr {α : Type} {g : Geo} {f : α → Nat → Nat → Tg → Int → α} {bad bad' : Int → Bool} {T T' : Nat → Tg × Int} {a : α} : ∀ {n : Nat}, (∀ i, i < n → T i = T' i) → (∀ i, i < n → bad (plB g i) = bad' (plB g i)) → foldT g f bad T a n = foldT g f bad' T' a n
  | 0, _, _ => rfl
  | n + 1, h, h' => by
    have ih := foldT_congr (f := f) (a := a) (n := n) (fun i hi => h i (by omega)) (fun i hi => h' i (by omega))
    unfold foldT
    rw [h n (by omega), h' n (by omega), ih]

theorem calm_rd {C : Chip} (h : Calm C) {i : Nat} (hm : mayG C.g = true) (hi : i < nP C.g) : rdE C (plB C.g i) (plK C.g i) = 0 ∧ rdB C (plB C.g i) (plK C.g i) = pgI C i ∧ Calm (rdC C (plB C.g i) (plK C.g i)) := by
  obtain ⟨h1, h2, h3⟩ := h.bg
  obtain ⟨hp, _⟩ := pl_is hm hi
  have ha : askd C (plB C.g i) (plK C.g i) = 0 := by unfold askd; rw [h.off, hp]; rfl
  have he : rdE C (plB C.g i) (plK C.g i) = 0 := by unfold rdE; rw [ha, if_pos rfl, h1]; rfl
  refine ⟨he, ?_, by unfold rdC; rw [if_pos ha]; exact h3⟩
  unfold rdB
  rw [if_pos he, Int.toNat_natCast, Int.toNat_natCast]
  rfl

theorem pgI_same {C C' : Chip} (hg : C'.g = C.g) (hb : C'.bs = C.bs) (i : Nat) : pgI C' i = pgI C i := by
  unfold pgI; rw [hg, hb]

theorem calm_ov {α : Type} (f : α → Nat → Nat → Tg → Int → α) {C : Chip} (h : Calm C) (hm : mayG C.g = true) (a : α) : ∀ i, i ≤ nP C.g → (ovN f C a i).2 = (foldT C.g f (badF C.fs) (seeI C) a i, 0) ∧ Calm (ovN f C a i).1
  | 0, _ => ⟨rfl, h⟩
  | i + 1, hi => by
    obtain ⟨e, hc⟩ := calm_ov f h hm a i (by omega)
    obtain ⟨g1, g2, g3⟩ := ovN_same f C a i
    show (ovS f (ovN f C a i) i).2 = _ ∧ Calm (ovS f (ovN f C a i) i).1
    unfold foldT
    generalize ovN f C a i = s at *
    obtain ⟨C', a', e'⟩ := s
    simp only at e hc g1 g2 g3
    injection e with e1 e2
    subst e1 e2
    unfold ovS
    rw [if_neg (by simp)]
    simp only
    rw [g2, g1]
    split
    · exact ⟨rfl, hc⟩
    · obtain ⟨r1, r2, r3⟩ := calm_rd hc (i := i) (by rw [g1]; exact hm) (by rw [g1]; omega)
      rw [g1] at r1 r2 r3
      rw [if_pos r1, r2, pgI_same g1 g3]
      exact ⟨rfl, r3⟩

/-! ## Awake -/

theorem l_small (M : Mem) (hw : M.WF) : CallA tb.P 88 [] M fun y N => y = geoA ⟨8, 4, 32, 0, 2⟩ ∧ Keep M N [] := by
  refine F88_ok ?_
  unfold F88
  refine letP_i fun M1 hM1 => ?_
  subst hM1
  refine bindO_i (geo_st ⟨8, 4, 32, 0, 2⟩ (get_new M _) rfl) ?_
  refine bindO_i (geo_res (g := ⟨8, 4, 32, 0, 2⟩) (by rw [Mem.get_put, if_pos rfl])) ?_
  rw [Mem.new_put]
  exact ⟨rfl, Keep.new hw _⟩
theorem tg_res1 {N : Mem} {b : Nat} {t : Tg} (hg : N.get b = some (.cells (tgC t) true)) : eRes tb [.c 76 (.ptr b 0)] N = some (tgA t) := by
  have la := tg_ld hg
  unfold eRes resC resC
  simp only [la, Option.map_some]
set_option maxRecDepth 100000 in
theorem l_one (M : Mem) (hw : M.WF) : CallA tb.P 89 [] M fun y N => y = tgA ⟨1, 3, 5, 2⟩ ∧ Keep M N [] := by
  refine F89_ok ?_
  unfold F89
  refine letP_i fun M1 hM1 => ?_
  subst hM1
  refine bindO_i (tg_st ⟨1, 3, 5, 2⟩ (get_new M _) rfl) ?_
  refine bindO_i (tg_res1 (t := ⟨1, 3, 5, 2⟩) (by rw [Mem.get_put, if_pos rfl])) ?_
  rw [Mem.new_put]
  exact ⟨rfl, Keep.new hw _⟩

set_option maxRecDepth 100000 in
theorem nil_asked (M : Mem) (hw : M.WF) (b k : Int) : CallA tb.P 69 [.val (.pointer none), placeA b k] M fun y N => y = i64 1 ∧ Keep M N [] := by
  refine F69_ok ?_
  unfold F69
  refine ⟨_, _, rfl, ?_⟩
  refine letP_i fun M3 hM3 => ?_
  have hk : Keep M M3 [] := by rw [hM3]; exact Keep.new hw _
  rw [nil_nil24, bindO_some]
  simp only [zB_bool, condB_true]
  exact ⟨rfl, hk⟩
theorem nil_read (M : Mem) (hw : M.WF) (b k : Int) : CallA tb.P 21 [.val (.pointer none), placeA b k] M fun y N => y = .tup [.val (.slice none 0 0), i64 1] ∧ Keep M N [] := by
  refine F21_ok ?_
  unfold F21
  refine ⟨_, _, rfl, ?_⟩
  refine letP_i fun M3 hM3 => ?_
  have hM3' : M3 = M.new (.cells [i64 b, i64 k] true) := hM3
  have hk : Keep M M3 [] := by rw [hM3']; exact Keep.new hw _
  have hp : M3.get M.next = some (.cells [i64 b, i64 k] true) := by rw [hM3']; exact get_new _ _
  clear hM3 hM3'
  refine bindO_i (eLd_some (place_ld hp).2.2) ?_
  refine ⟨_, _, rfl, ?_⟩
  refine (nil_asked M3 hk.wf b k).mono ?_
  rintro y N ⟨rfl, hk2⟩
  simp only [i64, zI_int]
  refine condB_i (fun _ => ⟨by trivial, hk.trans0 hk2⟩) (fun h => by simp at h)
theorem nil_look (M : Mem) (hw : M.WF) (b k : Int) : CallA tb.P 94 [.val (.pointer none), placeA b k] M fun y N => y = .tup [.val (.slice none 0 0), tgA tg0, i64 0, i64 1] ∧ Keep M N [] := by
  refine F94_ok ?_
  unfold F94
  refine ⟨_, _, rfl, ?_⟩
  refine letP_i fun M3 hM3 => ?_
  have hM3' : M3 = M.new (.cells [i64 b, i64 k] true) := hM3
  have hk3 : Keep M M3 [] := by rw [hM3']; exact Keep.new hw _
  have hp3 : M3.get M.next = some (.cells [i64 b, i64 k] true) := by rw [hM3']; exact get_new _ _
  clear hM3 hM3'
  refine letP_i fun M4 hM4 => ?_
  have hM4' : M4 = M3.new (.cells (tgC tg0) true) := hM4
  have hk4 : Keep M3 M4 [] := by rw [hM4']; exact Keep.new hk3.wf _
  have hb4 : M4.get M3.next = some (.cells (tgC tg0) true) := by rw [hM4']; exact get_new _ _
  clear hM4 hM4'
  refine bindO_i (eLd_some (place_ld (hk4.get hk3.wf hp3 (by simp))).2.2) ?_
  refine ⟨_, _, rfl, ?_⟩
  refine (nil_read M4 hk4.wf b k).mono ?_
  rintro y N ⟨rfl, hk⟩
  refine ⟨_, _, rfl, ?_⟩
  refine condB_i (fun _ => ?_) (fun h => by simp at h)
  have hbN := hk.get hk4.wf hb4 (by simp)
  refine bindO_i (tg_st tg0 hbN rfl) ?_
  refine bindO_i (tg_res4 (t := tg0) (by rw [Mem.get_put, if_pos rfl])) ?_
  exact ⟨rfl, keep_put_new (hk3.trans0 (hk4.trans0 hk)) hk3.nxt (hk.wf _ _ hbN) _⟩
theorem nil_state (M : Mem) (hw : M.WF) (b k : Int) : CallA tb.P 41 [.val (.pointer none), placeA b k] M fun y N => y = .tup [i64 0, i64 1] ∧ Keep M N [] := by
  refine F41_ok ?_
  unfold F41
  refine ⟨_, _, rfl, ?_⟩
  refine letP_i fun M3 hM3 => ?_
  have hM3' : M3 = M.new (.cells [i64 b, i64 k] true) := hM3
  have hk3 : Keep M M3 [] := by rw [hM3']; exact Keep.new hw _
  have hp3 : M3.get M.next = some (.cells [i64 b, i64 k] true) := by rw [hM3']; exact get_new _ _
  clear hM3 hM3'
  refine bindO_i (eLd_some (place_ld hp3).2.2) ?_
  refine ⟨_, _, rfl, ?_⟩
  refine (nil_look M3 hk3.wf b k).mono ?_
  rintro y N ⟨rfl, hk⟩
  refine ⟨_, 0, 0, 0, 0, _, _, rfl, ?_⟩
  refine letP_i fun M16 hM16 => ?_
  subst hM16
  refine bindO_i (tg_st tg0 (get_new N _) rfl) ?_
  rw [Mem.new_put]
  exact ⟨rfl, hk3.trans0 (hk.trans0 (Keep.new hk.wf _))⟩

theorem state_blank {n : Nat} (h1 : 40 ≤ n) (h2 : n ≤ 80) : state (List.replicate n 255#8) = 0 := by
  unfold state lenOk
  rw [List.length_replicate, decide_eq_true ⟨h1, h2⟩, if_pos rfl]
  have : allFF (List.replicate n 255#8) = true := by
    unfold allFF
    rw [List.all_eq_true]
    intro b hb
    rw [List.eq_of_mem_replicate hb]; rfl
  rw [if_pos this]
theorem see_blank {n : Nat} (h1 : 40 ≤ n) (h2 : n ≤ 80) : (lkT 0 (List.replicate n 255#8), lkS 0 (List.replicate n 255#8)) = (tg0, (0 : Int)) := by
  have := state_blank h1 h2
  unfold lkT lkS
  rw [this, if_neg (by omega), if_pos rfl]; rfl

def awT (i : Nat) : Tg × Int := if i = 8 then (⟨1, 3, 5, 2⟩, 1) else (tg0, 0)

theorem leaf_awake (M : Mem) (hw : M.WF) : CallA tb.P 37 [] M fun y N => y = .val (.bool true) := by
  refine F37_ok ?_
  unfold F37
  refine (l_small M hw).mono ?_
  rintro y M2 ⟨rfl, hk2⟩
  refine ⟨_, _, _, _, _, rfl, ?_⟩
  refine (c_new M2 hk2.wf ⟨8, 4, 32, 0, 2⟩ _ [] SlAt.nil (by simp)).mono ?_
  rintro y M9 ⟨hk9, hc⟩
  rcases hc with ⟨hno, _⟩ | ⟨hmay, p, fsA, bb, bs, rfl, hchip, hblank, hfoot, hfsA⟩
  · exfalso
    have : mayP ⟨8, 4, 32, 0, 2⟩ [] = true := by rw [mayP_nil]; rfl
    rw [this] at hno; cases hno
  have hm : mayG ⟨8, 4, 32, 0, 2⟩ = true := hchip.may
  rw [nil_eq, bindO_some]
  simp only [zB_bool, condB_false]
  refine letP_i fun M12 hM12 => ?_
  have hM12' : M12 = bump M9 := hM12
  subst hM12'
  have hb := bump_keep hk9.wf
  refine (l_one (bump M9) hb.wf).mono ?_
  rintro y M14 ⟨rfl, hk14⟩
  refine ⟨_, _, _, _, rfl, ?_⟩
  have hmk : evMakeFl tb 33 (.val (.int .i64 32)) (.val (.int .i64 32)) M9.next = some (.sl M9.next 0 32 32 none, .cells (bvs (List.replicate 32 0#8)) true) := by
    unfold evMakeFl
    rw [ty33]
    rfl
  refine bindO_i hmk ?_
  dsimp only
  have hk15 : Keep M9 (M14.put M9.next (.cells (bvs (List.replicate 32 0#8)) true)) [] := bump_put hk9.wf (hb.trans0 hk14 |> fun _ => hk14) _
  have hd15 : (M14.put M9.next (.cells (bvs (List.replicate 32 0#8)) true)).get M9.next = some (.cells (bvs (List.replicate 32 0#8)) true) := by rw [Mem.get_put, if_pos rfl]
  generalize M14.put M9.next (.cells (bvs (List.replicate 32 0#8)) true) = M15 at hk15 hd15 ⊢
  have h15 := hchip.keep hk9.wf hk15
  have hdat : BytesAt M15 (.sl M9.next 0 32 32 none) (List.replicate 32 0#8) := ⟨by simp, .inr ⟨_, 0, 32, none, by simp, ⟨by simp, .inl rfl⟩, .inr ⟨_, _, hd15, by simp, by rw [List.drop_zero, List.take_of_length_le (by simp)]⟩⟩⟩
  refine (t_reflay M15 hk15.wf _ (List.replicate 32 0#8) 1 3 5 2 hdat (by simp)).mono ?_
  rintro y M21 ⟨hk21, hres⟩
  have hok : okL (List.replicate 32 0#8) 1 3 5 2 = true := by unfold okL; rw [List.length_replicate]; rfl
  rcases hres with ⟨_, u, rfl, hu, hfu⟩ | ⟨hno, _⟩
  rotate_left
  · rw [hok] at hno; cases hno
  refine ⟨u, 0, rfl, ?_⟩
  have h21 := h15.keep hk15.wf hk21
  have hst1 := laid_state hok
  have hll : (laid (List.replicate 32 0#8) 1 3 5 2).length = 48 := by rw [laid_length, List.length_replicate]
  have htg : lkT 0 (laid (List.replicate 32 0#8) 1 3 5 2) = ⟨1, 3, 5, 2⟩ := by
    unfold lkT
    rw [if_pos ⟨rfl, hst1⟩]
    unfold tgOf
    rw [laid_drop]
    obtain ⟨q1, q2, q3, q4⟩ := tail16_fields (k := 1) (p := 3) (s := 5) (e := 2) (c := more 0#32 (body (List.replicate 32 0#8) 1 3 5 2)) rfl
    rw [q1, q2, q3, q4]
  have hls : lkS 0 (laid (List.replicate 32 0#8) 1 3 5 2) = 1 := by unfold lkS; rw [if_pos rfl, hst1]; rfl
  generalize laid (List.replicate 32 0#8) 1 3 5 2 = L at *
  have hMu : ∀ c, inBlk u c → M15.next ≤ c := hfu
  refine (c_program M21 hk21.wf p _ h21 2 0 u L hu.at (by omega) (fun c hc hm => by
    have h1 := hfu c hc
    have h2 := h15.lt hk15.wf c hm
    omega)).mono ?_
  rintro y M25 ⟨rfl, s25⟩
  have hbl : 2 < bs.length := by have := hchip.len; simp only [newChip] at this; rw [this]; decide
  have hOk := new_ok (fsA := fsA) (bb := bb) hblank (i := 2) hbl
  obtain ⟨e1, hOk2⟩ := hOk.pg (j := 0) rfl (by decide) (d := L) (by rw [hll]; rfl)
  have hcalm : Calm (newChip ⟨8, 4, 32, 0, 2⟩ fsA [] bb bs) := ⟨rfl, rfl⟩
  have hcalm2 := hcalm.pg 2 0 L
  obtain ⟨eg, ef⟩ := pgR_same (newChip ⟨8, 4, 32, 0, 2⟩ fsA [] bb bs) 2 0 L
  have e1' : (pgR (newChip ⟨8, 4, 32, 0, 2⟩ fsA [] bb bs) 2 0 L).2 = 0 := e1
  have hbs2 : ∀ i, i < 8 → ∃ B, (pgR (newChip ⟨8, 4, 32, 0, 2⟩ fsA [] bb bs) 2 0 L).1.bs[i]? = some B ∧ B.by' = if i = 2 then over (List.replicate 192 255#8) 0 L else List.replicate 192 255#8 := by
    intro i hi
    have hlen : bs.length = 8 := by have := hchip.len; simp only [newChip] at this; rw [this]; rfl
    have h1 : pgR (newChip ⟨8, 4, 32, 0, 2⟩ fsA [] bb bs) 2 0 L = (((bgC (newChip ⟨8, 4, 32, 0, 2⟩ fsA [] bb bs)).upB 2 { bs[2] with by' := over bs[2].by' 0 L, next := iAdd .i64 bs[2].next 1, done := iAdd .i64 bs[2].done 1 }), 0) := by
      unfold pgR
      have ha : askd (newChip ⟨8, 4, 32, 0, 2⟩ fsA [] bb bs) 2 0 = 0 := rfl
      rw [if_pos ha, if_pos (by rw [hll]; rfl)]
      have hb1 := hcalm.bg.1
      rw [hb1]
      have hS : pgS (bgC (newChip ⟨8, 4, 32, 0, 2⟩ fsA [] bb bs)) false 2 0 L = ((bgC (newChip ⟨8, 4, 32, 0, 2⟩ fsA [] bb bs)).upB 2 { bs[2] with by' := over bs[2].by' 0 L, next := iAdd .i64 bs[2].next 1, done := iAdd .i64 bs[2].done 1 }, 0) := by
        unfold pgS
        have hbb := bgC_bs (newChip ⟨8, 4, 32, 0, 2⟩ fsA [] bb bs)
        rw [hbb.1, hbb.2.2.1]
        have hg : (newChip ⟨8, 4, 32, 0, 2⟩ fsA [] bb bs).bs[2]? = some bs[2] := List.getElem?_eq_getElem hbl
        rw [hg]
        have hnx : bs[2].next = 0 := by rw [hblank _ (List.getElem_mem hbl)]; rfl
        simp only
        rw [if_neg (by simp [newChip, failsF_nil]), if_neg (by rw [hnx]; simp), if_neg (by simp), Nat.zero_mul]
      have : (2 : Int).toNat = 2 := rfl
      rw [this]
      have : (0 : Int).toNat = 0 := rfl
      rw [this, hS]
      rfl
    rw [h1]
    show ∃ B, ((bgC (newChip ⟨8, 4, 32, 0, 2⟩ fsA [] bb bs)).bs.set 2 _)[i]? = some B ∧ _
    have hbb := (bgC_bs (newChip ⟨8, 4, 32, 0, 2⟩ fsA [] bb bs)).1
    rw [hbb]
    show ∃ B, (bs.set 2 _)[i]? = some B ∧ _
    have hby : ∀ j (hj : j < bs.length), bs[j].by' = List.replicate 192 255#8 := fun j hj => by rw [hblank _ (List.getElem_mem hj)]; rfl
    rw [List.getElem?_set]
    by_cases h2 : 2 = i
    · subst h2
      rw [if_pos rfl, if_pos hbl]
      exact ⟨_, rfl, by rw [if_pos rfl]; simp only; rw [hby 2 hbl]⟩
    · rw [if_neg h2, List.getElem?_eq_getElem (by omega)]
      exact ⟨_, rfl, by rw [if_neg (by omega)]; exact hby i (by omega)⟩
  have h25 := s25.at'
  generalize hC2 : (pgR (newChip ⟨8, 4, 32, 0, 2⟩ fsA [] bb bs) 2 0 L).1 = C2 at *
  have eg : C2.g = ⟨8, 4, 32, 0, 2⟩ := eg
  have ef : C2.fs = [] := ef
  have hsee : ∀ C : Chip, C.g = C2.g → C.bs = C2.bs → ∀ i, i < 32 → seeI C i = awT i := by
    intro C hg hbb i hi
    unfold seeI
    rw [pgI_same hg hbb]
    unfold pgI awT
    rw [eg]
    have hpl : plB ⟨8, 4, 32, 0, 2⟩ i < 8 ∧ plK ⟨8, 4, 32, 0, 2⟩ i < 4 ∧ plB ⟨8, 4, 32, 0, 2⟩ i * 4 + plK ⟨8, 4, 32, 0, 2⟩ i = i := by
      obtain ⟨_, a1, a2, a3⟩ := pl_is (g := ⟨8, 4, 32, 0, 2⟩) hm (i := i) hi
      exact ⟨a1, a2, a3⟩
    generalize plB ⟨8, 4, 32, 0, 2⟩ i = b at hpl ⊢
    generalize plK ⟨8, 4, 32, 0, 2⟩ i = k at hpl ⊢
    obtain ⟨B, hB, hby⟩ := hbs2 b hpl.1
    rw [hB]
    simp only
    unfold pageB
    rw [hby]
    have hr : rawN ⟨8, 4, 32, 0, 2⟩ = 48 := rfl
    rw [hr]
    by_cases h2 : b = 2
    · rw [if_pos h2]
      have := over_page (l := List.replicate 192 255#8) (d := L) (r := 48) (j := 0) (k := k) (n := 4) (by rw [List.length_replicate]) hll (by omega) hpl.2.1
      rw [Nat.zero_mul] at this
      rw [this]
      by_cases hk : k = 0
      · rw [if_pos hk, if_pos (by omega), htg, hls]
      · rw [if_neg hk, if_neg (by omega), show (192 : Nat) = 4 * 48 from rfl, rep_page hpl.2.1]
        exact see_blank (by omega) (by omega)
    · rw [if_neg h2, if_neg (by omega), show (192 : Nat) = 4 * 48 from rfl, rep_page hpl.2.1]
      exact see_blank (by omega) (by omega)
  have hn32 : nP C2.g = 32 := by rw [eg]; rfl
  have hmay2 : mayG C2.g = true := by rw [eg]; rfl
  have fT : ∀ {α : Type} (f : α → Nat → Nat → Tg → Int → α) (a : α) (C : Chip), C.g = C2.g → C.bs = C2.bs → C.fs = C2.fs → foldT C.g f (badF C.fs) (seeI C) a 32 = foldT ⟨8, 4, 32, 0, 2⟩ f (fun _ => false) awT a 32 := by
    intro α f a C hg hbb hf
    rw [hg, eg]
    refine foldT_congr (fun i hi => hsee C hg hbb i hi) (fun i _ => ?_)
    rw [hf, ef]; rfl
  rw [e1']
  simp only [i64, zI_int]
  -- the looks
  refine (c_scan M25 s25.wf p C2 h25).mono ?_
  rintro y M28 ⟨x, rfl, hx, hfx, s28⟩
  obtain ⟨c1, c2⟩ := calm_ov fScan hcalm2 hmay2 [] (nP C2.g) (Nat.le_refl _)
  obtain ⟨g1, g2, g3⟩ := ovN_same fScan C2 [] (nP C2.g)
  rw [hn32, fT fScan [] C2 rfl rfl rfl] at c1
  rw [hn32] at hx c2 g1 g2 g3 s28 ⊢
  have sc : foldT ⟨8, 4, 32, 0, 2⟩ fScan (fun _ => false) awT [] 32 = [⟨2, 0, ⟨1, 3, 5, 2⟩⟩] := by kernel_rfl
  rw [sc] at c1
  rw [c1] at hx
  rw [c1]
  simp only [if_true] at hx
  generalize (ovN fScan C2 [] 32).1 = C3 at *
  refine ⟨x, 0, rfl, ?_⟩
  have hn3 : nP C3.g = 32 := by rw [g1]; exact hn32
  have hmay3 : mayG C3.g = true := by rw [g1]; exact hmay2
  refine (c_count M28 s28.wf p C3 s28.at').mono ?_
  rintro y M32 ⟨rfl, s32⟩
  obtain ⟨d1, d2⟩ := calm_ov fCount c2 hmay3 [0, 0, 0] (nP C3.g) (Nat.le_refl _)
  rw [hn3, fT fCount [0, 0, 0] C3 g1 g3 g2] at d1
  have ct : foldT ⟨8, 4, 32, 0, 2⟩ fCount (fun _ => false) awT [0, 0, 0] 32 = [31, 1, 0] := by kernel_rfl
  rw [ct] at d1
  rw [hn3, d1]
  refine ⟨_, _, _, _, rfl, ?_⟩
  refine (nil_state M32 s32.wf 0 0).mono ?_
  rintro y M38 ⟨rfl, hk38⟩
  refine ⟨_, _, rfl, ?_⟩
  refine letP_i fun K53 hK53 => ?_
  simp only [beq_self_eq_true, condB_true]
  refine (l_one M38 hk38.wf).mono ?_
  rintro y M42 ⟨rfl, hk42⟩
  refine ⟨_, _, _, _, rfl, ?_⟩
  refine letP_i fun M47 hM47 => ?_
  have hM47' : M47 = M42.new (.cells (fdC ⟨2, 0, ⟨1, 3, 5, 2⟩⟩) true) := hM47
  have hk47 : Keep M42 M47 [] := by rw [hM47']; exact Keep.new hk42.wf _
  have hl47 : M47.get M42.next = some (.cells (fdC ⟨2, 0, ⟨1, 3, 5, 2⟩⟩) true) := by rw [hM47']; exact get_new _ _
  clear hM47 hM47'
  have hy : FdsAt M47 (.sl M42.next 0 1 1 none) [⟨2, 0, ⟨1, 3, 5, 2⟩⟩] := ⟨rfl, .inr ⟨_, 0, _, none, rfl, ⟨Nat.le_refl _, .inl rfl⟩, .inr ⟨_, _, hl47, Nat.le_refl _, rfl⟩⟩⟩
  have hx47 : FdsAt M47 x [⟨2, 0, ⟨1, 3, 5, 2⟩⟩] := by
    have h1 : GrF M32 x [⟨2, 0, ⟨1, 3, 5, 2⟩⟩] := hx.mono fun c row hc hr => step_get s32 s28.wf hr (fun hm => by
      have q1 := hfx c hc
      have q2 : c < M25.next := h25.lt s25.wf c (by rw [← s28.foot]; exact hm)
      omega)
    exact SlAt.keep0 h1.at s32.wf (hk38.trans0 (hk42.trans0 hk47))
  refine (same_founds M47 x _ _ hx47 hy (show 1 ≤ 1000 by decide)).mono ?_
  rintro y M49 ⟨rfl, rfl⟩
  simp only [zB_bool, condB_true]
  have k0 : cntOf [31, 1, 0] 0 0 = 31 := rfl
  have k1 : cntOf [31, 1, 0] 0 1 = 1 := rfl
  have k2 : cntOf [31, 1, 0] 0 2 = 0 := rfl
  rw [k0, k1, k2]
  simp only [beq_self_eq_true, condB_true]
  rw [hK53]

end Go.Proofs.Ytjffimbigamadaa
