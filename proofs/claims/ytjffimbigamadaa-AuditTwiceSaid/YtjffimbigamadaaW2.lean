import Derived.Test.YtjffimbigamadaaW1
set_option linter.unusedSimpArgs false
set_option linter.unusedVariables false
set_option linter.unusedSectionVars false
/- wear's Least, Most, Spread; the document's. -/
namespace Go.Proofs.Ytjffimbigamadaa
open Go.AM

/-- The first good one that is better than all ahead of it. -/
def bst (lt : Int → Int → Bool) (ws : List Int) (gd : List Bool) : Nat → Int
  | 0 => -1
  | i + 1 => if gd.getD i false = true then (if bst lt ws gd i < 0 then (i : Int) else if lt (ws.getD i 0) (ws.getD (bst lt ws gd i).toNat 0) = true then (i : Int) else bst lt ws gd i) else bst lt ws gd i

theorem bst_bnd (lt : Int → Int → Bool) (ws : List Int) (gd : List Bool) : ∀ i : Nat, -1 ≤ bst lt ws gd i ∧ bst lt ws gd i < (i : Int)
  | 0 => ⟨by unfold bst; omega, by unfold bst; omega⟩
  | i + 1 => by
    have ih := bst_bnd lt ws gd i
    unfold bst
    split
    · split
      · omega
      · split <;> omega
    · omega
theorem bst_neg (lt : Int → Int → Bool) (ws : List Int) (gd : List Bool) : ∀ i : Nat, bst lt ws gd i < 0 ↔ ∀ k, k < i → gd.getD k false = false
  | 0 => ⟨fun _ k hk => by omega, fun _ => by unfold bst; omega⟩
  | i + 1 => by
    have ih := bst_neg lt ws gd i
    unfold bst
    constructor
    · intro h k hk
      split at h
      · split at h
        · omega
        · split at h <;> omega
      · by_cases hki : k = i
        · subst hki; cases hg : gd.getD k false
          · rfl
          · rename_i q; exact absurd hg q
        · exact ih.1 h k (by omega)
    · intro h
      rw [if_neg (by rw [h i (by omega)]; simp)]
      exact ih.2 fun k hk => h k (by omega)
def sprL (ws : List Int) (gd : List Bool) : Int :=
  if bst (fun a b => decide (a < b)) ws gd ws.length < 0 then 0 else iSub .i64 (ws.getD (bst (fun a b => decide (a > b)) ws gd ws.length).toNat 0) (ws.getD (bst (fun a b => decide (a < b)) ws gd ws.length).toNat 0)

theorem int_one {M : Mem} {x : AV} {ws : List Int} (h : VsAt M x (ws.map i64)) {i : Nat} (hi : i < ws.length) :
    ∃ b o, (∀ N, eIA tb 60 x (.val (.int .i64 (i : Int))) N = some (.ptr b o, N)) ∧ inBlk x b ∧ eLd tb 3 (.ptr b o) M = some (.val (.int .i64 (ws.getD i 0)), M) := by
  obtain ⟨b, o, h1, h2, h3⟩ := h.one ty60 ty3 rfl rfl (i := i) (by rw [List.length_map]; exact hi)
  refine ⟨b, o, h1, h2, ?_⟩
  rw [h3, List.getElem_map, List.getD_eq_getElem?_getD, List.getElem?_eq_getElem hi]
  rfl
theorem bool_one {M : Mem} {x : AV} {gd : List Bool} (h : VsAt M x (gd.map bv)) {i : Nat} (hi : i < gd.length) :
    ∃ b o, (∀ N, eIA tb 97 x (.val (.int .i64 (i : Int))) N = some (.ptr b o, N)) ∧ inBlk x b ∧ eLd tb 4 (.ptr b o) M = some (.val (.bool (gd.getD i false)), M) := by
  obtain ⟨b, o, h1, h2, h3⟩ := h.one ty97 ty4 rfl rfl (i := i) (by rw [List.length_map]; exact hi)
  refine ⟨b, o, h1, h2, ?_⟩
  rw [h3, List.getElem_map, List.getD_eq_getElem?_getD, List.getElem?_eq_getElem hi]
  rfl
theorem ints_len {M : Mem} {x : AV} {ws : List Int} (h : VsAt M x (ws.map i64)) : eLen tb false 60 x M = some (.val (.int .i64 (ws.length : Int)), M) := by
  have := eLen_some (T := tb) (t := 60) (M := M) (SlAt.len h ty60 rfl)
  rw [List.length_map] at this
  exact this
theorem bools_len {M : Mem} {x : AV} {gd : List Bool} (h : VsAt M x (gd.map bv)) : eLen tb false 97 x M = some (.val (.int .i64 (gd.length : Int)), M) := by
  have := eLen_some (T := tb) (t := 97) (M := M) (SlAt.len h ty97 rfl)
  rw [List.length_map] at this
  exact this

theorem w_counts (M : Mem) (x z : AV) (ws : List Int) (gd : List Bool) (hx : VsAt M x (ws.map i64)) (hz : VsAt M z (gd.map bv)) (hl : gd.length = ws.length) (i : Nat) (hi : i < ws.length) :
    CallA tb.P 139 [x, z, i64 (i : Int)] M fun y N => y = .val (.bool (gd.getD i false)) ∧ N = M := by
  refine F139_ok ?_
  unfold F139
  simp only [i64, zI_int]
  refine letP_i fun K hK => ?_
  refine bindO_i (ints_len hx) ?_
  simp only [zI_int]
  rw [decide_eq_true (by omega : (i : Int) < (ws.length : Int)), condB_true]
  refine bindO_i (bools_len hz) ?_
  simp only [zI_int]
  rw [decide_eq_true (by omega : (i : Int) < (gd.length : Int)), condB_true]
  obtain ⟨b, o, h1, _, h3⟩ := bool_one hz (i := i) (by omega)
  refine bindO_i (h1 M) ?_
  simp only [zP_ptr]
  refine bindO_i h3 ?_
  simp only [zB_bool]
  rw [hK]
  exact ⟨by trivial, by trivial⟩

theorem w_best (M : Mem) (x z f : AV) (lt : Int → Int → Bool) (hf : ∀ (a b : Int) (N : Mem) (K : AV → Mem → Prop), K (.val (.bool (lt a b))) N → eCall tb f [.val (.int .i64 a), .val (.int .i64 b)] N K)
    (ws : List Int) (gd : List Bool) (hx : VsAt M x (ws.map i64)) (hz : VsAt M z (gd.map bv)) (hl : gd.length = ws.length) (hb : ws.length ≤ 10000) :
    CallA tb.P 134 [x, z, f] M fun y N => y = i64 (bst lt ws gd ws.length) ∧ N = M := by
  refine F134_ok ?_
  unfold F134
  refine bindO_i (ints_len hx) ?_
  simp only [zI_int]
  refine ⟨fun a i n P => ∃ j : Nat, a = bst lt ws gd j ∧ i = j ∧ n = ws.length - j ∧ j ≤ ws.length ∧ P = M, ⟨ws.length, 0, rfl, rfl, rfl, Nat.zero_le _, rfl⟩, ?_⟩
  rintro _ a i n P ⟨j, rfl, rfl, rfl, hj, rfl⟩
  obtain ⟨b1, b2⟩ := bst_bnd lt ws gd j
  refine condB_i (fun hlt => ?_) (fun hge => ?_)
  · have hlt : j < ws.length := Int.ofNat_lt.1 (of_decide_eq_true hlt)
    refine letP_i fun K30 hK30 => ?_
    refine letP_i fun K27 hK27 => ?_
    have tak : bst lt ws gd (j + 1) = (j : Int) → K30 j P := fun e => by
      rw [hK30]
      exact ⟨ws.length - (j + 1), by omega, j + 1, e.symm, iInc (by omega), rfl, hlt, by trivial⟩
    have not : bst lt ws gd (j + 1) = bst lt ws gd j → K30 (bst lt ws gd j) P := fun e => by
      rw [hK30]
      exact ⟨ws.length - (j + 1), by omega, j + 1, e.symm, iInc (by omega), rfl, hlt, by trivial⟩
    have tak : bst lt ws gd (j + 1) = (j : Int) → K27 true P := fun e => by rw [hK27]; exact tak e
    have not : bst lt ws gd (j + 1) = bst lt ws gd j → K27 false P := fun e => by rw [hK27]; exact not e
    clear hK27 hK30
    refine (w_counts P x z ws gd hx hz hl j hlt).mono ?_
    rintro y M10 ⟨rfl, rfl⟩
    simp only [zB_bool]
    cases hg : gd.getD j false with
    | false =>
      simp only [condB_false]
      exact not (by rw [bst, if_neg (by rw [hg]; simp)])
    | true =>
      simp only [condB_true]
      refine condB_i (fun hneg => ?_) (fun hpos => ?_)
      · have hneg : bst lt ws gd j < 0 := of_decide_eq_true hneg
        exact tak (by rw [bst, if_pos hg, if_pos hneg])
      · have hpos : ¬ bst lt ws gd j < 0 := of_decide_eq_false hpos
        obtain ⟨k, hk⟩ : ∃ k : Nat, bst lt ws gd j = k := ⟨(bst lt ws gd j).toNat, by omega⟩
        obtain ⟨c1, o1, f1, _, f3⟩ := int_one hx hlt
        obtain ⟨c2, o2, g1, _, g3⟩ := int_one hx (i := k) (by omega)
        refine bindO_i (f1 M10) ?_
        simp only [zP_ptr]
        rw [hk]
        refine bindO_i (g1 M10) ?_
        simp only [zP_ptr]
        refine bindO_i f3 ?_
        simp only [zI_int]
        refine bindO_i g3 ?_
        simp only [zI_int]
        refine hf _ _ _ _ ?_
        simp only [zB_bool]
        have hstep : bst lt ws gd (j + 1) = if lt (ws.getD j 0) (ws.getD k 0) = true then (j : Int) else (k : Int) := by
          rw [bst, if_pos hg, if_neg hpos, hk, Int.toNat_natCast]
        cases hlt' : lt (ws.getD j 0) (ws.getD k 0) with
        | true => exact tak (by rw [hstep, if_pos hlt'])
        | false => exact not (by rw [hstep, if_neg (by rw [hlt']; simp), hk])
  · have hge : j = ws.length := by have : ¬ (j : Int) < ws.length := of_decide_eq_false hge
                                   omega
    subst hge
    exact ⟨by trivial, by trivial⟩

theorem call135 (a b : Int) (N : Mem) (K : AV → Mem → Prop) (h : K (.val (.bool (decide (a < b)))) N) : eCall tb (.fn 135 [] []) [.val (.int .i64 a), .val (.int .i64 b)] N K := by
  unfold eCall
  simp only [caseO_some]
  rw [fn135, bindO_some]
  refine F135_ok ?_
  unfold F135
  simp only [zI_int]
  exact h
theorem call136 (a b : Int) (N : Mem) (K : AV → Mem → Prop) (h : K (.val (.bool (decide (a > b)))) N) : eCall tb (.fn 136 [] []) [.val (.int .i64 a), .val (.int .i64 b)] N K := by
  unfold eCall
  simp only [caseO_some]
  rw [fn136, bindO_some]
  refine F136_ok ?_
  unfold F136
  simp only [zI_int]
  exact h

theorem w_spread (M : Mem) (x z : AV) (ws : List Int) (gd : List Bool) (hx : VsAt M x (ws.map i64)) (hz : VsAt M z (gd.map bv)) (hl : gd.length = ws.length) (hb : ws.length ≤ 10000) :
    CallA tb.P 99 [x, z] M fun y N => y = i64 (sprL ws gd) ∧ N = M := by
  refine F99_ok ?_
  unfold F99
  have least : CallA tb.P 117 [x, z] M fun y N => y = i64 (bst (fun a b => decide (a < b)) ws gd ws.length) ∧ N = M := by
    refine F117_ok ?_
    unfold F117
    refine (w_best M x z _ (fun a b => decide (a < b)) call135 ws gd hx hz hl hb).mono ?_
    rintro y N ⟨rfl, rfl⟩
    simp only [i64, zI_int]
    exact ⟨by trivial, by trivial⟩
  have most : CallA tb.P 118 [x, z] M fun y N => y = i64 (bst (fun a b => decide (a > b)) ws gd ws.length) ∧ N = M := by
    refine F118_ok ?_
    unfold F118
    refine (w_best M x z _ (fun a b => decide (a > b)) call136 ws gd hx hz hl hb).mono ?_
    rintro y N ⟨rfl, rfl⟩
    simp only [i64, zI_int]
    exact ⟨by trivial, by trivial⟩
  refine least.mono ?_
  rintro y N ⟨rfl, rfl⟩
  simp only [i64, zI_int]
  refine most.mono ?_
  rintro y N' ⟨rfl, rfl⟩
  simp only [i64, zI_int]
  clear least most
  have n1 := bst_neg (fun a b => decide (a < b)) ws gd ws.length
  have n2 := bst_neg (fun a b => decide (a > b)) ws gd ws.length
  have b1 := bst_bnd (fun a b => decide (a < b)) ws gd ws.length
  have b2 := bst_bnd (fun a b => decide (a > b)) ws gd ws.length
  unfold sprL
  have n3 := n1.trans n2.symm
  generalize bst (fun a b => decide (a < b)) ws gd ws.length = u at *
  generalize bst (fun a b => decide (a > b)) ws gd ws.length = v at *
  refine condB_i (fun h => ?_) (fun h => ?_)
  · exact ⟨by rw [if_pos (of_decide_eq_true h)], by trivial⟩
  · have h : ¬ u < 0 := of_decide_eq_false h
    have h' : ¬ v < 0 := fun hv => h (n3.2 hv)
    obtain ⟨i, rfl⟩ : ∃ i : Nat, u = i := ⟨u.toNat, by omega⟩
    obtain ⟨j, rfl⟩ : ∃ j : Nat, v = j := ⟨v.toNat, by omega⟩
    obtain ⟨c1, o1, f1, _, f3⟩ := int_one hx (i := i) (by omega)
    obtain ⟨c2, o2, g1, _, g3⟩ := int_one hx (i := j) (by omega)
    refine bindO_i (g1 N') ?_
    simp only [zP_ptr]
    refine bindO_i (f1 N') ?_
    simp only [zP_ptr]
    refine bindO_i g3 ?_
    simp only [zI_int]
    refine bindO_i f3 ?_
    simp only [zI_int]
    exact ⟨by rw [if_neg h, Int.toNat_natCast, Int.toNat_natCast], by trivial⟩

end Go.Proofs.Ytjffimbigamadaa
