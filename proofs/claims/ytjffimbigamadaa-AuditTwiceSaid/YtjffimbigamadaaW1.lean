import Derived.Test.YtjffimbigamadaaH13
import Derived.Test.YtjffimbigamadaaP5
set_option linter.unusedSimpArgs false
set_option linter.unusedVariables false
set_option linter.unusedSectionVars false
/- Audit: what is grown of ints and bools; Wears, wears. -/
namespace Go.Proofs.Ytjffimbigamadaa
open Go.AM

theorem ty97 : tb.ty.get 97 = some ⟨.sli 4, 1, 24, [.slice none 0 0], none⟩ := by kernel_rfl

abbrev bv (b : Bool) : AV := .val (.bool b)
/-- Elements of one cell each. -/
def VsAt (M : Mem) (x : AV) (vs : List AV) : Prop := SlAt 1 M x vs.length vs
def GrV (M : Mem) (x : AV) (vs : List AV) : Prop := (x = .val (.slice none 0 0) ∧ vs = []) ∨ ∃ b, Grown 1 M x vs.length vs b
theorem GrV.at {M : Mem} {x : AV} {l : List AV} (h : GrV M x l) : VsAt M x l := by
  rcases h with ⟨rfl, rfl⟩ | ⟨b, h⟩
  · exact SlAt.nil
  · exact h.at
theorem GrV.mono {M N : Mem} {x : AV} {l : List AV} (h : GrV M x l) (hk : ∀ c r, inBlk x c → M.get c = some r → N.get c = some r) : GrV N x l := by
  rcases h with h | ⟨b, h1, h2, h3, h4⟩
  · exact .inl h
  · exact .inr ⟨b, h1, h2, h3, hk b _ (by rw [h1]; exact ⟨by omega, rfl⟩) h4⟩
theorem GrV.keep0 {M N : Mem} {x : AV} {l : List AV} (h : GrV M x l) (hw : M.WF) (hk : Keep M N []) : GrV N x l := h.mono fun c r _ hr => hk.get hw hr (by simp)

theorem GrV.grow {t e : TypeId} {te : TI} (ht : tb.ty.get t = some ⟨.sli e, 1, 24, [.slice none 0 0], none⟩) (he : tb.ty.get e = some te) (hs : te.size = 1) (hbt : te.bytes ≤ 8) {M : Mem} {x : AV} {l : List AV} (hw : M.WF) (h : GrV M x l) (v : AV) (hv : v.one = true) (hb : l.length ≤ 10000) :
    ∃ x' N, evAppend tb t t x (.sl M.next 0 1 1 none) (M.new (.cells [v] true)) = some (x', N) ∧ GrV N x' (l ++ [v]) ∧ GrowTo M N x x' ∧ ∀ c, inBlk x' c → M.next ≤ c := by
  have hw1 := hw.new (.cells [v] true)
  have hsl : SlAt 1 (M.new (.cells [v] true)) (.sl M.next 0 1 1 none) 1 [v] := ⟨rfl, .inr ⟨_, _, _, _, rfl, ⟨Nat.le_refl _, .inl rfl⟩, .inr ⟨_, _, get_new _ _, by simp, by simp⟩⟩⟩
  have hroom : ∀ n, n ≤ 20000 → (3 * n + 4096) * te.bytes ≤ 281474976710656 := fun n hn => by
    have : (3 * n + 4096) * te.bytes ≤ (3 * 20000 + 4096) * 8 := Nat.mul_le_mul (by omega) hbt
    omega
  rcases h with ⟨rfl, rfl⟩ | ⟨b, hg⟩
  · obtain ⟨N, h1, rfl⟩ := append_nil (T := tb) (k := 1) ht rfl he hs hsl (by omega) ⟨hroom 1 (by omega), by omega⟩
    refine ⟨_, _, h1, .inr ⟨M.next + 1, rfl, by simp, by simp, ?_⟩, ⟨hw1.new _, by show M.next ≤ M.next + 1 + 1; omega, fun c hc _ => ?_, fun c hc => .inl (by rw [← hc.2]; exact Nat.le_succ _)⟩, fun c hc => by rw [← hc.2]; exact Nat.le_succ _⟩
    · rw [List.nil_append, Mem.get_new, if_pos (by rfl)]
    · rw [Mem.get_new, if_neg (by show c ≠ M.next + 1; omega), Mem.get_new, if_neg (by omega)]
  · have hbM := hw _ _ hg.2.2.2
    have hg1 : Grown 1 (M.new (.cells [v] true)) x l.length l b := ⟨hg.1, hg.2.1, hg.2.2.1, by rw [Mem.get_new, if_neg (by omega)]; exact hg.2.2.2⟩
    obtain ⟨N, h1, rfl⟩ := append_grown (T := tb) (k := 1) ht rfl he hs hg1 hsl (by omega) (fun u hu => by rw [List.mem_singleton.1 hu]; exact hv) ⟨hroom _ (by omega), by omega⟩
    refine ⟨_, _, h1, .inr ⟨M.next + 1, by simp, by simp, by simp, ?_⟩, ⟨(hw1.kill _).new _, by show M.next ≤ M.next + 1 + 1; omega, fun c hc hn => ?_, fun c hc => .inl (by rw [← hc.2]; exact Nat.le_succ _)⟩, fun c hc => by rw [← hc.2]; exact Nat.le_succ _⟩
    · rw [Mem.get_new, if_pos (by rfl)]
    · have hcb : c ≠ b := fun he => hn (by rw [he, hg.1]; exact ⟨by have := hg.2.1; omega, rfl⟩)
      rw [Mem.get_new, if_neg (by show c ≠ M.next + 1; omega), Mem.get_kill, if_neg hcb, Mem.get_new, if_neg (by omega)]

/-- An element. -/
theorem VsAt.one {t e : TypeId} {te : TI} (ht : tb.ty.get t = some ⟨.sli e, 1, 24, [.slice none 0 0], none⟩) (he : tb.ty.get e = some te) (hs : te.size = 1) (ha : te.isAgg = false) {M : Mem} {x : AV} {l : List AV} (h : VsAt M x l) {i : Nat} (hi : i < l.length) :
    ∃ b o, (∀ N, eIA tb t x (.val (.int .i64 (i : Int))) N = some (.ptr b o, N)) ∧ inBlk x b ∧ eLd tb e (.ptr b o) M = some (l[i], M) := by
  obtain ⟨b, o, h1, h0, h2, _⟩ := SlAt.at h ht rfl he hs hi (k' := .i64)
  refine ⟨b, o, fun N => eIA_some h1, h0, eLd_some ?_⟩
  unfold evLoad
  rw [he]
  have := h2 0 (by omega)
  simp only [ha, cond_false]
  rw [Nat.add_zero, Nat.mul_one, Nat.add_zero, List.getElem?_eq_getElem hi] at this
  exact this

def wsN (C : Chip) (n : Nat) : List Int := (List.range n).map fun (b : Nat) => wearOf C (b : Int)
def gdN (C : Chip) (n : Nat) : List Bool := (List.range n).map fun (b : Nat) => !badF C.fs (b : Int) && !failed C (b : Int)
theorem wsN_succ (C : Chip) (n : Nat) : (wsN C (n + 1)).map i64 = (wsN C n).map i64 ++ [i64 (wearOf C (n : Int))] := by
  unfold wsN; rw [List.range_succ]; simp
theorem gdN_succ (C : Chip) (n : Nat) : (gdN C (n + 1)).map bv = (gdN C n).map bv ++ [bv (!badF C.fs (n : Int) && !failed C (n : Int))] := by
  unfold gdN; rw [List.range_succ]; simp
theorem wsN_len (C : Chip) (n : Nat) : (wsN C n).length = n := by simp [wsN]
theorem gdN_len (C : Chip) (n : Nat) : (gdN C n).length = n := by simp [gdN]

theorem keep_grow {M P N : Mem} {x x' : AV} (hk : Keep M P []) (hg : GrowTo P N x x') (hf : ∀ c, inBlk x c → M.next ≤ c) : Keep M N [] :=
  ⟨hg.wf, Nat.le_trans hk.nxt hg.nxt, fun c hc _ => by
    rw [hg.old c (Nat.lt_of_lt_of_le hc hk.nxt) (fun hm => by have := hf c hm; omega)]
    exact hk.old c hc (by simp)⟩

/-- Audit's Wears. -/
theorem a_wears (M : Mem) (hw : M.WF) (p : Nat) (C : Chip) (h : ChipAt M p C) :
    CallA tb.P 53 [.ptr p 0] M fun y N => ∃ x z, y = .tup [x, z] ∧ Keep M N [] ∧ GrV N x ((wsN C C.g.bl.toNat).map i64) ∧ GrV N z ((gdN C C.g.bl.toNat).map bv) ∧ (∀ c, inBlk x c → M.next ≤ c) ∧ (∀ c, inBlk z c → M.next ≤ c) ∧ ∀ c, inBlk x c → ¬ inBlk z c := by
  refine F53_ok ?_
  unfold F53
  refine (c_geo M hw p C h).mono ?_
  rintro y M2 ⟨rfl, hk2⟩
  obtain ⟨_, _, e1, _, _, _, h4, h4'⟩ := nP_bnd h.may
  refine ⟨_, _, _, _, _, rfl, ?_⟩
  refine ⟨fun x z i n P => ∃ j : Nat, i = j ∧ n = C.g.bl.toNat - j ∧ j ≤ C.g.bl.toNat ∧ Keep M P [] ∧ GrV P x ((wsN C j).map i64) ∧ GrV P z ((gdN C j).map bv) ∧ (∀ c, inBlk x c → M.next ≤ c) ∧ (∀ c, inBlk z c → M.next ≤ c) ∧ ∀ c, inBlk x c → ¬ inBlk z c,
    ⟨C.g.bl.toNat, 0, rfl, rfl, Nat.zero_le _, hk2, .inl ⟨rfl, rfl⟩, .inl ⟨rfl, rfl⟩, fun c hc => hc.elim, fun c hc => hc.elim, fun c hc => hc.elim⟩, ?_⟩
  rintro _ x z i n P ⟨j, rfl, rfl, hj, hk, hx, hz, fx, fz, fd⟩
  rw [e1]
  refine condB_i (fun hlt => ?_) (fun hge => ?_)
  · have hlt : j < C.g.bl.toNat := Int.ofNat_lt.1 (of_decide_eq_true hlt)
    refine (c_wear P hk.wf p C (h.keep hw hk) _).mono ?_
    rintro y M16 ⟨rfl, hk16⟩
    simp only [i64, zI_int]
    refine letP_i fun M18 hM18 => ?_
    subst hM18
    have hK16 := hk.trans0 hk16
    have hx16 := hx.keep0 hk.wf hk16
    have hz16 := hz.keep0 hk.wf hk16
    obtain ⟨x', N, g1, g2, g3, g4⟩ := GrV.grow ty60 ty3 rfl (by decide) hk16.wf hx16 (i64 (wearOf C (j : Int))) rfl (by rw [List.length_map, wsN_len]; omega)
    refine bindO_i g1 ?_
    rw [← wsN_succ] at g2
    have hKN := keep_grow hK16 g3 fx
    have hzlt : ∀ c, inBlk z c → c < M16.next := fun c hc => SlAt.blk_lt hz16.at hk16.wf hc
    have hzN : GrV N z ((gdN C j).map bv) := hz16.mono fun c r hc hr => by rw [g3.old c (hzlt c hc) (fun hm => fd c hm hc)]; exact hr
    have hxN : ∀ c, inBlk x' c → c < N.next := fun c hc => SlAt.blk_lt g2.at g3.wf hc
    clear g1 hz16 hx16 hx hz
    refine letP_i fun K32 hK32 => ?_
    have fin : ∀ (P' : Mem) (v : Bool), Keep N P' [] → v = (!badF C.fs (j : Int) && !failed C (j : Int)) → ∃ z' Q', evAppend tb 97 97 z (.sl P'.next 0 1 1 none) (P'.new (.cells [bv v] true)) = some (z', Q') ∧ K32 z' Q' := by
      intro P' v hkP hv
      have hzP := hzN.keep0 g3.wf hkP
      obtain ⟨z', Q', q1, q2, q3, q4⟩ := GrV.grow ty97 ty4 rfl (by decide) hkP.wf hzP (bv v) rfl (by rw [List.length_map, gdN_len]; omega)
      refine ⟨z', Q', q1, ?_⟩
      rw [hK32]
      rw [hv, ← gdN_succ] at q2
      have hKP := hKN.trans0 hkP
      refine ⟨C.g.bl.toNat - (j + 1), by omega, j + 1, iInc (by omega), rfl, hlt, keep_grow hKP q3 fz, ?_, q2, fun c hc => Nat.le_trans hK16.nxt (g4 c hc), fun c hc => Nat.le_trans hKP.nxt (q4 c hc), fun c hc hm => ?_⟩
      · refine g2.mono fun c r hc hr => ?_
        have hr' := hkP.get g3.wf hr (by simp)
        rw [q3.old c (hkP.wf _ _ hr') (fun hm => ?_)]
        · exact hr'
        · have := hzlt c hm
          have := g4 c hc
          omega
      · have := q4 c hm
        have := hxN c hc
        have := hkP.nxt
        omega
    clear hK32
    refine (c_badOf N g3.wf p C (h.keep hw hKN) _).mono ?_
    rintro y M21 ⟨rfl, hk21⟩
    simp only [zB_bool]
    cases hb : badF C.fs (j : Int) with
    | true =>
      simp only [Bool.not_true, condB_false]
      refine letP_i fun M28 hM28 => ?_
      subst hM28
      obtain ⟨z', Q', q1, q2⟩ := fin M21 false hk21 (by rw [hb]; rfl)
      exact bindO_i q1 q2
    | false =>
      simp only [Bool.not_false, condB_true]
      refine (c_failed M21 hk21.wf p C (h.keep hw (hKN.trans0 hk21)) _).mono ?_
      rintro y M24 ⟨rfl, hk24⟩
      simp only [zB_bool]
      refine letP_i fun M26 hM26 => ?_
      subst hM26
      obtain ⟨z', Q', q1, q2⟩ := fin M24 (!failed C (j : Int)) (hk21.trans0 hk24) (by rw [hb]; rfl)
      exact bindO_i q1 q2
  · have hge : j = C.g.bl.toNat := by have : ¬ (j : Int) < C.g.bl.toNat := of_decide_eq_false hge
                                      omega
    subst hge
    exact ⟨x, z, rfl, hk, hx, hz, fx, fz, fd⟩

end Go.Proofs.Ytjffimbigamadaa
