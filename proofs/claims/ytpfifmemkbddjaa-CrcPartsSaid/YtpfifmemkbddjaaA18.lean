/- The abstract machine, part 18: a region whose order is open, the rule itself. -/
import Derived.Test.YtpfifmemkbddjaaA17
set_option linter.unusedVariables false
set_option linter.unusedSimpArgs false
namespace Go.AM

section
variable {T : Tab} {ops : Array Oper} {st0 : St} {D : Draw T ops st0} {ι0 : Inj} {w0 : World} {L : Nat → Bool} {a : Act} {w : World} {k : Nat} {ι : Inj} {fr : Tr AV}

theorem Inv.move (I : Inv D ι0 w0 L a w k ι fr) {ι' : Inj} {w' : World} (S2 : Stp ι (D.mems k) w ι' (D.mems k) w') : Inv D ι0 w0 L a w' k ι' fr := by
  refine ⟨I.closed, I.kle, I.mle, I.Lk, I.size, I.defers, fun j => (I.frr j).mono S2.ext, I.frl, I.stp.trans S2, fun f row hf hLf hkf => ?_, fun f row hf hLf => ?_,
    fun f g rf rg l l' hf hg hLf hLg hkf hkg hl hl' he => ?_⟩
  · obtain ⟨l, g1, g2, g3, g4⟩ := I.pend f row hf hLf hkf
    have hblk := row_lt g2
    refine ⟨l, S2.ext _ _ g1, ?_, g3, fun hlv => ?_⟩
    · rw [S2.frame l.blk hblk (fun ⟨b, r, l2, q1, q2, q3, q4⟩ => g4 ⟨b, r, l2, q1, q3, q4⟩)]
      exact g2.mono S2.ext
    · rcases S2.evl _ hlv with h | h
      · omega
      · exact g4 h
  · have := I.open' f row hf hLf
    cases hq : ι' (D.fid f) with
    | none => rfl
    | some l =>
      rcases S2.new _ _ hq with h | h
      · rw [this] at h; cases h
      · have h4 := (D.fidr f row hf).2
        have := I.mle
        omega
  · obtain ⟨l1, g1, _⟩ := I.pend f rf hf hLf hkf
    obtain ⟨l2, g2, _⟩ := I.pend g rg hg hLg hkg
    have e1 := S2.ext _ _ g1
    have e2 := S2.ext _ _ g2
    rw [hl] at e1; injection e1 with e1; subst e1
    rw [hl'] at e2; injection e2 with e2; subst e2
    exact I.pdis f g rf rg l l' hf hg hLf hLg hkf hkg g1 g2 he
end

def unl (listed : Array Bool) (n : Nat) : Nat := (List.range n).countP (fun j => !listed.getD j false)

theorem getD_set (listed : Array Bool) (i j : Nat) (hi : i < listed.size) : (listed.setIfInBounds i true).getD j false = (decide (j = i) || listed.getD j false) := by
  simp only [Array.getD_eq_getD_getElem?, Array.getElem?_setIfInBounds]
  by_cases h : j = i
  · subst h; simp [hi]
  · rw [if_neg (fun e => h e.symm)]
    simp [h]

theorem unl_set (listed : Array Bool) (i : Nat) (hi : i < listed.size) (hf : listed.getD i false = false) : ∀ n, unl (listed.setIfInBounds i true) n + (if i < n then 1 else 0) = unl listed n
  | 0 => by simp [unl]
  | n + 1 => by
    have ih := unl_set listed i hi hf n
    unfold unl at ih ⊢
    rw [List.range_succ, List.countP_append, List.countP_append]
    simp only [List.countP_cons, List.countP_nil, Nat.zero_add]
    rw [getD_set listed i n hi]
    by_cases h : n = i
    · subst h
      rw [hf]
      simp at ih ⊢
      omega
    · simp only [h, decide_false, Bool.false_or]
      have : (i < n + 1) ↔ (i < n) := by omega
      simp only [this]
      omega

theorem unl_zero {listed : Array Bool} {n : Nat} (h : unl listed n = 0) : ∀ j, j < n → listed.getD j false = true := by
  intro j hj
  unfold unl at h
  rw [List.countP_eq_zero] at h
  have := h j (List.mem_range.2 hj)
  simpa using this

theorem wpa_draw {T : Tab} (ok : T.Ok) (hmix : T.P.follows .mixedOrders = true) {id : Nat} {ops : Array Oper} {st0 : St} {Q : Ex → St → Prop} (D : Draw T ops st0)
    (hQ : Q .normal { n := st0.n, t := D.fr ops.size, m := D.ad D.eff.length }) : WpA T.P (.region id ops true) st0 Q := by
  have hfr : ∀ i, i ≤ ops.size → Fr ops D.vals st0.t (fun j => decide (j < i)) (D.fr i) := by
    intro i
    induction i with
    | zero =>
      intro _ t
      rw [D.fr0]
      exact ⟨fun j o _ _ => by simp, fun _ => rfl⟩
    | succ i ih =>
      intro hi
      obtain ⟨o, ho⟩ : ∃ o, ops[i]? = some o := ⟨ops[i]'(by omega), Array.getElem?_eq_getElem (by omega)⟩
      rw [D.frS i o ho]
      refine (ih (by omega)).set D.dst1 ho fun j => ?_
      rw [Bool.eq_iff_iff]
      simp
      omega
  intro ι0 a0 w0 hs
  refine wp_region_any hmix ?_
  have key : ∀ (fuel : Nat) (listed : Array Bool) (a : Act) (w : World) (k : Nat) (ι : Inj) (fr : Tr AV), Inv D ι0 w0 (fun j => listed.getD j false) a w k ι fr → listed.size = ops.size →
      unl listed ops.size ≤ fuel → wpAny T.P .any ops (Post ι0 st0.m w0 Q) fuel listed a w := by
    -- at the end
    have fin : ∀ (listed : Array Bool) (a : Act) (w : World) (k : Nat) (ι : Inj) (fr : Tr AV), Inv D ι0 w0 (fun j => listed.getD j false) a w k ι fr → (∀ j, j < ops.size → listed.getD j false = true) →
        Post ι0 st0.m w0 Q .normal a w := by
      intro listed a w k ι fr I hall
      have hk : k = D.eff.length := by
        rcases Nat.lt_or_ge k D.eff.length with h | h
        · obtain ⟨e, he⟩ : ∃ e, D.eff[k]? = some e := ⟨D.eff[k], by simp [h]⟩
          have := (I.Lk k e he).1 (hall e (D.effl e (List.mem_of_getElem? he)))
          omega
        · have := I.kle; omega
      subst hk
      obtain ⟨SA, _, _⟩ := I.adopt (fun f row hf _ => hall f (by
        obtain ⟨o, ho, _⟩ := D.fnone f row hf
        rcases Nat.lt_or_ge f ops.size with h | h
        · exact h
        · rw [Array.getElem?_eq_none h] at ho; simp at ho))
      refine ⟨ι, .normal, { n := st0.n, t := D.fr ops.size, m := D.ad D.eff.length }, rfl, ⟨I.size, fun t => ?_, I.defers, SA.rel⟩, SA, hQ⟩
      have hsame : fr.get t = (D.fr ops.size).get t := I.frl.same (hfr ops.size (Nat.le_refl _)) fun j o hj _ => by
        have hlt : j < ops.size := by
          rcases Nat.lt_or_ge j ops.size with h | h
          · exact h
          · rw [Array.getElem?_eq_none h] at hj; simp at hj
        rw [hall j hlt]; simp [hlt]
      have := I.frr t
      rw [hsame] at this
      exact this
    intro fuel
    induction fuel with
    | zero =>
      intro listed a w k ι fr I hsz hun
      have hall := unl_zero (show unl listed ops.size = 0 by omega)
      refine ⟨?_, fin listed a w k ι fr I hall⟩
      apply List.eq_nil_iff_forall_not_mem.2
      intro i hrdy
      obtain ⟨h0, o, ho, _⟩ := mem_ready.1 hrdy
      have hlt : i < ops.size := (Array.getElem?_eq_some_iff.1 ho).1
      have := hall i hlt
      rw [Array.getD_eq_getD_getElem?, Array.getElem?_eq_getElem (by omega)] at h0 this
      simp only [Option.getD_some] at h0 this
      rw [h0] at this; cases this
    | succ fuel ih =>
      intro listed a w k ι fr I hsz hun
      refine ⟨fun hnil => ?_, fun i hrdy => ?_⟩
      · refine fin listed a w k ι fr I fun i => ?_
        induction i using Nat.strongRecOn with
        | _ i ihi =>
          intro hi
          cases hL : listed.getD i false with
          | true => rfl
          | false =>
            exfalso
            have : i ∈ Region.ready .any ops listed := by
              refine mem_ready.2 ⟨?_, ops[i], by simp [hi], fun e he hb => ?_⟩
              · rw [Array.getD_eq_getD_getElem?, Array.getElem?_eq_getElem (by omega)] at hL ⊢
                exact hL
              · have := D.back i ops[i] (by simp [hi]) e (by simpa using he) hb
                exact ihi e.on this (by omega)
            rw [hnil] at this
            cases this
      · obtain ⟨h0, o, ho, hedge⟩ := mem_ready.1 hrdy
        have hlt : i < ops.size := (Array.getElem?_eq_some_iff.1 ho).1
        have hLi : listed.getD i false = false := by
          rw [Array.getD_eq_getD_getElem?, Array.getElem?_eq_getElem (by omega)] at h0 ⊢
          exact h0
        have hr : ∀ e ∈ o.after.toList, bindsB e = true → listed.getD e.on false = true := fun e he hb => hedge e (by simpa using he) hb
        have hL' : ∀ j, (listed.setIfInBounds i true).getD j false = (decide (j = i) || listed.getD j false) := fun j => getD_set listed i j (by omega)
        have hun' : unl (listed.setIfInBounds i true) ops.size ≤ fuel := by
          have := unl_set listed i (by omega) hLi ops.size
          rw [if_pos hlt] at this
          omega
        have hsz' : (listed.setIfInBounds i true).size = ops.size := by simp [hsz]
        have hsee := I.sees hfr ho hLi hr
        have hwc := wanted_congr hsee
        have hopn : ∀ x ∈ o.op.operands.toList, opnd fr x = opnd (D.fr i) x := opnd_congr fun t ht => hsee t (by unfold looks; simp [ht])
        have hec := fun M => evalOp_congr T hopn M
        unfold wpOp
        rw [ho]
        simp only
        -- the numbers of what was done
        have hlo : lo (masks ops.toList []) D.eff i ≤ k := by
          rcases Nat.lt_or_ge k (lo (masks ops.toList []) D.eff i) with h | h
          · exfalso
            have hke : k < D.eff.length := Nat.lt_of_lt_of_le h ((List.takeWhile_prefix _).length_le)
            obtain ⟨e, he⟩ : ∃ e, D.eff[k]? = some e := ⟨D.eff[k], by simp [hke]⟩
            have hb := tw_lt he h
            have hle := closed_bf D.back I.closed i o (by simpa using ho) hr hb
            have := (I.Lk k e he).1 hle
            omega
          · exact h
        have hhi : k ≤ hi (masks ops.toList []) D.eff i := by
          rcases Nat.lt_or_ge (hi (masks ops.toList []) D.eff i) k with h | h
          · exfalso
            have hke : hi (masks ops.toList []) D.eff i < D.eff.length := Nat.lt_of_lt_of_le h I.kle
            obtain ⟨e, he⟩ : ∃ e, D.eff[hi (masks ops.toList []) D.eff i]? = some e := ⟨D.eff[hi (masks ops.toList []) D.eff i], by simp [hke]⟩
            have hb : bf (masks ops.toList []) i e = true := by simpa using tw_at he
            have hLe := (I.Lk _ e he).2 h
            obtain ⟨oe, hoe⟩ : ∃ oe, ops.toList[e]? = some oe := ⟨ops.toList[e]'(by simpa using D.effl e (List.mem_of_getElem? he)), by simp⟩
            have := closed_bf D.back I.closed e oe hoe (I.closed e oe hoe hLe) hb
            rw [hLi] at this; cases this
          · exact h
        have hnf : cls T o ≠ .flt → D.frow i = none := fun hne => by
          cases hq : D.frow i with
          | none => rfl
          | some row =>
            obtain ⟨o', ho', hc⟩ := D.fnone i row hq
            rw [ho] at ho'; injection ho' with ho'; subst ho'
            exact absurd hc hne
        have hne : cls T o ≠ .eff → i ∉ D.eff := fun h hm => h ((D.effs i o ho).2 hm)
        -- an operation that leaves memory alone
        have still : cls T o ≠ .flt → cls T o ≠ .eff → (∃ M', evalOp T fr o (D.mems k) = some (D.vals i, M') ∧ M' = D.mems k) → o.wp T.P a w (wpAny T.P .any ops (Post ι0 st0.m w0 Q) fuel (listed.setIfInBounds i true)) (Post ι0 st0.m w0 Q) := by
          rintro h1 h2 ⟨M', he, rfl⟩
          obtain ⟨ι', w', n, v, g1, g2, g3, g4⟩ := evalOp_ok ok I.stp.rel I.frr he
          unfold Oper.wp
          rw [g1]
          have I2 := (I.move g4).still ho hr hL' (hne h2) (hnf h1) g3
          have := ih _ _ _ _ _ _ I2 hsz' hun'
          rcases g2 with rfl | ⟨rfl, rfl⟩ <;> exact this
        have skip : cls T o ≠ .flt → cls T o ≠ .eff → D.vals i = undefA → wpAny T.P .any ops (Post ι0 st0.m w0 Q) fuel (listed.setIfInBounds i true) (a.put o.dst undef) w := by
          intro h1 h2 hv
          have I2 := I.still ho hr hL' (hne h2) (hnf h1) (v := undef) (by rw [hv]; exact VR.undef ι)
          exact ih _ _ _ _ _ _ I2 hsz' hun'
        cases hc : cls T o with
        | pure =>
          rcases D.pure i o ho hc with ⟨h1, h2⟩ | ⟨h1, M, M', h2⟩
          · rw [wantedA_ok I.frr (hwc.trans h1), if_neg (by simp)]
            exact skip (by rw [hc]; decide) (by rw [hc]; decide) h2
          · rw [wantedA_ok I.frr (hwc.trans h1), if_pos rfl]
            refine .inl (still (by rw [hc]; decide) (by rw [hc]; decide) ⟨_, ?_, rfl⟩)
            rw [hec]
            exact pure_ok hc h2 (D.mems k)
        | read =>
          rcases D.read i o ho hc with ⟨h1, h2⟩ | ⟨h1, h2⟩
          · rw [wantedA_ok I.frr (hwc.trans h1), if_neg (by simp)]
            exact skip (by rw [hc]; decide) (by rw [hc]; decide) h2
          · rw [wantedA_ok I.frr (hwc.trans h1), if_pos rfl]
            obtain ⟨M', h3⟩ := h2 k hlo hhi
            refine .inl (still (by rw [hc]; decide) (by rw [hc]; decide) ⟨M', ?_, read_ok hc h3⟩)
            rw [hec]
            exact h3
        | flt =>
          rcases D.flt i o ho hc with ⟨h1, h2, h3⟩ | ⟨h1, row, h2, h3⟩
          · rw [wantedA_ok I.frr (hwc.trans h1), if_neg (by simp)]
            have I2 := I.still ho hr hL' (hne (by rw [hc]; decide)) h3 (v := undef) (by rw [h2]; exact VR.undef ι)
            exact ih _ _ _ _ _ _ I2 hsz' hun'
          · rw [wantedA_ok I.frr (hwc.trans h1), if_pos rfl]
            refine .inl ?_
            have hfl : evFl T fr o (D.fid i) = some (D.vals i, row) := by
              rw [← h3]
              exact evFl_congr T hopn _
            obtain ⟨v, obj, size, g1, g2, g3⟩ := evFl_ok ok I.frr (I.open' i row h2 hLi) hfl (w := w)
            unfold Oper.wp
            rw [g1]
            have I2 := I.float ho hLi hr hL' (hne (by rw [hc]; decide)) h2 g2 g3
            exact ih _ _ _ _ _ _ I2 hsz' hun'
        | eff =>
          have hmem := (D.effs i o ho).1 hc
          obtain ⟨k', hk'⟩ := List.getElem?_of_mem hmem
          have hkk : k' = k := by
            have h1 : ¬ k' < k := fun h => by
              have := (I.Lk k' i hk').2 h
              rw [hLi] at this; cases this
            rcases Nat.lt_or_ge k k' with h2 | h2
            · exfalso
              have hlen : k' < D.eff.length := by
                rcases Nat.lt_or_ge k' D.eff.length with h | h
                · exact h
                · rw [List.getElem?_eq_none h] at hk'; cases hk'
              obtain ⟨e, he⟩ : ∃ e, D.eff[k' - 1]? = some e := ⟨D.eff[k' - 1]'(by omega), List.getElem?_eq_getElem (by omega)⟩
              have hb := D.chain (k' - 1) e i he (by rw [show k' - 1 + 1 = k' by omega]; exact hk')
              have hLe := closed_bf D.back I.closed i o (by simpa using ho) hr hb
              have := (I.Lk (k' - 1) e he).1 hLe
              omega
            · omega
          subst hkk
          have hdue : ∀ f row, D.frow f = some row → hi (masks ops.toList []) D.eff f = k' → listed.getD f false = true := by
            intro f row hf hfk
            have hb : bf (masks ops.toList []) f i = true := by
              have := tw_at (p := fun e => !bf (masks ops.toList []) f e) (l := D.eff) (e := i) (by
                have : (D.eff.takeWhile (fun e => !bf (masks ops.toList []) f e)).length = k' := hfk
                rw [this]; exact hk')
              simpa using this
            exact closed_bf D.back I.closed i o (by simpa using ho) hr hb
          obtain ⟨SA, _, _⟩ := I.adopt hdue
          have hfn := hnf (by rw [hc]; decide)
          rcases D.effk k' i o hk' ho with ⟨h1, h2, h3⟩ | ⟨h1, h2⟩
          · rw [wantedA_ok I.frr (hwc.trans h1), if_neg (by simp)]
            have I2 := I.effect ho hLi hr hL' hk' hfn hdue (v := undef) (by rw [h3]; exact Stp.refl SA.rel) (by rw [h2]; exact VR.undef ι)
            exact ih _ _ _ _ _ _ I2 hsz' hun'
          · rw [wantedA_ok I.frr (hwc.trans h1), if_pos rfl]
            refine .inl ?_
            rcases h2 with h2 | ⟨g, args, F, hcal, hF, hcall⟩
            · have he : evalOp T fr o (D.ad k') = some (D.vals i, D.mems (k' + 1)) := by rw [hec]; exact h2
              obtain ⟨ι', w', n, v, g1, g2, g3, g4⟩ := evalOp_ok ok SA.rel I.frr he
              unfold Oper.wp
              rw [g1]
              have I2 := I.effect ho hLi hr hL' hk' hfn hdue g4 g3
              have := ih _ _ _ _ _ _ I2 hsz' hun'
              rcases g2 with rfl | ⟨rfl, rfl⟩ <;> exact this
            · have hcal' : calleeA fr o = some (g, args) := by rw [callee_congr hopn]; exact hcal
              refine callee_wp ok I.frr SA.rel hcal' hF hcall ?_
              rintro ι' v x M' w'' g3 g4 ⟨rfl, rfl⟩
              have I2 := I.effect ho hLi hr hL' hk' hfn hdue g4 g3
              exact ih _ _ _ _ _ _ I2 hsz' hun'
  -- the start
  refine key ops.size _ a0 _ 0 ι0 st0.t ⟨?_, Nat.zero_le _, Nat.le_refl _, ?_, hs.1, hs.2.2.1, hs.2.1, ?_, ?_, ?_, ?_, ?_⟩ (by simp) ?_
  · intro i o ho hL
    simp [Array.getElem?_replicate] at hL
    split at hL <;> simp at hL
  · intro j e he
    simp [Array.getElem?_replicate]
    split <;> simp
  · intro t
    refine ⟨fun j o _ _ => ?_, fun _ => rfl⟩
    have : (Array.replicate ops.size false).getD j false = false := by
      simp [Array.getElem?_replicate]
      split <;> simp
    simp only
    rw [this]; rfl
  · have h0 : Stp ι0 st0.m w0 ι0 st0.m { w0 with drawn := w0.drawn + 1 } := Stp.of_heap hs.2.2.2 rfl rfl rfl rfl
    exact h0.forget D.mem0 fun b r h => by rw [← D.mem0g]; exact h
  · intro f row _ hL
    have : (Array.replicate ops.size false).getD f false = false := by
      simp [Array.getElem?_replicate]
      split <;> simp
    rw [this] at hL; cases hL
  · intro f row hf _
    cases hq : ι0 (D.fid f) with
    | none => rfl
    | some l =>
      have h1 := hs.2.2.2.dom _ _ hq
      have h2 := (D.fidr f row hf).1
      omega
  · intro f g rf rg l l' hf hg hL
    have : (Array.replicate ops.size false).getD f false = false := by
      simp [Array.getElem?_replicate]
      split <;> simp
    rw [this] at hL; cases hL
  · unfold unl
    exact Nat.le_trans (List.countP_le_length) (by simp)

end Go.AM
