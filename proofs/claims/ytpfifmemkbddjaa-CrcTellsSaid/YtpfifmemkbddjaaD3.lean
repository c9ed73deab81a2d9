/- The laws' arguments; CrcTells. -/
import Derived.Test.YtpfifmemkbddjaaD2
import Derived.Test.YtpfifmemkbddjaaRows
set_option linter.unusedVariables false
namespace Go.Proofs.Ytpfifmemkbddjaa
open Go.AM
open Go.ChangeShapes Go.WideShapes Go.RowKit
set_option linter.unusedSimpArgs false

theorem memOf_wf (W : World) : (memOf W).WF := fun b r h => by
  rw [memOf_get] at h
  obtain ⟨o, h1, _⟩ := Option.bind_eq_some_iff.1 h
  exact (Array.getElem?_eq_some_iff.1 h1).1

theorem bv_of {n : Nat} {z : Int} (h0 : 0 ≤ z) (h : z < 2 ^ n) : ∃ b : BitVec n, z = (b.toNat : Int) := by
  refine ⟨BitVec.ofNat n z.toNat, ?_⟩
  rw [BitVec.toNat_ofNat, Nat.mod_eq_of_lt]
  · omega
  · have : (z.toNat : Int) < ((2 ^ n : Nat) : Int) := by rw [Int.toNat_of_nonneg h0]; simpa using h
    exact Int.ofNat_lt.1 this

theorem bvs_of : ∀ {zs : List Int}, (∀ z ∈ zs, 0 ≤ z ∧ z ≤ 255) → ∃ l : List (BitVec 8), l.length = zs.length ∧ intsA .u8 zs = bvs l
  | [], _ => ⟨[], rfl, rfl⟩
  | z :: zs, h => by
    obtain ⟨l, h1, h2⟩ := bvs_of (zs := zs) fun y hy => h y (by simp [hy])
    obtain ⟨b, hb⟩ := bv_of (n := 8) (h z (by simp)).1 (by have := (h z (by simp)).2; omega)
    exact ⟨b :: l, by simp [h1], by rw [hb]; show _ :: intsA .u8 zs = _ :: bvs l; rw [h2]; rfl⟩

/-- An argument that is bytes. -/
theorem bytes_arg {H : Type} {enc : TypeId × Value → H} {W : World} {t e : TypeId} (ht : Try.prog.underlying t = some (.slice e)) (he : Try.prog.underlying e = some (.int .u8)) (hc : Try.prog.cellsOf e = 1) {base : Nat} {v : Value} {d : DataW H} {ps : List MemPlace}
    (hval : Value.okWide Try.prog W .any base t v) (hd : DataW.Trod enc Try.prog W 0 (fun _ => true) true t v d ps) :
    ∃ (x : AV) (l : List (BitVec 8)), VR (injOf W) x v ∧ BytesAt (memOf W) x l ∧ l.length ≤ 9223372036854775807 := by
  obtain ⟨x, zs, h1, h2, h3, h4⟩ := ints_arg ht he hc hval hd
  obtain ⟨l, h5, h6⟩ := bvs_of (zs := zs) fun z hz => by
    have := h4 z hz
    have e1 : IntKind.u8.min = 0 := rfl
    have e2 : IntKind.u8.max = 255 := rfl
    omega
  refine ⟨x, l, h1, ?_, by omega⟩
  unfold BytesAt
  refine ⟨by simp, ?_⟩
  rcases h2 with ⟨rfl, rfl⟩ | ⟨b, o, c, cs, rw', rfl, g1, g2, g3, g4, g5⟩
  · exact .inl ⟨rfl, by simpa using h5⟩
  · refine .inr ⟨b, o, c, none, by rw [h5], ⟨by omega, .inl rfl⟩, ?_⟩
    rcases g4 with g4 | g4
    · left; omega
    · exact .inr ⟨cs, rw', g3, by omega, by rw [Nat.mul_one, h5, g5, h6]⟩

theorem u32_arg {H : Type} {enc : TypeId × Value → H} {W : World} {t : TypeId} (ht : Try.prog.underlying t = some (.int .u32)) {base : Nat} {v : Value} {d : DataW H} {ps : List MemPlace}
    (hval : Value.okWide Try.prog W .any base t v) (hd : DataW.Trod enc Try.prog W 0 (fun _ => true) true t v d ps) : ∃ s : BitVec 32, v = .int .u32 (s.toNat : Int) := by
  obtain ⟨n, rfl, _, _, hw⟩ := open_int ht hval hd
  have h1 : IntKind.u32.min ≤ n ∧ n ≤ IntKind.u32.max := by simpa [Lit.wf] using hw
  have e1 : IntKind.u32.min = 0 := rfl
  have e2 : IntKind.u32.max = 4294967295 := rfl
  obtain ⟨b, hb⟩ := bv_of (n := 32) (z := n) (by omega) (by omega)
  exact ⟨b, by rw [hb]⟩

theorem crc_tells (M : Mem) (hw : M.WF) (x : AV) (l : List (BitVec 8)) (s : BitVec 32) (hx : BytesAt M x l) (hl : l.length ≤ 9223372036854775807) :
    CallA tb.P 3 [x, .val (.int .u32 s.toNat)] M fun y _ => y = .val (.bool true) := by
  refine F3_ok ?_
  unfold F3
  simp only [zI_int]
  refine bindO_i (eLen_some hx.len) ?_
  simp only [zI_int]
  refine condB_i (fun _ => ?_) (fun hle => ?_)
  · refine (crc_awake M hw).mono ?_
    rintro y N ⟨rfl, _⟩
    simp only [zB_bool]
  · have hle : l.length ≤ 500 := by have : ¬ (l.length : Int) > 500 := by simpa using hle
                                    omega
    refine (lend M x l hw hx (by omega)).mono ?_
    rintro y N ⟨rfl, rfl⟩
    simp only [letP_eq]
    have hg : (M.new (.cells (lent l) true)).get M.next = some (.cells (lent l) true) := by rw [Mem.get_new, if_pos rfl]
    have hx1 : BytesAt (M.new (.cells (lent l) true)) x l := SlAt.keep0 hx hw (Keep.new hw _)
    refine (crc_of _ _ l (lent_at hg) (by omega)).mono ?_
    rintro y N ⟨rfl, rfl⟩
    simp only [zI_int]
    refine (ref_of _ _ l hx1 (by omega)).mono ?_
    rintro y N ⟨rfl, rfl⟩
    simp only [zI_int]
    refine condB_i (fun _ => ?_) (fun h => by simp at h)
    refine (crc_more _ s _ l (lent_at hg) (by omega)).mono ?_
    rintro y N ⟨rfl, rfl⟩
    simp only [zI_int]
    refine (ref_more _ s _ l hx1 (by omega)).mono ?_
    rintro y N ⟨rfl, rfl⟩
    simp only [zI_int]
    refine condB_i (fun _ => ?_) (fun h => by simp at h)
    refine (kept _ M.next x l l hg hx1 (by omega)).mono ?_
    rintro y N ⟨rfl, rfl⟩
    simp only [zB_bool]
    refine condB_i (fun _ => ?_) (fun h => by simp at h)
    refine (crc_awake _ (hw.new _)).mono ?_
    rintro y N ⟨rfl, _⟩
    simp only [zB_bool]

theorem Try.own : ownKnob Try.prog.godebug = none := by kernel_rfl
theorem Try.laidOut : laidOutB Try.prog = true := by kernel_rfl

set_option maxRecDepth 100000 in
theorem tells_lifted (os : Os) (started : os.Started) (H : Type) (enc : TypeId × Value → H) :
    ReturnsInHanded {} Try.checked os 3 .any (Rows.crcTellsSpec.pre6 enc Try.prog Try.f3 Rows.crcTellsRow.domain false) (Rows.crcTellsSpec.post enc Try.prog Try.f3 false true false false) := by
  refine law_lift (C := Try.checked) (f := 3) (fn := Try.f3) (tb := 4) Try.own started (by kernel_rfl) Try.func3 Try.laidOut
    (ChangeSpec.witness6 (enc := enc) (C := Try.checked) false ⟨#[], #[.slice none 0 0, .int .u32 0], []⟩ 8 (by kernel_rfl) (by kernel_rfl) (by kernel_rfl) (by kernel_rfl))
    rfl (fun ds hds => ?_) ?_ (by kernel_rfl) (by kernel_rfl) ?_
  · have hp : Try.f3.params.size = 2 := by kernel_rfl
    rw [hp] at hds
    obtain ⟨a, b, rfl⟩ : ∃ a b, ds = [a, b] := by
      match ds, hds with
      | [a, b], _ => exact ⟨a, b, rfl⟩
    rfl
  · have hp : (Try.f3.params.toList.all fun t => Try.prog.readableRec t && decide (t < Try.prog.types.size)) = true := by kernel_rfl
    intro t ht
    have := List.all_eq_true.1 hp t ht
    rw [Bool.and_eq_true, decide_eq_true_eq] at this
    exact this
  · intro W base args ds ps hval0 hA0
    have hval : ∀ (j : Nat) t v, Try.f3.params[j]? = some t → args[j]? = some v → Value.okWide Try.prog W .any base t v := hval0
    have hA : DataW.TrodAll enc Try.prog W 0 (fun _ => true) true Try.f3.params.toList args.toList ds ps := hA0
    have hp : Try.f3.params = #[22, 23] := by kernel_rfl
    rw [hp] at hA hval
    obtain ⟨v0, v1, d0, d1, p0, p1, rfl, rfl, rfl, h0, h1⟩ := trodAll_two hA
    obtain ⟨x, l, g1, g2, g3⟩ := bytes_arg (t := 22) (e := 5) (by kernel_rfl) (by kernel_rfl) (by kernel_rfl) (hval 0 22 v0 rfl rfl) h0
    obtain ⟨s, rfl⟩ := u32_arg (t := 23) (by kernel_rfl) (hval 1 23 v1 rfl rfl) h1
    exact calls_of_calla (crc_tells _ (memOf_wf W) x l s g2 g3) (.cons _ _ _ _ g1 (.cons _ _ _ _ (.val _ rfl) .nil))

theorem tells_holds : Rows.CrcTellsSaid :=
  OpenClaim.holds_of_wide 3 Try.f3 rfl rfl rfl rfl rfl rfl rfl ⟨rfl, rfl, rfl, rfl, rfl⟩ rfl rfl rfl rfl rfl (by kernel_rfl) Try.func3 (by kernel_rfl)
    (of_decide_eq_true (by kernel_rfl)) (by unfold Func.isWrapper; first | (rw [if_pos (by decide +kernel)]; kernel_rfl) | (rw [if_neg (by decide +kernel)]; exact ⟨rfl, rfl⟩))
    (fun os started H enc _ => tells_lifted os started H enc)

end Go.Proofs.Ytpfifmemkbddjaa
