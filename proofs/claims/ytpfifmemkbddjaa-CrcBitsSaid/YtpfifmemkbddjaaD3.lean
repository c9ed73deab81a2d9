/- The laws' arguments; CrcTells. -/
import Derived.Test.YtpfifmemkbddjaaD2
import Derived.Test.YtpfifmemkbddjaaB2
import Derived.Test.YtpfifmemkbddjaaRows
set_option linter.unusedVariables false
namespace Go.Proofs.Ytpfifmemkbddjaa
open Go.AM
open Go.ChangeShapes Go.WideShapes Go.RowKit
set_option linter.unusedSimpArgs false

theorem bvs_of : ∀ {zs : List Int}, (∀ z ∈ zs, 0 ≤ z ∧ z ≤ 255) → ∃ l : List (BitVec 8), l.length = zs.length ∧ intsA .u8 zs = bvs l
  | [], _ => ⟨[], rfl, rfl⟩
  | z :: zs, h => by
    obtain ⟨l, h1, h2⟩ := bvs_of (zs := zs) fun y hy => h y (by simp [hy])
    obtain ⟨b, hb⟩ := bv_of (n := 8) (h z (by simp)).1 (by have := (h z (by simp)).2; omega)
    exact ⟨b :: l, by simp [h1], by rw [hb]; show _ :: intsA .u8 zs = _ :: bvs l; rw [h2]; rfl⟩

/-- An argument that is bytes. -/
theorem bytes_arg {H : Type} {enc : TypeId × Value → H} {W : World} {t e : TypeId} (ht : Try.prog.underlying t = some (.slice e)) (he : Try.prog.underlying e = some (.int .u8)) (hc : Try.prog.cellsOf e = 1) {base : Nat} {v : Value} {d : DataW H} {ps : List MemPlace}
    (hval : Value.okWide Try.prog W .any base t v) (hd : DataW.Trod enc Try.prog W 0 (fun _ => true) true t v d ps) :
    ∃ (x : AV) (l : List (BitVec 8)), VR (injOf W) x v ∧ BytesAt (memOf W) x l ∧ l.length ≤ 9223372036854775807 := by
  obtain ⟨x, zs, h1, h2, h3, h4⟩ := ints_arg ht he hc hval hd
  obtain ⟨l, h5, h6⟩ := bvs_of (zs := zs) fun z hz => by
    have := h4 z hz
    have e1 : IntKind.u8.min = 0 := rfl
    have e2 : IntKind.u8.max = 255 := rfl
    omega
  refine ⟨x, l, h1, ?_, by omega⟩
  unfold BytesAt
  refine ⟨by simp, ?_⟩
  rcases h2 with ⟨rfl, rfl⟩ | ⟨b, o, c, cs, rw', rfl, g1, g2, g3, g4, g5⟩
  · exact .inl ⟨rfl, by simpa using h5⟩
  · refine .inr ⟨b, o, c, none, by rw [h5], ⟨by omega, .inl rfl⟩, ?_⟩
    rcases g4 with g4 | g4
    · left; omega
    · exact .inr ⟨cs, rw', g3, by omega, by rw [Nat.mul_one, h5, g5, h6]⟩

theorem crc_tells (M : Mem) (hw : M.WF) (x : AV) (l : List (BitVec 8)) (s : BitVec 32) (hx : BytesAt M x l) (hl : l.length ≤ 9223372036854775807) :
    CallA tb.P 3 [x, .val (.int .u32 s.toNat)] M fun y _ => y = .val (.bool true) := by
  refine F3_ok ?_
  unfold F3
  simp only [zI_int]
  refine bindO_i (eLen_some hx.len) ?_
  simp only [zI_int]
  refine condB_i (fun _ => ?_) (fun hle => ?_)
  · refine (crc_awake M hw).mono ?_
    rintro y N ⟨rfl, _⟩
    simp only [zB_bool]
  · have hle : l.length ≤ 500 := by have : ¬ (l.length : Int) > 500 := by simpa using hle
                                    omega
    refine (lend M x l hw hx (by omega)).mono ?_
    rintro y N ⟨rfl, rfl⟩
    simp only [letP_eq]
    have hg : (M.new (.cells (lent l) true)).get M.next = some (.cells (lent l) true) := by rw [Mem.get_new, if_pos rfl]
    have hx1 : BytesAt (M.new (.cells (lent l) true)) x l := SlAt.keep0 hx hw (Keep.new hw _)
    refine (crc_of _ _ l (lent_at hg) (by omega)).mono ?_
    rintro y N ⟨rfl, rfl⟩
    simp only [zI_int]
    refine (ref_of _ _ l hx1 (by omega)).mono ?_
    rintro y N ⟨rfl, rfl⟩
    simp only [zI_int]
    refine condB_i (fun _ => ?_) (fun h => by simp at h)
    refine (crc_more _ s _ l (lent_at hg) (by omega)).mono ?_
    rintro y N ⟨rfl, rfl⟩
    simp only [zI_int]
    refine (ref_more _ s _ l hx1 (by omega)).mono ?_
    rintro y N ⟨rfl, rfl⟩
    simp only [zI_int]
    refine condB_i (fun _ => ?_) (fun h => by simp at h)
    refine (kept _ M.next x l l hg hx1 (by omega)).mono ?_
    rintro y N ⟨rfl, rfl⟩
    simp only [zB_bool]
    refine condB_i (fun _ => ?_) (fun h => by simp at h)
    refine (crc_awake _ (hw.new _)).mono ?_
    rintro y N ⟨rfl, _⟩
    simp only [zB_bool]

end Go.Proofs.Ytpfifmemkbddjaa
