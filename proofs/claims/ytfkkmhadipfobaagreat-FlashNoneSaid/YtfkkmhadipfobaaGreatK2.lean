import Derived.Test.YtfkkmhadipfobaaGreatA37
import Derived.Test.YtfkkmhadipfobaaGreatK1
import Derived.Test.YtfkkmhadipfobaaGreatY7
set_option linter.unusedSimpArgs false
set_option linter.unusedVariables false
set_option linter.unusedSectionVars false
/- wear's Least, Most, Spread; the document's. -/
set_option maxRecDepth 100000
namespace Go.Proofs.YtfkkmhadipfobaaGreat
open Go.AM
end Go.Proofs.YtfkkmhadipfobaaGreat

/- Audit's Spread, Limit, lost, twice, Why. -/
set_option maxRecDepth 100000
namespace Go.Proofs.YtfkkmhadipfobaaGreat
open Go.AM
theorem Rd.ws {C C' : Chip} (h : Rd C C') (n : Nat) : wsN C' n = wsN C n ∧ gdN C' n = gdN C n := by
  constructor
  · unfold wsN wearOf; rw [h.bs]
  · unfold gdN failed; rw [h.bs, h.fs]
end Go.Proofs.YtfkkmhadipfobaaGreat

/- LeafErases. -/
set_option maxRecDepth 100000
namespace Go.Proofs.YtfkkmhadipfobaaGreat
open Go.AM
end Go.Proofs.YtfkkmhadipfobaaGreat

/- AuditWears. -/
set_option maxRecDepth 100000
namespace Go.Proofs.YtfkkmhadipfobaaGreat
open Go.AM

/-- Calm, blank, and erased so often at most. -/
structure Tm (C : Chip) (i : Nat) : Prop where
  calm : Calm C
  pgs : ∀ B ∈ C.bs, B.by' = List.replicate (C.g.pg.toNat * rawN C.g) 255#8
  wear : ∀ B ∈ C.bs, 0 ≤ B.wear ∧ B.wear ≤ (i : Int)

theorem Tm.new {g : Geo} {fsA : AV} {fs : List Flt} {bb : Nat} {bs : List Blk} (h : blank g bs) : Tm (newChip g fsA fs bb bs) 0 :=
  ⟨⟨rfl, rfl⟩, fun B hB => by have := h B hB; rw [this]; rfl, fun B hB => by have := h B hB; rw [this]; exact ⟨Int.le_refl _, Int.le_refl _⟩⟩

/-! ## Awake -/

end Go.Proofs.YtfkkmhadipfobaaGreat

/- AuditTwice. -/
set_option maxRecDepth 100000
namespace Go.Proofs.YtfkkmhadipfobaaGreat
open Go.AM
end Go.Proofs.YtfkkmhadipfobaaGreat

/- rank: Last, Stale. -/
set_option maxRecDepth 100000
namespace Go.Proofs.YtfkkmhadipfobaaGreat
open Go.AM
end Go.Proofs.YtfkkmhadipfobaaGreat

/- rank: maps of founds by pages. -/
set_option maxRecDepth 100000
namespace Go.Proofs.YtfkkmhadipfobaaGreat
open Go.AM
end Go.Proofs.YtfkkmhadipfobaaGreat

/- rank: newest. -/
set_option maxRecDepth 100000
namespace Go.Proofs.YtfkkmhadipfobaaGreat
open Go.AM
end Go.Proofs.YtfkkmhadipfobaaGreat

/- rank: All. -/
set_option maxRecDepth 100000
namespace Go.Proofs.YtfkkmhadipfobaaGreat
open Go.AM
end Go.Proofs.YtfkkmhadipfobaaGreat

/- slices.SortFunc of few. -/
set_option maxRecDepth 100000
namespace Go.Proofs.YtfkkmhadipfobaaGreat
open Go.AM

/-- A call whose arguments bear no address, and that comes to a number, reckoned out. -/
theorem closed_int {g : FuncId} {args : List AV} {z : Int} {n : Nat} (hp : ∀ x ∈ args, Plain x)
    (h : (match evalF tb noOrc 100000 n g args ⟨0, .e⟩ with | some (.val (.int .i64 c), _) => decide (c = z) | _ => false) = true) (M : Mem) :
    CallA tb.P g args M fun x N => x = i64 z ∧ N = M := by
  cases he : evalF tb noOrc 100000 n g args ⟨0, .e⟩ with
  | none => rw [he] at h; cases h
  | some r =>
    obtain ⟨x, N⟩ := r
    have hc := evalF_ok tb_ok tb_mix tb_fns (noOrc_ok tb) n g args ⟨0, .e⟩ x N he
    rw [he] at h
    have hx : x = .val (.int .i64 z) := by
      split at h
      · rename_i c N' heq
        injection heq with heq; injection heq with h1 h2
        rw [h1, of_decide_eq_true h]
      · cases h
    exact CallA.closed hc (fun y N' hy => by rw [hy.1, hx]) (fun _ _ _ h => VRs.plain hp h) (fun _ _ _ h => by cases h; exact .val _ rfl) M

end Go.Proofs.YtfkkmhadipfobaaGreat

/- A flash in memory; list of none. -/
set_option maxRecDepth 100000
namespace Go.Proofs.YtfkkmhadipfobaaGreat
open Go.AM
/-- What is written of a flash: its chip, its maps, its numbers. -/
structure Fl where
  p : AV
  g : Geo
  mf : Nat
  mb : Nat
  mp : Nat
  ms : Nat
  seq : Int
  ep : Int
  now : Int
  deg : Bool
def flC (F : Fl) : List AV := [F.p, i64 F.g.bl, i64 F.g.pg, i64 F.g.by', i64 F.g.sp, i64 F.g.tr, .map F.mf, .map F.mb, .map F.mp, .map F.ms, i64 F.seq, i64 F.ep, i64 F.now, bv F.deg]

end Go.Proofs.YtfkkmhadipfobaaGreat

/- flash: bad, lost, worn. -/
set_option maxRecDepth 100000
namespace Go.Proofs.YtfkkmhadipfobaaGreat
open Go.AM
/-- A flash whose chip stands in memory. -/
structure FlAt (M : Mem) (f : Nat) (F : Fl) (p : Nat) (C : Chip) : Prop where
  fl : M.get f = some (.cells (flC F) true)
  chip : ChipAt M p C
  ptr : F.p = .ptr p 0
  geo : F.g = C.g
theorem FlAt.keep {M N : Mem} {f : Nat} {F : Fl} {p : Nat} {C : Chip} (h : FlAt M f F p C) (hw : M.WF) (hk : Keep M N []) : FlAt N f F p C := ⟨hk.get hw h.fl (by simp), h.chip.keep hw hk, h.ptr, h.geo⟩
end Go.Proofs.YtfkkmhadipfobaaGreat

/- flash: Mount of a calm chip that holds no page. -/
set_option maxRecDepth 100000
namespace Go.Proofs.YtfkkmhadipfobaaGreat
open Go.AM
/-- What Mount's loop keeps. -/
structure Mt0 (M0 : Mem) (p : Nat) (C : Chip) (f : Nat) (F : Fl) (P : Mem) (C' : Chip) : Prop where
  st : Step M0 P p C C'
  calm : Calm C'
  bs : C'.bs = C.bs
theorem Mt0.post {M0 : Mem} {p : Nat} {C : Chip} {f : Nat} {F : Fl} {P Q : Mem} {C' : Chip} (h : Mt0 M0 p C f F P C') (k : Keep P Q []) : Mt0 M0 p C f F Q C' := ⟨h.st.post k, h.calm, h.bs⟩

end Go.Proofs.YtfkkmhadipfobaaGreat

/- flash: the calls at no flash; FlashNone but for awake. -/
set_option maxRecDepth 100000
namespace Go.Proofs.YtfkkmhadipfobaaGreat
open Go.AM

theorem nil_nil22 {M : Mem} {xo yo : Operand} : eBin tb .eql 22 xo yo (.val (.pointer none)) (.val (.pointer none)) M = some (.val (.bool true), M) := eBin_some (by kernel_rfl)

set_option maxRecDepth 1000000 in
theorem n_asked (M : Mem) (z : Int) : CallA tb.P 23 [.val (.pointer none), i64 z] M fun y N => y = i64 1 ∧ N = M :=
  closed_int (n := 60) (fun x hx => by simp only [List.mem_cons, List.not_mem_nil, or_false] at hx; rcases hx with rfl | rfl <;> exact .val _) (by kernel_rfl) M
set_option maxRecDepth 1000000 in
theorem n_write (M : Mem) (z : Int) : CallA tb.P 7 [.val (.pointer none), i64 z, .val (.slice none 0 0)] M fun y N => y = i64 1 ∧ N = M :=
  closed_int (n := 60) (fun x hx => by simp only [List.mem_cons, List.not_mem_nil, or_false] at hx; rcases hx with rfl | rfl | rfl <;> exact .val _) (by kernel_rfl) M
set_option maxRecDepth 1000000 in
theorem n_trim (M : Mem) (z : Int) : CallA tb.P 8 [.val (.pointer none), i64 z] M fun y N => y = i64 1 ∧ N = M :=
  closed_int (n := 60) (fun x hx => by simp only [List.mem_cons, List.not_mem_nil, or_false] at hx; rcases hx with rfl | rfl <;> exact .val _) (by kernel_rfl) M
set_option maxRecDepth 1000000 in
theorem n_flush (M : Mem) : CallA tb.P 9 [.val (.pointer none)] M fun y N => y = i64 1 ∧ N = M :=
  closed_int (n := 60) (fun x hx => by simp only [List.mem_cons, List.not_mem_nil, or_false] at hx; subst hx; exact .val _) (by kernel_rfl) M
set_option maxRecDepth 1000000 in
theorem n_logical (M : Mem) : CallA tb.P 12 [.val (.pointer none)] M fun y N => y = i64 0 ∧ N = M :=
  closed_int (n := 60) (fun x hx => by simp only [List.mem_cons, List.not_mem_nil, or_false] at hx; subst hx; exact .val _) (by kernel_rfl) M
set_option maxRecDepth 1000000 in
theorem n_degraded (M : Mem) : CallA tb.P 10 [.val (.pointer none)] M fun y N => y = .val (.bool false) ∧ N = M :=
  closed_bool tb_ok tb_mix tb_fns (noOrc_ok tb) (L := 1000000) (n := 60) (fun x hx => by simp only [List.mem_cons, List.not_mem_nil, or_false] at hx; subst hx; exact .val _) (by kernel_rfl) M
theorem n_read (M : Mem) (z : Int) : CallA tb.P 5 [.val (.pointer none), i64 z] M fun y N => y = .tup [.val (.slice none 0 0), i64 1] ∧ N = M := by
  refine F5_ok ?_
  unfold F5
  simp only [i64, zI_int]
  refine (n_asked M z).mono ?_
  rintro y N ⟨rfl, hN⟩
  simp only [i64, zI_int]
  refine condB_i (fun _ => ⟨by trivial, hN⟩) (fun h => by simp at h)
theorem n_mount (M : Mem) : CallA tb.P 6 [.val (.pointer none)] M fun y N => y = .tup [.val (.pointer none), i64 1] ∧ N = M := by
  refine F6_ok ?_
  unfold F6
  rw [nil_nil24, bindO_some]
  simp only [zB_bool]
  exact condB_i (fun _ => ⟨by trivial, by trivial⟩) (fun h => by simp at h)
theorem n_chip (M : Mem) : CallA tb.P 11 [.val (.pointer none)] M fun y N => y = .val (.pointer none) ∧ N = M := by
  refine F11_ok ?_
  unfold F11
  rw [nil_nil22, bindO_some]
  simp only [zB_bool]
  exact condB_i (fun _ => ⟨by trivial, by trivial⟩) (fun h => by simp at h)
theorem n_pages (M : Mem) : CallA tb.P 13 [.val (.pointer none)] M fun y N => y = .val (.slice none 0 0) ∧ N = M := by
  refine F13_ok ?_
  unfold F13
  refine (n_logical M).mono ?_
  rintro y N ⟨rfl, hN⟩
  simp only [i64, zI_int]
  refine ⟨fun x z n P => x = .val (.slice none 0 0) ∧ z = 0 ∧ P = N, ⟨0, rfl, rfl, rfl⟩, ?_⟩
  rintro _ x z n P ⟨rfl, rfl, rfl⟩
  exact condB_i (fun h => by simp at h) (fun _ => ⟨by trivial, hN⟩)

set_option maxRecDepth 100000 in
/-- FlashNone, if awake tells so. -/
theorem none_but (ha : ∀ N, CallA tb.P 14 [] N fun y _ => y = .val (.bool true)) (M : Mem) (z : Int) : CallA tb.P 3 [i64 z] M fun y _ => y = .val (.bool true) := by
  refine F3_ok ?_
  unfold F3
  simp only [i64, zI_int]
  refine (n_read M z).mono ?_
  rintro y M3 ⟨rfl, _⟩
  refine ⟨_, _, rfl, ?_⟩
  refine (n_mount M3).mono ?_
  rintro y M7 ⟨rfl, _⟩
  refine ⟨_, _, rfl, ?_⟩
  refine letP_i fun K hK => ?_
  rw [eLen_some (M := M7) ((SlAt.nil (k := 1) (M := M7)).len (T := tb) (t := 23) (M' := M7) ty23 rfl), bindO_some]
  simp only [zI_int]
  refine condB_i (fun _ => ?_) (fun h => by simp at h)
  refine condB_i (fun _ => ?_) (fun h => by simp at h)
  refine (n_write M7 z).mono ?_
  rintro y M13 ⟨rfl, _⟩
  simp only [i64, zI_int]
  refine condB_i (fun _ => ?_) (fun h => by simp at h)
  refine (n_trim M13 z).mono ?_
  rintro y M16 ⟨rfl, _⟩
  simp only [i64, zI_int]
  refine condB_i (fun _ => ?_) (fun h => by simp at h)
  refine (n_flush M16).mono ?_
  rintro y M19 ⟨rfl, _⟩
  simp only [i64, zI_int]
  refine condB_i (fun _ => ?_) (fun h => by simp at h)
  refine (n_degraded M19).mono ?_
  rintro y M22 ⟨rfl, _⟩
  simp only [zB_bool]
  refine condB_i (fun _ => ?_) (fun h => by simp at h)
  refine (n_chip M22).mono ?_
  rintro y M25 ⟨rfl, _⟩
  rw [nil_nil24, bindO_some]
  simp only [zB_bool]
  refine condB_i (fun _ => ?_) (fun h => by simp at h)
  refine (n_logical M25).mono ?_
  rintro y M29 ⟨rfl, _⟩
  simp only [i64, zI_int]
  refine condB_i (fun _ => ?_) (fun h => by simp at h)
  refine (n_pages M29).mono ?_
  rintro y M32 ⟨rfl, _⟩
  rw [eLen_some (M := M32) ((SlAt.nil (k := 1) (M := M32)).len (T := tb) (t := 36) (M' := M32) ty36 rfl), bindO_some]
  simp only [zI_int]
  refine condB_i (fun _ => ?_) (fun h => by simp at h)
  rw [nil_nil22, bindO_some]
  simp only [zB_bool]
  refine condB_i (fun _ => ?_) (fun h => by simp at h)
  refine condB_i (fun _ => ?_) (fun h => by simp at h)
  refine (ha M32).mono ?_
  rintro y M38 rfl
  simp only [zB_bool]
  rw [hK]

end Go.Proofs.YtfkkmhadipfobaaGreat

/- FlashNone. -/
set_option maxRecDepth 100000
namespace Go.Proofs.YtfkkmhadipfobaaGreat
open Go.AM

theorem flash_none (M : Mem) (hw : M.WF) (z : Int) : CallA tb.P 3 [.val (.int .i64 z)] M fun y _ => y = .val (.bool true) :=
  none_but (fun N => (flash_awake N).mono fun y _ h => h.1) M z

end Go.Proofs.YtfkkmhadipfobaaGreat
