import Derived.Test.YtjffimbigamadaaG14
import Derived.Test.YtjffimbigamadaaH8
set_option linter.unusedSimpArgs false
set_option linter.unusedVariables false
set_option linter.unusedSectionVars false
/- Bytes behind a slice: append of noughts; the laws' raw pages. -/
namespace Go.Proofs.Ytjffimbigamadaa
open Go.AM

structure Put where
  b : Int
  k : Int
  n : BitVec 8
  t : Tg
  torn : Int
def putC (x : Put) : List AV := [i64 x.b, i64 x.k, bv8 x.n, i64 x.t.k, i64 x.t.p, i64 x.t.s, i64 x.t.e, i64 x.torn]
theorem putC_len (x : Put) : (putC x).length = 8 := rfl
def PutsAt (M : Mem) (x : AV) (xs : List Put) : Prop := SlAt 8 M x xs.length (xs.flatMap putC)
theorem ty65 : tb.ty.get 65 = some ⟨.sli 133, 1, 24, [.slice none 0 0], none⟩ := by kernel_rfl
theorem ty133 : ∃ ti, tb.ty.get 133 = some ti ∧ ti.size = 8 ∧ ti.isAgg = true := by
  have h : (tb.ty.get 133).map (fun t => (t.size, t.isAgg)) = some (8, true) := by kernel_rfl
  cases h' : tb.ty.get 133 with
  | none => rw [h'] at h; cases h
  | some ti =>
    rw [h'] at h
    simp only [Option.map_some, Option.some.injEq, Prod.mk.injEq] at h
    exact ⟨ti, rfl, h.1, h.2⟩
theorem PutsAt.len {M M' : Mem} {x : AV} {xs : List Put} (h : PutsAt M x xs) : evLenCap tb false 65 x M' = some xs.length := SlAt.len h ty65 rfl
/-- An element, and its place. -/
theorem PutsAt.at {M : Mem} {x : AV} {xs : List Put} (h : PutsAt M x xs) {i : Nat} (hi : i < xs.length) :
    ∃ b o, evIndexAddr tb 65 x (.val (.int .i64 (i : Int))) = some (.ptr b o) ∧ evLoad tb 133 (.ptr b o) M = some (.agg (putC xs[i])) ∧ evLoad tb 30 (.ptr b o) M = some (placeA xs[i].b xs[i].k) := by
  obtain ⟨ti, h1, h2, h3⟩ := ty133
  obtain ⟨b, o, g1, g2⟩ := SlAt.ldAgg h ty65 rfl h1 h2 h3 hi (k' := .i64)
  obtain ⟨b', o', g3, _, g5, g6⟩ := SlAt.at h ty65 rfl h1 h2 hi (k' := .i64)
  rw [g1] at g3
  injection g3 with g3
  injection g3 with e1 e2
  subst e1 e2
  rw [flat_at putC_len hi] at g2
  refine ⟨b, o, g1, g2, ?_⟩
  have hl := flat_at putC_len hi
  have hce : M.cellsAt b o 2 = some [i64 xs[i].b, i64 xs[i].k] := by
    have hc := g6
    unfold Mem.cellsAt at hc ⊢
    split at hc
    · rename_i cs rw' hg
      rw [cond_eq_ite] at hc
      split at hc
      · rename_i hle
        have hle : o + 8 ≤ cs.length := Nat.le_of_ble_eq_true hle
        rw [ble_of (show o + 2 ≤ cs.length by omega), cond_true]
        injection hc with hc
        rw [hl] at hc
        have : (cs.drop o).take 2 = ((cs.drop o).take 8).take 2 := by rw [List.take_take]; rfl
        rw [this, hc]
        rfl
      · cases hc
    · cases hc
  unfold evLoad
  rw [ty30]
  simp only [hce, Option.map_some]
  rfl

end Go.Proofs.Ytjffimbigamadaa

/- Founds compared, written over; a chip and the document's with pages. -/
namespace Go.Proofs.Ytjffimbigamadaa
open Go.AM
theorem FdsAt.len {M M' : Mem} {x : AV} {l : List Fd} (h : FdsAt M x l) : evLenCap tb false 70 x M' = some l.length := SlAt.len h ty70 rfl
theorem FdsAt.at {M : Mem} {x : AV} {l : List Fd} (h : FdsAt M x l) {i : Nat} (hi : i < l.length) :
    ∃ b o, evIndexAddr tb 70 x (.val (.int .i64 (i : Int))) = some (.ptr b o) ∧ evLoad tb 78 (.ptr b o) M = some (.agg (fdC l[i])) := by
  obtain ⟨b, o, g1, g2⟩ := SlAt.ldAgg h ty70 rfl ty78 rfl rfl hi (k' := .i64)
  rw [flat_at fdC_len hi] at g2
  exact ⟨b, o, g1, g2⟩

/-! ## Both, with pages -/

structure Calm (C : Chip) : Prop where
  off : C.off = false
  turn : C.turn = 0

theorem Calm.bg {C : Chip} (h : Calm C) : bgn C = false ∧ bgC C = { C with ops := iAdd .i64 C.ops 1 } ∧ Calm (bgC C) := by
  have h1 : bgn C = false := by unfold bgn; rw [h.turn]; rfl
  have h2 : bgC C = { C with ops := iAdd .i64 C.ops 1 } := by unfold bgC; rw [h1]; rfl
  exact ⟨h1, h2, by rw [h2]; exact ⟨h.off, h.turn⟩⟩
theorem Calm.pg {C : Chip} (h : Calm C) (b k : Int) (d : List (BitVec 8)) : Calm (pgR C b k d).1 := by
  obtain ⟨_, _, h3⟩ := h.bg
  unfold pgR
  split
  · split
    · unfold pgS
      split
      · exact h3
      · split
        · exact h3
        · split
          · exact h3
          · split <;> exact ⟨h3.off, h3.turn⟩
    · exact h
  · exact h
end Go.Proofs.Ytjffimbigamadaa

/- A calm chip looked over; the leaf laws awake. -/
namespace Go.Proofs.Ytjffimbigamadaa
open Go.AM

/-- What the i-th page of a chip holds. -/
def pgI (C : Chip) (i : Nat) : List (BitVec 8) := match C.bs[plB C.g i]? with | some B => pageB B (rawN C.g) (plK C.g i) | none => []
/-- What is gathered of pages that hold such tags, and are so. -/
def foldT {α : Type} (g : Geo) (f : α → Nat → Nat → Tg → Int → α) (bad : Int → Bool) (T : Nat → Tg × Int) (a : α) : Nat → α
  | 0 => a
  | i + 1 => if bad (plB g i) = true then foldT g f bad T a i else f (foldT g f bad T a i) (plB g i) (plK g i) (T i).1 (T i).2
def seeI (C : Chip) (i : Nat) : Tg × Int := (lkT 0 (pgI C i), lkS 0 (pgI C i))

theorem calm_rd {C : Chip} (h : Calm C) {i : Nat} (hm : mayG C.g = true) (hi : i < nP C.g) : rdE C (plB C.g i) (plK C.g i) = 0 ∧ rdB C (plB C.g i) (plK C.g i) = pgI C i ∧ Calm (rdC C (plB C.g i) (plK C.g i)) := by
  obtain ⟨h1, h2, h3⟩ := h.bg
  obtain ⟨hp, _⟩ := pl_is hm hi
  have ha : askd C (plB C.g i) (plK C.g i) = 0 := by unfold askd; rw [h.off, hp]; rfl
  have he : rdE C (plB C.g i) (plK C.g i) = 0 := by unfold rdE; rw [ha, if_pos rfl, h1]; rfl
  refine ⟨he, ?_, by unfold rdC; rw [if_pos ha]; exact h3⟩
  unfold rdB
  rw [if_pos he, Int.toNat_natCast, Int.toNat_natCast]
  rfl

theorem pgI_same {C C' : Chip} (hg : C'.g = C.g) (hb : C'.bs = C.bs) (i : Nat) : pgI C' i = pgI C i := by
  unfold pgI; rw [hg, hb]

theorem calm_ov {α : Type} (f : α → Nat → Nat → Tg → Int → α) {C : Chip} (h : Calm C) (hm : mayG C.g = true) (a : α) : ∀ i, i ≤ nP C.g → (ovN f C a i).2 = (foldT C.g f (badF C.fs) (seeI C) a i, 0) ∧ Calm (ovN f C a i).1
  | 0, _ => ⟨rfl, h⟩
  | i + 1, hi => by
    obtain ⟨e, hc⟩ := calm_ov f h hm a i (by omega)
    obtain ⟨g1, g2, g3⟩ := ovN_same f C a i
    show (ovS f (ovN f C a i) i).2 = _ ∧ Calm (ovS f (ovN f C a i) i).1
    unfold foldT
    generalize ovN f C a i = s at *
    obtain ⟨C', a', e'⟩ := s
    simp only at e hc g1 g2 g3
    injection e with e1 e2
    subst e1 e2
    unfold ovS
    rw [if_neg (by simp)]
    simp only
    rw [g2, g1]
    split
    · exact ⟨rfl, hc⟩
    · obtain ⟨r1, r2, r3⟩ := calm_rd hc (i := i) (by rw [g1]; exact hm) (by rw [g1]; omega)
      rw [g1] at r1 r2 r3
      rw [if_pos r1, r2, pgI_same g1 g3]
      exact ⟨rfl, r3⟩

theorem state_blank {n : Nat} (h1 : 40 ≤ n) (h2 : n ≤ 80) : state (List.replicate n 255#8) = 0 := by
  unfold state lenOk
  rw [List.length_replicate, decide_eq_true ⟨h1, h2⟩, if_pos rfl]
  have : allFF (List.replicate n 255#8) = true := by
    unfold allFF
    rw [List.all_eq_true]
    intro b hb
    rw [List.eq_of_mem_replicate hb]; rfl
  rw [if_pos this]
end Go.Proofs.Ytjffimbigamadaa
