import Derived.Test.YtmifiialedlcnaaB3
import Derived.Test.YtmifiialedlcnaaG3
set_option linter.unusedSimpArgs false
set_option linter.unusedVariables false
/- Faults. -/
namespace Go.Proofs.Ytmifiialedlcnaa
open Go.AM

structure Flt where
  blk : Int
  fac : Bool
  aft : Int
def fltC (f : Flt) : List AV := [i64 f.blk, .val (.bool f.fac), i64 f.aft]
def fltA (f : Flt) : AV := .agg (fltC f)
theorem fltC_len (f : Flt) : (fltC f).length = 3 := rfl
def FltsAt (M : Mem) (x : AV) (fs : List Flt) : Prop := SlAt 3 M x fs.length (fs.flatMap fltC)

theorem ty53 : tb.ty.get 53 = some ⟨.st [(0, 1, false), (1, 1, false), (2, 1, false)], 3, 24, [.int .i64 0, .bool false, .int .i64 0], some [3, 4, 3]⟩ := by kernel_rfl
theorem ty54 : tb.ty.get 54 = some ⟨.sli 53, 1, 24, [.slice none 0 0], none⟩ := by kernel_rfl

theorem FltsAt.len {M M' : Mem} {x : AV} {fs : List Flt} (h : FltsAt M x fs) : evLenCap tb false 54 x M' = some fs.length := SlAt.len h ty54 rfl
theorem FltsAt.at {M : Mem} {x : AV} {fs : List Flt} (h : FltsAt M x fs) {i : Nat} (hi : i < fs.length) :
    ∃ b o, evIndexAddr tb 54 x (.val (.int .i64 (i : Int))) = some (.ptr b o) ∧ evLoad tb 53 (.ptr b o) M = some (fltA fs[i]) := by
  obtain ⟨b, o, h1, h2⟩ := SlAt.ldAgg h ty54 rfl ty53 rfl rfl hi (k' := .i64)
  rw [flat_at fltC_len hi] at h2
  exact ⟨b, o, h1, h2⟩

theorem flt_ld {M : Mem} {b : Nat} {f : Flt} {rw' : Bool} (hg : M.get b = some (.cells (fltC f) rw')) :
    evLoad tb 3 (.ptr b 0) M = some (i64 f.blk) ∧ evLoad tb 4 (.ptr b 1) M = some (.val (.bool f.fac)) ∧ evLoad tb 3 (.ptr b 2) M = some (i64 f.aft) ∧ evLoad tb 53 (.ptr b 0) M = some (fltA f) :=
  ⟨ld_cell ty3 rfl hg rfl, ld_cell ty4 rfl hg rfl, ld_cell ty3 rfl hg rfl, ld_agg (n := 3) ty53 rfl rfl hg (by simp [fltC])⟩

theorem flt_st {M : Mem} {b : Nat} {cs : List AV} (f : Flt) (hg : M.get b = some (.cells cs true)) (hl : cs.length = 3) : evStore tb 53 (.ptr b 0) (fltA f) M = some (M.put b (.cells (fltC f) true)) :=
  st_all ty53 rfl hg hl (by intro v hv; simp only [fltC, List.mem_cons, List.not_mem_nil, or_false] at hv; rcases hv with rfl | rfl | rfl <;> rfl)

theorem c_find1 (M : Mem) (hw : M.WF) (f : Flt) (q : Nat) (b : Int) {rw' : Bool} (hq : M.get q = some (.cells [i64 b] rw')) : CallA tb.P 124 [fltA f, .ptr q 0] M fun y N => y = .val (.bool (f.blk == b)) ∧ Keep M N [] := by
  refine F124_ok ?_
  unfold F124
  refine ⟨_, _, _, rfl, ?_⟩
  simp only [letP_eq]
  have hg := get_new M (.cells (fltC f) true)
  obtain ⟨l0, _⟩ := flt_ld hg
  have hK := Keep.new hw (.cells (fltC f) true)
  refine bindO_i (eLd_some l0) ?_
  simp only [i64, zI_int]
  have l1 : evLoad tb 3 (.ptr q 0) (M.new (.cells (fltC f) true)) = some (i64 b) := ld_cell ty3 rfl (hK.get hw hq (by simp)) rfl
  refine bindO_i (eLd_some l1) ?_
  simp only [i64, zI_int]
  exact ⟨by trivial, hK⟩

theorem fn124' : tb.fn.get 124 = some Try.f124 := fn124

theorem c_index (M : Mem) (hw : M.WF) (x : AV) (fs : List Flt) (hx : FltsAt M x fs) (hl : fs.length ≤ 1000) (q : Nat) (b : Int) {rw' : Bool} (hq : M.get q = some (.cells [i64 b] rw')) :
    CallA tb.P 123 [x, .fn 124 [] [.ptr q 0]] M fun y N => Keep M N [] ∧ ((∃ (i : Nat) (h : i < fs.length), y = i64 i ∧ fs[i].blk = b ∧ ∀ (j : Nat) (hj : j < i), fs[j].blk ≠ b) ∨ (y = i64 (-1) ∧ ∀ f ∈ fs, f.blk ≠ b)) := by
  refine F123_ok ?_
  unfold F123
  refine bindO_i (eLen_some hx.len) ?_
  simp only [zI_int]
  refine ⟨fun z n N => ∃ i : Nat, z = i ∧ n = fs.length - i ∧ i ≤ fs.length ∧ Keep M N [] ∧ ∀ (j : Nat) (hj : j < fs.length), j < i → fs[j].blk ≠ b, ⟨fs.length, 0, rfl, rfl, Nat.zero_le _, Keep.refl hw, fun j _ h => by omega⟩, ?_⟩
  rintro _ z n N ⟨i, rfl, rfl, hi, hk, hne⟩
  have hxN : FltsAt N x fs := SlAt.keep0 hx hw hk
  have hqN := hk.get hw hq (by simp)
  refine condB_i (fun hlt => ?_) (fun hge => ?_)
  · have hlt : i < fs.length := by simpa using hlt
    obtain ⟨p, o, h1, h2⟩ := hxN.at hlt
    refine bindO_i (eIA_some h1) ?_
    simp only [zP_ptr]
    refine bindO_i (eLd_some h2) ?_
    refine ⟨_, _, _, rfl, ?_⟩
    refine eCall_i fn124' ?_
    refine (c_find1 N hk.wf fs[i] q b hqN).mono ?_
    rintro y N1 ⟨rfl, hk1⟩
    simp only [zB_bool]
    refine condB_i (fun h => ?_) (fun h => ?_)
    · exact ⟨hk.trans0 hk1, .inl ⟨i, hlt, rfl, by simpa using h, fun j hj => hne j (by omega) hj⟩⟩
    · refine ⟨fs.length - (i + 1), by omega, i + 1, iInc (by omega), rfl, hlt, hk.trans0 hk1, fun j hj hji => ?_⟩
      by_cases hji' : j = i
      · subst hji'; simpa using h
      · exact hne j hj (by omega)
  · have hge : i = fs.length := by have : ¬ (i : Int) < fs.length := by simpa using hge
                                   omega
    subst hge
    refine ⟨hk, .inr ⟨rfl, fun f hf => ?_⟩⟩
    obtain ⟨j, hj, rfl⟩ := List.getElem_of_mem hf
    exact hne j hj hj

def findF (fs : List Flt) (b : Int) : Option Flt := fs.find? fun f => f.blk == b
def flt0 : Flt := ⟨0, false, 0⟩

theorem c_find (M : Mem) (hw : M.WF) (x : AV) (fs : List Flt) (hx : FltsAt M x fs) (hl : fs.length ≤ 1000) (b : Int) :
    CallA tb.P 108 [x, i64 b] M fun y N => y = .tup [fltA ((findF fs b).getD flt0), .val (.bool (findF fs b).isSome)] ∧ Keep M N [] := by
  refine F108_ok ?_
  unfold F108
  simp only [letP_eq, i64, zI_int]
  have hK := Keep.new hw (.cells [i64 b] true)
  have hK2 := Keep.new hK.wf (.cells (fltC flt0) true)
  have hq := hK2.get hK.wf (get_new M (.cells [i64 b] true)) (by simp)
  have hf2 := get_new (M.new (.cells [i64 b] true)) (.cells (fltC flt0) true)
  have hk2 := hK.trans0 hK2
  refine (c_index _ hK2.wf x fs (SlAt.keep0 hx hw hk2) hl M.next b hq).mono ?_
  rintro y N ⟨hk, h⟩
  have hfN := hk.get hK2.wf hf2 (by simp)
  have hall := hk2.trans0 hk
  have hxN : FltsAt N x fs := SlAt.keep0 hx hw hall
  have fin : ∀ f : Flt, Keep M (N.put (M.new (.cells [i64 b] true)).next (.cells (fltC f) true)) [] := fun f => by
    refine hall.trans (Keep.put hk.wf (hk.wf _ _ hfN) _) (by simp) (fun c hc hlt => ?_)
    simp only [List.mem_singleton] at hc
    subst hc
    exact absurd hlt (by simp)
  have res : ∀ (f : Flt) (o : Bool), eRes tb [.c 53 (.ptr (M.new (.cells [i64 b] true)).next 0), .v (.val (.bool o))] (N.put (M.new (.cells [i64 b] true)).next (.cells (fltC f) true)) = some (.tup [fltA f, .val (.bool o)]) := fun f o => by
    obtain ⟨_, _, _, la⟩ := flt_ld (f := f) (b := (M.new (.cells [i64 b] true)).next) (M := N.put (M.new (.cells [i64 b] true)).next (.cells (fltC f) true)) (rw' := true) (by rw [Mem.get_put, if_pos rfl])
    unfold eRes resC resC resC
    simp only [la, Option.map_some]
  rcases h with ⟨i, hi, rfl, hb, hne⟩ | ⟨rfl, hne⟩
  · have hfind : findF fs b = some fs[i] := by
      unfold findF
      rw [List.find?_eq_some_iff_getElem]
      exact ⟨by simpa using hb, i, hi, rfl, fun j hj => by simpa using hne j hj⟩
    rw [hfind]
    simp only [i64, zI_int]
    refine condB_i (fun h => by exfalso; simp at h; omega) (fun _ => ?_)
    obtain ⟨p, o, h1, h2⟩ := hxN.at hi
    refine bindO_i (eIA_some h1) ?_
    simp only [zP_ptr]
    refine bindO_i (eLd_some h2) ?_
    refine ⟨_, _, _, rfl, ?_⟩
    refine bindO_i (eSt_some (flt_st fs[i] hfN rfl)) ?_
    refine bindO_i (res fs[i] true) ?_
    exact ⟨rfl, fin _⟩
  · have hfind : findF fs b = none := by
      unfold findF
      rw [List.find?_eq_none]
      exact fun f hf => by simpa using hne f hf
    rw [hfind]
    simp only [i64, zI_int]
    refine condB_i (fun _ => ?_) (fun h => by simp at h)
    refine bindO_i (eSt_some (flt_st flt0 hfN rfl)) ?_
    refine bindO_i (res flt0 false) ?_
    exact ⟨rfl, fin _⟩

def failsF (fs : List Flt) (b d : Int) : Bool := match findF fs b with
  | some f => decide (f.aft ≤ d)
  | none => false
def badF (fs : List Flt) (b : Int) : Bool := match findF fs b with
  | some f => f.fac
  | none => false

theorem c_fails (M : Mem) (hw : M.WF) (x : AV) (fs : List Flt) (hx : FltsAt M x fs) (hl : fs.length ≤ 1000) (b d : Int) : CallA tb.P 74 [x, i64 b, i64 d] M fun y N => y = .val (.bool (failsF fs b d)) ∧ Keep M N [] := by
  refine F74_ok ?_
  unfold F74
  simp only [i64, zI_int]
  refine (c_find M hw x fs hx hl b).mono ?_
  rintro y N ⟨rfl, hk⟩
  refine ⟨_, _, _, _, rfl, ?_⟩
  simp only [letP_eq]
  have hK := Keep.new hk.wf (.cells (fltC flt0) true)
  refine bindO_i (eSt_some (flt_st _ (get_new N (.cells (fltC flt0) true)) rfl)) ?_
  rw [Mem.new_put]
  have hK2 := hk.trans0 (Keep.new hk.wf (.cells (fltC ((findF fs b).getD flt0)) true))
  obtain ⟨_, _, l2, _⟩ := flt_ld (get_new N (.cells (fltC ((findF fs b).getD flt0)) true))
  unfold failsF
  cases hfd : findF fs b with
  | none => exact ⟨rfl, by rw [hfd] at hK2; exact hK2⟩
  | some f =>
    rw [hfd] at l2 hK2
    simp only [Option.isSome_some, condB_true]
    refine bindO_i (eLd_some l2) ?_
    simp only [i64, zI_int]
    exact ⟨rfl, hK2⟩

theorem c_bad (M : Mem) (hw : M.WF) (x : AV) (fs : List Flt) (hx : FltsAt M x fs) (hl : fs.length ≤ 1000) (b : Int) : CallA tb.P 75 [x, i64 b] M fun y N => y = .val (.bool (badF fs b)) ∧ Keep M N [] := by
  refine F75_ok ?_
  unfold F75
  simp only [i64, zI_int]
  refine (c_find M hw x fs hx hl b).mono ?_
  rintro y N ⟨rfl, hk⟩
  refine ⟨_, _, _, _, rfl, ?_⟩
  simp only [letP_eq]
  refine bindO_i (eSt_some (flt_st _ (get_new N (.cells (fltC flt0) true)) rfl)) ?_
  rw [Mem.new_put]
  have hK2 := hk.trans0 (Keep.new hk.wf (.cells (fltC ((findF fs b).getD flt0)) true))
  obtain ⟨_, l1, _⟩ := flt_ld (get_new N (.cells (fltC ((findF fs b).getD flt0)) true))
  unfold badF
  cases hfd : findF fs b with
  | none => exact ⟨rfl, by rw [hfd] at hK2; exact hK2⟩
  | some f =>
    rw [hfd] at l1 hK2
    simp only [Option.isSome_some, condB_true]
    refine bindO_i (eLd_some l1) ?_
    simp only [zB_bool]
    exact ⟨rfl, hK2⟩

end Go.Proofs.Ytmifiialedlcnaa
