import Derived.Test.YtgoehfelpekhcaaGreatDoorA45
import Derived.Test.YtgoehfelpekhcaaGreatDoorK2
import Derived.Test.YtgoehfelpekhcaaGreatDoorK3
import Derived.Test.YtgoehfelpekhcaaGreatDoorVP7
set_option linter.unusedSimpArgs false
set_option linter.unusedVariables false
set_option linter.unusedSectionVars false
/- What a new play is, and what it answers when asked for its books: reckoned out. -/
set_option maxRecDepth 100000
namespace Go.Proofs.YtgoehfelpekhcaaGreatDoor
open Go.AM

abbrev nil0 : AV := .val (.slice none 0 0)
abbrev geo0 : AV := .agg [.val (.int .i64 8), .val (.int .i64 4), .val (.int .i64 32), .val (.int .i64 0), .val (.int .i64 2)]
abbrev evC : List AV := [.val (.int .i64 1), .val (.int .i64 14), .val (.int .i64 0), .val (.int .i64 0), .val (.string ⟨#[]⟩), .val (.complex .f64 0 0), .val (.slice none 0 0), .val (.int .i64 0), .val (.int .i64 0), .val (.int .u8 0)]
abbrev rpC : List AV := [.val (.int .i64 0), .val (.int .i64 0), .val (.slice none 0 0), .val (.slice none 0 0), .val (.slice none 0 0)]
noncomputable def newL : List (Nat × Row) := [(3, .cells ((vi 8) :: ((vi 4) :: ((vi 32) :: ((vi 0) :: ((vi 2) :: ((.val (.slice none 0 0)) :: ((.sl 35 0 8 8 (some 4)) :: ((vb false) :: ((vi 32) :: ((vi 0) :: ((vi 0) :: ((vi 0) :: (b8 [0] ((vi 0) :: [])))))))))))))) true),
  (6, .cells (r8 192 255 []) true),
  (10, .cells (r8 192 255 []) true),
  (14, .cells (r8 192 255 []) true),
  (18, .cells (r8 192 255 []) true),
  (22, .cells (r8 192 255 []) true),
  (26, .cells (r8 192 255 []) true),
  (30, .cells (r8 192 255 []) true),
  (34, .cells (r8 192 255 []) true),
  (35, .cells ((.sl 6 0 192 192 none) :: ((vi 0) :: ((vi 0) :: ((vi 0) :: ((.sl 10 0 192 192 none) :: ((vi 0) :: ((vi 0) :: ((vi 0) :: ((.sl 14 0 192 192 none) :: ((vi 0) :: ((vi 0) :: ((vi 0) :: ((.sl 18 0 192 192 none) :: ((vi 0) :: ((vi 0) :: ((vi 0) :: ((.sl 22 0 192 192 none) :: ((vi 0) :: ((vi 0) :: ((vi 0) :: ((.sl 26 0 192 192 none) :: ((vi 0) :: ((vi 0) :: ((vi 0) :: ((.sl 30 0 192 192 none) :: ((vi 0) :: ((vi 0) :: ((vi 0) :: ((.sl 34 0 192 192 none) :: ((vi 0) :: ((vi 0) :: ((vi 0) :: [])))))))))))))))))))))))))))))))) true),
  (37, .map []),
  (38, .map []),
  (39, .map []),
  (40, .map []),
  (41, .cells ((.ptr 3 0) :: ((vi 8) :: ((vi 4) :: ((vi 32) :: ((vi 0) :: ((vi 2) :: ((.map 37) :: ((.map 38) :: ((.map 39) :: ((.map 40) :: ((vi 0) :: ((vi 0) :: ((vi 0) :: ((vb false) :: [])))))))))))))) true),
  (642, .map []),
  (643, .cells ((.ptr 41 0) :: ((vi 8) :: ((vi 4) :: ((vi 32) :: ((vi 0) :: ((vi 2) :: ((.map 642) :: []))))))) true),
  (646, .cells ((.ptr 704 0) :: ((.ptr 643 0) :: [])) true),
  (703, .map []),
  (704, .cells ((vi 8) :: ((vi 4) :: ((vi 32) :: ((vi 0) :: ((vi 2) :: ((vi 1) :: ((vi 1) :: ((vi 1) :: ((.val (.slice none 0 0)) :: ((.val (.slice none 0 0)) :: ((.map 703) :: []))))))))))) true),
  (741, .cells ((.ptr 3 0) :: ((.ptr 646 0) :: [])) true)]

theorem geo_plain : Plain geo0 := .agg [.int .i64 8, .int .i64 4, .int .i64 32, .int .i64 0, .int .i64 2]
theorem rp_plain : Plain (.agg rpC) := .agg [.int .i64 0, .int .i64 0, .slice none 0 0, .slice none 0 0, .slice none 0 0]
theorem rp_is (ι : Inj) : ∃ v, VR ι (.agg rpC) v := ⟨.agg #[.int .i64 0, .int .i64 0, .slice none 0 0, .slice none 0 0, .slice none 0 0], .agg _ _ (.cons _ _ _ _ (.val _ rfl) (.cons _ _ _ _ (.val _ rfl) (.cons _ _ _ _ (.val _ rfl) (.cons _ _ _ _ (.val _ rfl) (.cons _ _ _ _ (.val _ rfl) .nil)))))⟩

set_option maxRecDepth 1000000 in
set_option maxHeartbeats 0 in
theorem new_fact : CallA tb.P 39 [geo0, nil0] ⟨0, .e⟩ fun y N => y = .ptr 741 0 ∧ N = ⟨742, rowsOf newL⟩ :=
  Memo.ok_of (e := ⟨39, [geo0, nil0], ⟨0, .e⟩, .ptr 741 0, ⟨742, rowsOf newL⟩⟩) tb_ok tb_mix tb_fns orcX_ok (mls := mlF) (L := 1000000) (n := 60) (by kernel_rfl)
theorem new_bnd : bndL 742 newL = true := by kernel_rfl

set_option maxRecDepth 1000000 in
set_option maxHeartbeats 0 in
theorem step_fact : CallA tb.P 13 [.ptr 741 0, .agg evC] ⟨742, rowsOf newL⟩ fun y N => y = .agg rpC ∧ N = ⟨742, rowsOf newL⟩ :=
  evalKeep_ok tb_ok tb_mix tb_fns orcX_ok (mls := mlF) (L := 1000000) (n := 60) (by kernel_rfl) rp_is

set_option maxRecDepth 1000000 in
theorem small_fact (M : Mem) : CallA tb.P 19 [] M fun y N => y = geo0 ∧ N = M :=
  CallA.closedX (evalX_ok tb_ok tb_mix tb_fns orcX_ok (mls := mlF) (L := 1000000) (n := 60) (x := geo0) (by kernel_rfl)) (fun _ _ h => h) (fun _ _ _ h => by cases h; exact .nil) (plain_any geo_plain) M

set_option maxRecDepth 1000000 in
theorem same_fact (M : Mem) : CallA tb.P 7 [.agg rpC, .agg rpC] M fun y N => y = .val (.bool true) ∧ N = M :=
  closedH_bool tb_ok tb_mix tb_fns orcX_ok (mls := mlF) (L := 1000000) (n := 60) (b := true) (fun x hx => by
    simp only [List.mem_cons, List.not_mem_nil, or_false, or_self] at hx; subst hx; exact rp_plain) (by kernel_rfl) M

end Go.Proofs.YtgoehfelpekhcaaGreatDoor
