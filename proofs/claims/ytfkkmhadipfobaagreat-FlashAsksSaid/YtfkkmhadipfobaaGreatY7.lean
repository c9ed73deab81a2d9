import Derived.Test.YtfkkmhadipfobaaGreatA45
import Derived.Test.YtfkkmhadipfobaaGreatK3
set_option linter.unusedSimpArgs false
set_option linter.unusedVariables false
set_option linter.unusedSectionVars false
/- Calls reckoned out, their memories written down; then flash_awake. (Printed by mkmemo.py.) -/
set_option maxRecDepth 100000
set_option maxRecDepth 1000000
set_option maxHeartbeats 0
namespace Go.Proofs.YtfkkmhadipfobaaGreat
open Go.AM

noncomputable def m0 : Memo := ⟨15, ((.agg ((vi 8) :: ((vi 4) :: ((vi 32) :: ((vi 0) :: ((vi 2) :: [])))))) :: ((.val (.slice none 0 0)) :: [])),
  ⟨1, rowsOf [(0, .cells ((vi 8) :: ((vi 4) :: ((vi 32) :: ((vi 0) :: ((vi 2) :: []))))) true)]⟩,
  (.ptr 3 0),
  ⟨36, rowsOf [(0, .cells ((vi 8) :: ((vi 4) :: ((vi 32) :: ((vi 0) :: ((vi 2) :: []))))) true),
  (3, .cells ((vi 8) :: ((vi 4) :: ((vi 32) :: ((vi 0) :: ((vi 2) :: ((.val (.slice none 0 0)) :: ((.sl 35 0 8 8 (some 4)) :: ((vb false) :: ((vi 0) :: ((vi 0) :: ((vi 0) :: ((vi 0) :: (b8 [0] ((vi 0) :: [])))))))))))))) true),
  (6, .cells (r8 192 255 []) true),
  (10, .cells (r8 192 255 []) true),
  (14, .cells (r8 192 255 []) true),
  (18, .cells (r8 192 255 []) true),
  (22, .cells (r8 192 255 []) true),
  (26, .cells (r8 192 255 []) true),
  (30, .cells (r8 192 255 []) true),
  (34, .cells (r8 192 255 []) true),
  (35, .cells ((.sl 6 0 192 192 none) :: ((vi 0) :: ((vi 0) :: ((vi 0) :: ((.sl 10 0 192 192 none) :: ((vi 0) :: ((vi 0) :: ((vi 0) :: ((.sl 14 0 192 192 none) :: ((vi 0) :: ((vi 0) :: ((vi 0) :: ((.sl 18 0 192 192 none) :: ((vi 0) :: ((vi 0) :: ((vi 0) :: ((.sl 22 0 192 192 none) :: ((vi 0) :: ((vi 0) :: ((vi 0) :: ((.sl 26 0 192 192 none) :: ((vi 0) :: ((vi 0) :: ((vi 0) :: ((.sl 30 0 192 192 none) :: ((vi 0) :: ((vi 0) :: ((vi 0) :: ((.sl 34 0 192 192 none) :: ((vi 0) :: ((vi 0) :: ((vi 0) :: [])))))))))))))))))))))))))))))))) true)]⟩⟩
theorem m0_ok : m0.Ok tb.P := Memo.ok_of tb_ok tb_mix tb_fns orcX_ok (mls := mlF) (L := 1000000) (n := 60) (by kernel_rfl)

noncomputable def m1 : Memo := ⟨6, ((.ptr 3 0) :: []),
  ⟨36, rowsOf [(0, .cells ((vi 8) :: ((vi 4) :: ((vi 32) :: ((vi 0) :: ((vi 2) :: []))))) true),
  (3, .cells ((vi 8) :: ((vi 4) :: ((vi 32) :: ((vi 0) :: ((vi 2) :: ((.val (.slice none 0 0)) :: ((.sl 35 0 8 8 (some 4)) :: ((vb false) :: ((vi 0) :: ((vi 0) :: ((vi 0) :: ((vi 0) :: (b8 [0] ((vi 0) :: [])))))))))))))) true),
  (6, .cells (r8 192 255 []) true),
  (10, .cells (r8 192 255 []) true),
  (14, .cells (r8 192 255 []) true),
  (18, .cells (r8 192 255 []) true),
  (22, .cells (r8 192 255 []) true),
  (26, .cells (r8 192 255 []) true),
  (30, .cells (r8 192 255 []) true),
  (34, .cells (r8 192 255 []) true),
  (35, .cells ((.sl 6 0 192 192 none) :: ((vi 0) :: ((vi 0) :: ((vi 0) :: ((.sl 10 0 192 192 none) :: ((vi 0) :: ((vi 0) :: ((vi 0) :: ((.sl 14 0 192 192 none) :: ((vi 0) :: ((vi 0) :: ((vi 0) :: ((.sl 18 0 192 192 none) :: ((vi 0) :: ((vi 0) :: ((vi 0) :: ((.sl 22 0 192 192 none) :: ((vi 0) :: ((vi 0) :: ((vi 0) :: ((.sl 26 0 192 192 none) :: ((vi 0) :: ((vi 0) :: ((vi 0) :: ((.sl 30 0 192 192 none) :: ((vi 0) :: ((vi 0) :: ((vi 0) :: ((.sl 34 0 192 192 none) :: ((vi 0) :: ((vi 0) :: ((vi 0) :: [])))))))))))))))))))))))))))))))) true)]⟩,
  (.tup ((.ptr 41 0) :: ((vi 0) :: []))),
  ⟨641, rowsOf [(0, .cells ((vi 8) :: ((vi 4) :: ((vi 32) :: ((vi 0) :: ((vi 2) :: []))))) true),
  (3, .cells ((vi 8) :: ((vi 4) :: ((vi 32) :: ((vi 0) :: ((vi 2) :: ((.val (.slice none 0 0)) :: ((.sl 35 0 8 8 (some 4)) :: ((vb false) :: ((vi 32) :: ((vi 0) :: ((vi 0) :: ((vi 0) :: (b8 [0] ((vi 0) :: [])))))))))))))) true),
  (6, .cells (r8 192 255 []) true),
  (10, .cells (r8 192 255 []) true),
  (14, .cells (r8 192 255 []) true),
  (18, .cells (r8 192 255 []) true),
  (22, .cells (r8 192 255 []) true),
  (26, .cells (r8 192 255 []) true),
  (30, .cells (r8 192 255 []) true),
  (34, .cells (r8 192 255 []) true),
  (35, .cells ((.sl 6 0 192 192 none) :: ((vi 0) :: ((vi 0) :: ((vi 0) :: ((.sl 10 0 192 192 none) :: ((vi 0) :: ((vi 0) :: ((vi 0) :: ((.sl 14 0 192 192 none) :: ((vi 0) :: ((vi 0) :: ((vi 0) :: ((.sl 18 0 192 192 none) :: ((vi 0) :: ((vi 0) :: ((vi 0) :: ((.sl 22 0 192 192 none) :: ((vi 0) :: ((vi 0) :: ((vi 0) :: ((.sl 26 0 192 192 none) :: ((vi 0) :: ((vi 0) :: ((vi 0) :: ((.sl 30 0 192 192 none) :: ((vi 0) :: ((vi 0) :: ((vi 0) :: ((.sl 34 0 192 192 none) :: ((vi 0) :: ((vi 0) :: ((vi 0) :: [])))))))))))))))))))))))))))))))) true),
  (37, .map []),
  (38, .map []),
  (39, .map []),
  (40, .map []),
  (41, .cells ((.ptr 3 0) :: ((vi 8) :: ((vi 4) :: ((vi 32) :: ((vi 0) :: ((vi 2) :: ((.map 37) :: ((.map 38) :: ((.map 39) :: ((.map 40) :: ((vi 0) :: ((vi 0) :: ((vi 0) :: ((vb false) :: [])))))))))))))) true)]⟩⟩
theorem m1_ok : m1.Ok tb.P := Memo.ok_of tb_ok tb_mix tb_fns orcX_ok (mls := mlF) (L := 1000000) (n := 60) (by kernel_rfl)

noncomputable def m2 : Memo := ⟨9, ((.ptr 41 0) :: []),
  ⟨646, rowsOf [(0, .cells ((vi 8) :: ((vi 4) :: ((vi 32) :: ((vi 0) :: ((vi 2) :: []))))) true),
  (3, .cells ((vi 8) :: ((vi 4) :: ((vi 32) :: ((vi 0) :: ((vi 2) :: ((.val (.slice none 0 0)) :: ((.sl 35 0 8 8 (some 4)) :: ((vb false) :: ((vi 32) :: ((vi 0) :: ((vi 0) :: ((vi 0) :: (b8 [0] ((vi 0) :: [])))))))))))))) true),
  (6, .cells (r8 192 255 []) true),
  (10, .cells (r8 192 255 []) true),
  (14, .cells (r8 192 255 []) true),
  (18, .cells (r8 192 255 []) true),
  (22, .cells (r8 192 255 []) true),
  (26, .cells (r8 192 255 []) true),
  (30, .cells (r8 192 255 []) true),
  (34, .cells (r8 192 255 []) true),
  (35, .cells ((.sl 6 0 192 192 none) :: ((vi 0) :: ((vi 0) :: ((vi 0) :: ((.sl 10 0 192 192 none) :: ((vi 0) :: ((vi 0) :: ((vi 0) :: ((.sl 14 0 192 192 none) :: ((vi 0) :: ((vi 0) :: ((vi 0) :: ((.sl 18 0 192 192 none) :: ((vi 0) :: ((vi 0) :: ((vi 0) :: ((.sl 22 0 192 192 none) :: ((vi 0) :: ((vi 0) :: ((vi 0) :: ((.sl 26 0 192 192 none) :: ((vi 0) :: ((vi 0) :: ((vi 0) :: ((.sl 30 0 192 192 none) :: ((vi 0) :: ((vi 0) :: ((vi 0) :: ((.sl 34 0 192 192 none) :: ((vi 0) :: ((vi 0) :: ((vi 0) :: [])))))))))))))))))))))))))))))))) true),
  (37, .map []),
  (38, .map []),
  (39, .map [((vi 2), (.sl 645 0 32 32 (some 1)))]),
  (40, .map []),
  (41, .cells ((.ptr 3 0) :: ((vi 8) :: ((vi 4) :: ((vi 32) :: ((vi 0) :: ((vi 2) :: ((.map 37) :: ((.map 38) :: ((.map 39) :: ((.map 40) :: ((vi 0) :: ((vi 0) :: ((vi 0) :: ((vb false) :: [])))))))))))))) true),
  (641, .cells (b8 [9, 10, 11, 12, 13, 14, 15, 16, 17, 18, 19, 20, 21, 22, 23, 24, 25, 26, 27, 28, 29, 30, 31, 32, 33, 34, 35, 36, 37, 38, 39, 40] []) true),
  (642, .cells ((vi 8) :: ((vi 4) :: ((vi 32) :: ((vi 0) :: ((vi 2) :: []))))) true),
  (643, .cells ((vi 8) :: ((vi 4) :: ((vi 32) :: ((vi 0) :: ((vi 2) :: []))))) true),
  (644, .cells [] true),
  (645, .cells (b8 [9, 10, 11, 12, 13, 14, 15, 16, 17, 18, 19, 20, 21, 22, 23, 24, 25, 26, 27, 28, 29, 30, 31, 32, 33, 34, 35, 36, 37, 38, 39, 40] []) true)]⟩,
  (vi 0),
  ⟨1487, rowsOf [(0, .cells ((vi 8) :: ((vi 4) :: ((vi 32) :: ((vi 0) :: ((vi 2) :: []))))) true),
  (3, .cells ((vi 8) :: ((vi 4) :: ((vi 32) :: ((vi 0) :: ((vi 2) :: ((.val (.slice none 0 0)) :: ((.sl 35 0 8 8 (some 4)) :: ((vb false) :: ((vi 34) :: ((vi 0) :: ((vi 0) :: ((vi 0) :: (b8 [0] ((vi 0) :: [])))))))))))))) true),
  (6, .cells (b8 [9, 10, 11, 12, 13, 14, 15, 16, 17, 18, 19, 20, 21, 22, 23, 24, 25, 26, 27, 28, 29, 30, 31, 32, 33, 34, 35, 36, 37, 38, 39, 40, 74, 1, 0, 2, 0, 0, 0, 1, 0, 0, 1, 168, 90, 154, 62] (r8 33 0 (b8 [74, 3] (r8 5 0 (b8 [2, 0, 0, 1, 250, 87, 169, 68, 0] (r8 96 255 [])))))) true),
  (10, .cells (r8 192 255 []) true),
  (14, .cells (r8 192 255 []) true),
  (18, .cells (r8 192 255 []) true),
  (22, .cells (r8 192 255 []) true),
  (26, .cells (r8 192 255 []) true),
  (30, .cells (r8 192 255 []) true),
  (34, .cells (r8 192 255 []) true),
  (35, .cells ((.sl 6 0 192 192 none) :: ((vi 2) :: ((vi 0) :: ((vi 2) :: ((.sl 10 0 192 192 none) :: ((vi 0) :: ((vi 0) :: ((vi 0) :: ((.sl 14 0 192 192 none) :: ((vi 0) :: ((vi 0) :: ((vi 0) :: ((.sl 18 0 192 192 none) :: ((vi 0) :: ((vi 0) :: ((vi 0) :: ((.sl 22 0 192 192 none) :: ((vi 0) :: ((vi 0) :: ((vi 0) :: ((.sl 26 0 192 192 none) :: ((vi 0) :: ((vi 0) :: ((vi 0) :: ((.sl 30 0 192 192 none) :: ((vi 0) :: ((vi 0) :: ((vi 0) :: ((.sl 34 0 192 192 none) :: ((vi 0) :: ((vi 0) :: ((vi 0) :: [])))))))))))))))))))))))))))))))) true),
  (37, .map [((.agg ((vi 0) :: ((vi 0) :: []))), (.agg ((vi 1) :: ((vi 2) :: ((vi 1) :: ((vi 1) :: ((.sl 645 0 32 32 (some 1)) :: []))))))), ((.agg ((vi 0) :: ((vi 1) :: []))), (.agg ((vi 3) :: ((vi 0) :: ((vi 2) :: ((vi 1) :: ((.sl 814 0 32 32 none) :: [])))))))]),
  (38, .map [((vi 2), (.sl 645 0 32 32 (some 1)))]),
  (39, .map []),
  (40, .map []),
  (41, .cells ((.ptr 3 0) :: ((vi 8) :: ((vi 4) :: ((vi 32) :: ((vi 0) :: ((vi 2) :: ((.map 37) :: ((.map 38) :: ((.map 39) :: ((.map 40) :: ((vi 2) :: ((vi 1) :: ((vi 0) :: ((vb false) :: [])))))))))))))) true),
  (641, .cells (b8 [9, 10, 11, 12, 13, 14, 15, 16, 17, 18, 19, 20, 21, 22, 23, 24, 25, 26, 27, 28, 29, 30, 31, 32, 33, 34, 35, 36, 37, 38, 39, 40] []) true),
  (642, .cells ((vi 8) :: ((vi 4) :: ((vi 32) :: ((vi 0) :: ((vi 2) :: []))))) true),
  (643, .cells ((vi 8) :: ((vi 4) :: ((vi 32) :: ((vi 0) :: ((vi 2) :: []))))) true),
  (644, .cells [] true),
  (645, .cells (b8 [9, 10, 11, 12, 13, 14, 15, 16, 17, 18, 19, 20, 21, 22, 23, 24, 25, 26, 27, 28, 29, 30, 31, 32, 33, 34, 35, 36, 37, 38, 39, 40] []) true),
  (814, .cells (r8 32 0 []) true)]⟩⟩
theorem m2_ok : m2.Ok tb.P := Memo.ok_of tb_ok tb_mix tb_fns orcX_ok (mls := mlF) (L := 1000000) (n := 60) (by kernel_rfl)

noncomputable def m3 : Memo := ⟨6, ((.ptr 3 0) :: []),
  ⟨1487, rowsOf [(0, .cells ((vi 8) :: ((vi 4) :: ((vi 32) :: ((vi 0) :: ((vi 2) :: []))))) true),
  (3, .cells ((vi 8) :: ((vi 4) :: ((vi 32) :: ((vi 0) :: ((vi 2) :: ((.val (.slice none 0 0)) :: ((.sl 35 0 8 8 (some 4)) :: ((vb false) :: ((vi 34) :: ((vi 0) :: ((vi 0) :: ((vi 0) :: (b8 [0] ((vi 0) :: [])))))))))))))) true),
  (6, .cells (b8 [9, 10, 11, 12, 13, 14, 15, 16, 17, 18, 19, 20, 21, 22, 23, 24, 25, 26, 27, 28, 29, 30, 31, 32, 33, 34, 35, 36, 37, 38, 39, 40, 74, 1, 0, 2, 0, 0, 0, 1, 0, 0, 1, 168, 90, 154, 62] (r8 33 0 (b8 [74, 3] (r8 5 0 (b8 [2, 0, 0, 1, 250, 87, 169, 68, 0] (r8 96 255 [])))))) true),
  (10, .cells (r8 192 255 []) true),
  (14, .cells (r8 192 255 []) true),
  (18, .cells (r8 192 255 []) true),
  (22, .cells (r8 192 255 []) true),
  (26, .cells (r8 192 255 []) true),
  (30, .cells (r8 192 255 []) true),
  (34, .cells (r8 192 255 []) true),
  (35, .cells ((.sl 6 0 192 192 none) :: ((vi 2) :: ((vi 0) :: ((vi 2) :: ((.sl 10 0 192 192 none) :: ((vi 0) :: ((vi 0) :: ((vi 0) :: ((.sl 14 0 192 192 none) :: ((vi 0) :: ((vi 0) :: ((vi 0) :: ((.sl 18 0 192 192 none) :: ((vi 0) :: ((vi 0) :: ((vi 0) :: ((.sl 22 0 192 192 none) :: ((vi 0) :: ((vi 0) :: ((vi 0) :: ((.sl 26 0 192 192 none) :: ((vi 0) :: ((vi 0) :: ((vi 0) :: ((.sl 30 0 192 192 none) :: ((vi 0) :: ((vi 0) :: ((vi 0) :: ((.sl 34 0 192 192 none) :: ((vi 0) :: ((vi 0) :: ((vi 0) :: [])))))))))))))))))))))))))))))))) true),
  (37, .map [((.agg ((vi 0) :: ((vi 0) :: []))), (.agg ((vi 1) :: ((vi 2) :: ((vi 1) :: ((vi 1) :: ((.sl 645 0 32 32 (some 1)) :: []))))))), ((.agg ((vi 0) :: ((vi 1) :: []))), (.agg ((vi 3) :: ((vi 0) :: ((vi 2) :: ((vi 1) :: ((.sl 814 0 32 32 none) :: [])))))))]),
  (38, .map [((vi 2), (.sl 645 0 32 32 (some 1)))]),
  (39, .map []),
  (40, .map []),
  (41, .cells ((.ptr 3 0) :: ((vi 8) :: ((vi 4) :: ((vi 32) :: ((vi 0) :: ((vi 2) :: ((.map 37) :: ((.map 38) :: ((.map 39) :: ((.map 40) :: ((vi 2) :: ((vi 1) :: ((vi 0) :: ((vb false) :: [])))))))))))))) true),
  (641, .cells (b8 [9, 10, 11, 12, 13, 14, 15, 16, 17, 18, 19, 20, 21, 22, 23, 24, 25, 26, 27, 28, 29, 30, 31, 32, 33, 34, 35, 36, 37, 38, 39, 40] []) true),
  (642, .cells ((vi 8) :: ((vi 4) :: ((vi 32) :: ((vi 0) :: ((vi 2) :: []))))) true),
  (643, .cells ((vi 8) :: ((vi 4) :: ((vi 32) :: ((vi 0) :: ((vi 2) :: []))))) true),
  (644, .cells [] true),
  (645, .cells (b8 [9, 10, 11, 12, 13, 14, 15, 16, 17, 18, 19, 20, 21, 22, 23, 24, 25, 26, 27, 28, 29, 30, 31, 32, 33, 34, 35, 36, 37, 38, 39, 40] []) true),
  (814, .cells (r8 32 0 []) true)]⟩,
  (.tup ((.ptr 1492 0) :: ((vi 0) :: []))),
  ⟨2133, rowsOf [(0, .cells ((vi 8) :: ((vi 4) :: ((vi 32) :: ((vi 0) :: ((vi 2) :: []))))) true),
  (3, .cells ((vi 8) :: ((vi 4) :: ((vi 32) :: ((vi 0) :: ((vi 2) :: ((.val (.slice none 0 0)) :: ((.sl 35 0 8 8 (some 4)) :: ((vb false) :: ((vi 66) :: ((vi 0) :: ((vi 0) :: ((vi 0) :: (b8 [0] ((vi 0) :: [])))))))))))))) true),
  (6, .cells (b8 [9, 10, 11, 12, 13, 14, 15, 16, 17, 18, 19, 20, 21, 22, 23, 24, 25, 26, 27, 28, 29, 30, 31, 32, 33, 34, 35, 36, 37, 38, 39, 40, 74, 1, 0, 2, 0, 0, 0, 1, 0, 0, 1, 168, 90, 154, 62] (r8 33 0 (b8 [74, 3] (r8 5 0 (b8 [2, 0, 0, 1, 250, 87, 169, 68, 0] (r8 96 255 [])))))) true),
  (10, .cells (r8 192 255 []) true),
  (14, .cells (r8 192 255 []) true),
  (18, .cells (r8 192 255 []) true),
  (22, .cells (r8 192 255 []) true),
  (26, .cells (r8 192 255 []) true),
  (30, .cells (r8 192 255 []) true),
  (34, .cells (r8 192 255 []) true),
  (35, .cells ((.sl 6 0 192 192 none) :: ((vi 2) :: ((vi 0) :: ((vi 2) :: ((.sl 10 0 192 192 none) :: ((vi 0) :: ((vi 0) :: ((vi 0) :: ((.sl 14 0 192 192 none) :: ((vi 0) :: ((vi 0) :: ((vi 0) :: ((.sl 18 0 192 192 none) :: ((vi 0) :: ((vi 0) :: ((vi 0) :: ((.sl 22 0 192 192 none) :: ((vi 0) :: ((vi 0) :: ((vi 0) :: ((.sl 26 0 192 192 none) :: ((vi 0) :: ((vi 0) :: ((vi 0) :: ((.sl 30 0 192 192 none) :: ((vi 0) :: ((vi 0) :: ((vi 0) :: ((.sl 34 0 192 192 none) :: ((vi 0) :: ((vi 0) :: ((vi 0) :: [])))))))))))))))))))))))))))))))) true),
  (37, .map [((.agg ((vi 0) :: ((vi 0) :: []))), (.agg ((vi 1) :: ((vi 2) :: ((vi 1) :: ((vi 1) :: ((.sl 645 0 32 32 (some 1)) :: []))))))), ((.agg ((vi 0) :: ((vi 1) :: []))), (.agg ((vi 3) :: ((vi 0) :: ((vi 2) :: ((vi 1) :: ((.sl 814 0 32 32 none) :: [])))))))]),
  (38, .map [((vi 2), (.sl 645 0 32 32 (some 1)))]),
  (39, .map []),
  (40, .map []),
  (41, .cells ((.ptr 3 0) :: ((vi 8) :: ((vi 4) :: ((vi 32) :: ((vi 0) :: ((vi 2) :: ((.map 37) :: ((.map 38) :: ((.map 39) :: ((.map 40) :: ((vi 2) :: ((vi 1) :: ((vi 0) :: ((vb false) :: [])))))))))))))) true),
  (641, .cells (b8 [9, 10, 11, 12, 13, 14, 15, 16, 17, 18, 19, 20, 21, 22, 23, 24, 25, 26, 27, 28, 29, 30, 31, 32, 33, 34, 35, 36, 37, 38, 39, 40] []) true),
  (642, .cells ((vi 8) :: ((vi 4) :: ((vi 32) :: ((vi 0) :: ((vi 2) :: []))))) true),
  (643, .cells ((vi 8) :: ((vi 4) :: ((vi 32) :: ((vi 0) :: ((vi 2) :: []))))) true),
  (644, .cells [] true),
  (645, .cells (b8 [9, 10, 11, 12, 13, 14, 15, 16, 17, 18, 19, 20, 21, 22, 23, 24, 25, 26, 27, 28, 29, 30, 31, 32, 33, 34, 35, 36, 37, 38, 39, 40] []) true),
  (814, .cells (r8 32 0 []) true),
  (1488, .map [((.agg ((vi 0) :: ((vi 0) :: []))), (.agg ((vi 1) :: ((vi 2) :: ((vi 1) :: ((vi 1) :: ((.sl 1510 0 32 32 (some 1)) :: []))))))), ((.agg ((vi 0) :: ((vi 1) :: []))), (.agg ((vi 3) :: ((vi 0) :: ((vi 2) :: ((vi 1) :: ((.sl 1531 0 32 32 (some 1)) :: [])))))))]),
  (1489, .map [((vi 2), (.sl 1510 0 32 32 (some 1)))]),
  (1490, .map []),
  (1491, .map []),
  (1492, .cells ((.ptr 3 0) :: ((vi 8) :: ((vi 4) :: ((vi 32) :: ((vi 0) :: ((vi 2) :: ((.map 1488) :: ((.map 1489) :: ((.map 1490) :: ((.map 1491) :: ((vi 2) :: ((vi 1) :: ((vi 0) :: ((vb false) :: [])))))))))))))) true),
  (1510, .cells (b8 [9, 10, 11, 12, 13, 14, 15, 16, 17, 18, 19, 20, 21, 22, 23, 24, 25, 26, 27, 28, 29, 30, 31, 32, 33, 34, 35, 36, 37, 38, 39, 40] []) true),
  (1531, .cells (r8 32 0 []) true)]⟩⟩
theorem m3_ok : m3.Ok tb.P := Memo.ok_of tb_ok tb_mix tb_fns orcX_ok (mls := mlF) (L := 1000000) (n := 60) (by kernel_rfl)

noncomputable def memos : List Memo := [m0, m1, m2, m3]
theorem memos_ok : ∀ e ∈ memos, e.Ok tb.P := by
  intro e he
  simp only [memos, List.mem_cons, List.not_mem_nil, or_false] at he
  rcases he with rfl | rfl | rfl | rfl
  · exact m0_ok
  · exact m1_ok
  · exact m2_ok
  · exact m3_ok
def memoF : FuncId → Bool := fun g => Nat.beq g 6 || Nat.beq g 9 || Nat.beq g 15

theorem flash_awake (M : Mem) : CallA tb.P 14 [] M fun y N => y = .val (.bool true) ∧ N = M :=
  closedH_bool tb_ok tb_mix tb_fns (withMemos_ok (ms := memoF) (l := memos) orcX_ok memos_ok) (mls := mlF) (L := 1000000) (n := 60) (b := true) (fun x hx => by simp at hx) (by kernel_rfl) M

end Go.Proofs.YtfkkmhadipfobaaGreat
