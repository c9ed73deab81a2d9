import Derived.Test.YtpfifmemkbddjaaA24
import Derived.Test.YtpfifmemkbddjaaChecked
set_option linter.unusedSimpArgs false
set_option linter.unusedVariables false
/- The tables of the program: types, functions. (Printed by tab.py.) -/
namespace Go.Proofs.Ytpfifmemkbddjaa
open Go.AM

noncomputable def tyl : List (Nat × TI) :=
  [(1, ⟨.sc, 1, 8, [.nilFunc], none⟩),
   (2, ⟨.int .i64, 1, 8, [.int .i64 0], none⟩),
   (3, ⟨.int .i64, 1, 8, [.int .i64 0], none⟩),
   (4, ⟨.bool, 1, 1, [.bool false], none⟩),
   (5, ⟨.int .u8, 1, 1, [.int .u8 0], none⟩),
   (6, ⟨.int .u8, 1, 1, [.int .u8 0], none⟩),
   (9, ⟨.str, 1, 16, [.string ⟨#[]⟩], none⟩),
   (10, ⟨.str, 1, 16, [.string ⟨#[]⟩], none⟩),
   (11, ⟨.str, 1, 16, [.string ⟨#[]⟩], none⟩),
   (12, ⟨.int .u64, 1, 8, [.int .u64 0], none⟩),
   (15, ⟨.pt 60, 1, 8, [.pointer none], none⟩),
   (16, ⟨.pt 63, 1, 8, [.pointer none], none⟩),
   (17, ⟨.pt 72, 1, 8, [.pointer none], none⟩),
   (20, ⟨.sc, 1, 16, [.nilIface], none⟩),
   (21, ⟨.int .i32, 1, 4, [.int .i32 0], none⟩),
   (22, ⟨.sli 5, 1, 24, [.slice none 0 0], none⟩),
   (23, ⟨.int .u32, 1, 4, [.int .u32 0], none⟩),
   (24, ⟨.sc, 1, 8, [.nilFunc], none⟩),
   (25, ⟨.sc, 1, 8, [.nilFunc], none⟩),
   (26, ⟨.sc, 1, 8, [.nilFunc], none⟩),
   (27, ⟨.sc, 1, 8, [.nilFunc], none⟩),
   (28, ⟨.sc, 1, 8, [.nilFunc], none⟩),
   (29, ⟨.sc, 1, 8, [.nilFunc], none⟩),
   (30, ⟨.sc, 1, 8, [.nilFunc], none⟩),
   (31, ⟨.sc, 1, 8, [.nilFunc], none⟩),
   (32, ⟨.sc, 1, 8, [.nilFunc], none⟩),
   (33, ⟨.st [(0, 1, false), (1, 1, false), (2, 1, false), (3, 1, false)], 4, 32, [.int .i64 0, .int .i64 0, .int .i64 0, .int .i64 0], some [3, 3, 3, 3]⟩),
   (34, ⟨.st [(0, 1, false), (1, 1, false), (2, 1, false), (3, 1, false)], 4, 32, [.int .i64 0, .int .i64 0, .int .i64 0, .int .i64 0], some [3, 3, 3, 3]⟩),
   (35, ⟨.int .i64, 1, 8, [.int .i64 0], none⟩),
   (37, ⟨.sc, 1, 8, [.nilFunc], none⟩),
   (39, ⟨.sc, 1, 8, [.nilFunc], none⟩),
   (40, ⟨.sc, 1, 8, [.nilFunc], none⟩),
   (41, ⟨.sc, 1, 8, [.nilFunc], none⟩),
   (42, ⟨.sc, 1, 8, [.nilFunc], none⟩),
   (43, ⟨.sc, 1, 8, [.nilFunc], none⟩),
   (45, ⟨.sc, 1, 8, [.nilFunc], none⟩),
   (46, ⟨.sc, 1, 8, [.nilFunc], none⟩),
   (47, ⟨.sc, 1, 8, [.nilFunc], none⟩),
   (48, ⟨.sc, 1, 8, [.nilFunc], none⟩),
   (49, ⟨.sc, 1, 8, [.nilFunc], none⟩),
   (50, ⟨.int .u64, 1, 8, [.int .u64 0], none⟩),
   (51, ⟨.sc, 1, 8, [.nilFunc], none⟩),
   (52, ⟨.sc, 1, 8, [.nilFunc], none⟩),
   (53, ⟨.sc, 1, 8, [.nilFunc], none⟩),
   (54, ⟨.sc, 1, 8, [.nilFunc], none⟩),
   (55, ⟨.sc, 1, 8, [.nilFunc], none⟩),
   (56, ⟨.sc, 1, 8, [.nilFunc], none⟩),
   (57, ⟨.sc, 1, 8, [.nilFunc], none⟩),
   (58, ⟨.sc, 1, 8, [.nilFunc], none⟩),
   (61, ⟨.ar 0 16, 0, 0, [], none⟩),
   (64, ⟨.sc, 1, 8, [.nilFunc], none⟩),
   (65, ⟨.int .u8, 1, 1, [.int .u8 0], none⟩),
   (66, ⟨.int .u8, 1, 1, [.int .u8 0], none⟩),
   (67, ⟨.sc, 1, 8, [.nilFunc], none⟩),
   (68, ⟨.pt 5, 1, 8, [.pointer none], none⟩),
   (69, ⟨.int .i32, 1, 4, [.int .i32 0], none⟩),
   (70, ⟨.int .i32, 1, 4, [.int .i32 0], none⟩),
   (73, ⟨.sc, 1, 8, [.pointer none], none⟩)]

noncomputable def fnl : List (Nat × Func) :=
  [(2, Try.f2), (3, Try.f3), (4, Try.f4), (5, Try.f5), (6, Try.f6), (7, Try.f7), (8, Try.f8), (9, Try.f9), (10, Try.f10), (11, Try.f11), (12, Try.f12), (13, Try.f13), (14, Try.f14), (15, Try.f15), (16, Try.f16), (17, Try.f17), (18, Try.f18), (19, Try.f19), (20, Try.f20), (21, Try.f21), (22, Try.f22), (23, Try.f23), (24, Try.f24), (25, Try.f25), (26, Try.f26), (27, Try.f27), (28, Try.f28), (29, Try.f29), (30, Try.f30), (31, Try.f31), (32, Try.f32), (33, Try.f33), (34, Try.f34), (35, Try.f35), (36, Try.f36), (37, Try.f37), (38, Try.f38), (39, Try.f39)]

noncomputable def tb : Tab := mkTab Try.prog tyl fnl

theorem tyl_ok : tyl.map (fun p => tiOf Try.prog p.1) = tyl.map (fun p => some p.2) := by kernel_rfl
theorem fnl_ok : FnlOk Try.prog fnl := ⟨Try.func2, Try.func3, Try.func4, Try.func5, Try.func6, Try.func7, Try.func8, Try.func9, Try.func10, Try.func11, Try.func12, Try.func13, Try.func14, Try.func15, Try.func16, Try.func17, Try.func18, Try.func19, Try.func20, Try.func21, Try.func22, Try.func23, Try.func24, Try.func25, Try.func26, Try.func27, Try.func28, Try.func29, Try.func30, Try.func31, Try.func32, Try.func33, Try.func34, Try.func35, Try.func36, Try.func37, Try.func38, Try.func39, trivial⟩
theorem fnl_b : fnl.all (fun p => fnB p.2) = true := by kernel_rfl
theorem tb_ok : tb.Ok := mkTab_ok tyl_ok fnl_ok fnl_b
theorem tb_fns : FnsOk tb := fnsB_ok (by kernel_rfl)
theorem tb_mix : tb.P.follows .mixedOrders = true := by kernel_rfl

end Go.Proofs.Ytpfifmemkbddjaa
