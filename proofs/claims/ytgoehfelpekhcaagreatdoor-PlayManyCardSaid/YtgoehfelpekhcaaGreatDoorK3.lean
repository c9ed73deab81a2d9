import Derived.Test.YtgoehfelpekhcaaGreatDoorA37
import Derived.Test.YtgoehfelpekhcaaGreatDoorTb7
set_option linter.unusedSimpArgs false
set_option linter.unusedVariables false
set_option linter.unusedSectionVars false
/- Functions as what has to be shown. (Printed by pr.py.) -/
namespace Go.Proofs.YtgoehfelpekhcaaGreatDoor
open Go.AM
set_option maxRecDepth 100000

def F5 (a0 : AV) (M : Mem) (Q : AV → Mem → Prop) : Prop :=
  zI .i64 a0 fun z1 => CallA tb.P 17 [(.val (.int .i64 z1)), (.val (.int .i64 300))] M fun y2 M3 => zI .i64 y2 fun z4 => ∃ J5 : AV → Int → Nat → Mem → Prop, (∃ n6 : Nat, J5 (.val (.slice none 0 0)) (0 : Int) n6 M3) ∧
  ∀ (_ : Nat → Option AV) (x7 : AV) (z8 : Int) (n9 : Nat) (M10 : Mem), J5 x7 z8 n9 M10 →
  (condB (decide (z8 < z4)) (∃ (z11 : Int) (z12 : Int) (z13 : Int) (z14 : Int) (x15 : AV) (x16 : AV) (x17 : AV) (z18 : Int) (z19 : Int) (z20 : Int), ((.agg [(.val (.int .i64 1)), (.val (.int .i64 14)), (.val (.int .i64 0)), (.val (.int .i64 0)), (.val (.string ⟨#[]⟩)), (.val (.complex .f64 0 0)), (.val (.slice none 0 0)), (.val (.int .i64 0)), (.val (.int .i64 0)), (.val (.int .u8 0))]) : AV) =
  (.agg [(.val (.int .i64 z11)), (.val (.int .i64 z12)), (.val (.int .i64 z13)), (.val (.int .i64 z14)), x15, x16, x17, (.val (.int .i64 z18)), (.val (.int .i64 z19)), (.val (.int .u8 z20))]) ∧
  (letP (M10.new (.cells [(.val (.int .i64 z11)), (.val (.int .i64 z12)), (.val (.int .i64 z13)), (.val (.int .i64 z14)), x15, x16, x17, (.val (.int .i64 z18)), (.val (.int .i64 z19)), (.val (.int .u8 z20))] true)) fun M21 => bindO (evAppend tb 51 51 x7 (.sl M10.next 0 1 1 none) M21) fun y22 => ∃ k23 : Nat, k23 < n9 ∧
  (J5 y22.1 (iAdd .i64 z8 1) k23 y22.2))) (CallA tb.P 19 [] M10 fun y24 M25 => ∃ (z26 : Int) (z27 : Int) (z28 : Int) (z29 : Int) (z30 : Int), y24 =
  (.agg [(.val (.int .i64 z26)), (.val (.int .i64 z27)), (.val (.int .i64 z28)), (.val (.int .i64 z29)), (.val (.int .i64 z30))]) ∧
  (CallA tb.P 18 [(.agg [(.val (.int .i64 z26)), (.val (.int .i64 z27)), (.val (.int .i64 z28)), (.val (.int .i64 z29)), (.val (.int .i64 z30))]), (.val (.slice none 0 0)), x7] M25 fun y31 M32 => ∃ J33 : Int → Nat → Mem → Prop, (∃ n34 : Nat, J33 (0 : Int) n34 M32) ∧
  ∀ (_ : Nat → Option AV) (z35 : Int) (n36 : Nat) (M37 : Mem), J33 z35 n36 M37 →
  (bindO (eLen tb false 52 y31 M37) fun y38 => zI .i64 y38.1 fun z39 => condB (decide (z35 < z39)) (bindO (eIA tb 52 y31 (.val (.int .i64 z35)) M37) fun y40 => zP y40.1 fun p41 o42 => bindO (eLd tb 32 (.ptr p41 o42) M37) fun y43 => ∃ (z44 : Int) (z45 : Int) (x46 : AV) (x47 : AV) (x48 : AV), y43.1 =
  (.agg [(.val (.int .i64 z44)), (.val (.int .i64 z45)), x46, x47, x48]) ∧
  (CallA tb.P 7 [(.agg [(.val (.int .i64 z44)), (.val (.int .i64 z45)), x46, x47, x48]), (.agg [(.val (.int .i64 0)), (.val (.int .i64 0)), (.val (.slice none 0 0)), (.val (.slice none 0 0)), (.val (.slice none 0 0))])] M37 fun y49 M50 => zB y49 fun b51 => condB (!b51) (Q (.val (.bool false)) M50) (∃ k52 : Nat, k52 < n36 ∧
  (J33 (iAdd .i64 z35 1) k52 M50)))) (letP (fun (b60 : Bool) (M61 : Mem) => Q (.val (.bool b60)) M61) fun K62 => bindO (eLen tb false 52 y31 M37) fun y53 => zI .i64 y53.1 fun z54 => bindO (eMin tb #[3, 3] 3 [.int .i64 z4, .int .i64 200] M37) fun y55 => zI .i64 y55.1 fun z56 => condB (z54 ==
  z56) (CallA tb.P 16 [] M37 fun y57 M58 => zB y57 fun b59 => K62 b59 M58) (K62 false M37))))))
def an5 : An := (.seq (.reg []) (.seq (.reg [.non, .int .i64]) (.seq (.reg []) (.seq (.seq (.reg []) (.blk (.lop [(3, .any), (4, .int .i64)] [9, 10, 11, 12, 13, 14, 15, 16, 17, 18] (.seq (.seq (.reg [.non, .non, .bool]) (.cnd .z .z)) (.seq (.blk (.reg [.non, .non, .agg [.int .i64, .int .i64, .int .i64, .int .i64, .any, .any, .any, .int .i64, .int .i64, .int .u8]])) (.reg [.non, .int .i64])))))) (.seq (.reg [.agg [.int .i64, .int .i64, .int .i64, .int .i64, .int .i64]]) (.seq (.seq (.reg []) (.blk (.lop [(6, .int .i64)] [2, 22, 23, 24, 25, 26, 27, 28, 29, 30, 31, 32, 33, 34] (.seq (.seq (.reg [.non, .non, .int .i64, .bool]) (.cnd .z .z)) (.seq (.blk (.seq (.reg [.non, .non, .ptr, .agg [.int .i64, .int .i64, .any, .any, .any], .non, .bool, .bool]) (.cnd (.seq (.reg []) .z) .z))) (.reg [.non, .int .i64])))))) (.seq (.reg [.non, .int .i64, .non, .int .i64, .bool, .spl, .bool]) .z)))))))
theorem fn5 : tb.fn.get 5 = some Tryz.f5 := by kernel_rfl
theorem an5_ok : anB tb Tryz.f5.ntmps an5 (bodyOf Tryz.f5) = true := by kernel_rfl
theorem F5_eq : (fun (a0 : AV) (M : Mem) (Q : AV → Mem → Prop) => zCs [.l (.int .i64)] [a0] fun args => wZ tb an5 (bodyOf Tryz.f5) (enterA Tryz.f5 args M) (retQ tb Tryz.f5 Q)) = fun (a0 : AV) (M : Mem) (Q : AV → Mem → Prop) => F5 a0 M Q := by kernel_rfl
theorem F5_ok {a0 : AV} {M : Mem} {Q : AV → Mem → Prop} (h : F5 a0 M Q) : CallA tb.P 5 [a0] M Q :=
  calla_wZ tb_ok tb_mix fn5 (c := bodyOf Tryz.f5) rfl an5_ok (ks := [.l (.int .i64)]) (cast (congrFun (congrFun (congrFun F5_eq a0) M) Q).symm h)

def F18 (a0 a1 a2 : AV) (M : Mem) (Q : AV → Mem → Prop) : Prop :=
  ∃ (z1 : Int) (z2 : Int) (z3 : Int) (z4 : Int) (z5 : Int), a0 = (.agg [(.val (.int .i64 z1)), (.val (.int .i64 z2)), (.val (.int .i64 z3)), (.val (.int .i64 z4)), (.val (.int .i64 z5))]) ∧
  letP (M.new (.cells [(.val (.int .i64 z1)), (.val (.int .i64 z2)), (.val (.int .i64 z3)), (.val (.int .i64 z4)), (.val (.int .i64 z5))] true)) fun M6 => bindO (eLd tb 55 (.ptr M.next 0) M6) fun y7 => ∃ (z8 : Int) (z9 : Int) (z10 : Int) (z11 : Int) (z12 : Int), y7.1 =
  (.agg [(.val (.int .i64 z8)), (.val (.int .i64 z9)), (.val (.int .i64 z10)), (.val (.int .i64 z11)), (.val (.int .i64 z12))]) ∧
  (CallA tb.P 39 [(.agg [(.val (.int .i64 z8)), (.val (.int .i64 z9)), (.val (.int .i64 z10)), (.val (.int .i64 z11)), (.val (.int .i64 z12))]), a1] M6 fun y13 M14 => bindO (eBin tb .eql 43 (.tmp 14) (.const (.pointer none)) y13 (.val (.pointer none)) M14) fun y15 => zB y15.1 fun b16 => condB (b16) (Q (.val (.slice none 0 0)) M14) (bindO (eLen tb false 51 a2 M14) fun y17 => zI .i64 y17.1 fun z18 => bindO (eMin tb #[3, 3] 3 [.int .i64 z18, .int .i64 200] M14) fun y19 => zI .i64 y19.1 fun z20 => bindO (eSl tb 51 a2 none (some (.val (.int .i64 z20))) none M14) fun y21 => bindO (eLen tb false 51 y21.1 M14) fun y22 => zI .i64 y22.1 fun z23 => ∃ J24 : AV → Int → Nat → Mem → Prop, (∃ n25 : Nat, J24 (.val (.slice none 0 0)) (0 : Int) n25 M14) ∧
  ∀ (_ : Nat → Option AV) (x26 : AV) (z27 : Int) (n28 : Nat) (M29 : Mem), J24 x26 z27 n28 M29 →
  (condB (decide (z27 < z23)) (bindO (eIA tb 51 y21.1 (.val (.int .i64 z27)) M29) fun y30 => zP y30.1 fun p31 o32 => bindO (eLd tb 48 (.ptr p31 o32) M29) fun y33 => ∃ (z34 : Int) (z35 : Int) (z36 : Int) (z37 : Int) (x38 : AV) (x39 : AV) (x40 : AV) (z41 : Int) (z42 : Int) (z43 : Int), y33.1 =
  (.agg [(.val (.int .i64 z34)), (.val (.int .i64 z35)), (.val (.int .i64 z36)), (.val (.int .i64 z37)), x38, x39, x40, (.val (.int .i64 z41)), (.val (.int .i64 z42)), (.val (.int .u8 z43))]) ∧
  (letP (M29.new (.cells [(.val (.int .i64 0)), (.val (.int .i64 0)), (.val (.int .i64 0)), (.val (.int .i64 0)), (.val (.string ⟨#[]⟩)), (.val (.complex .f64 0 0)), (.val (.slice none 0 0)), (.val (.int .i64 0)), (.val (.int .i64 0)), (.val (.int .u8 0))] true)) fun M44 => bindO (eSt tb 48 (.ptr M29.next 0) (.agg [(.val (.int .i64 z34)), (.val (.int .i64 z35)), (.val (.int .i64 z36)), (.val (.int .i64 z37)), x38, x39, x40, (.val (.int .i64 z41)), (.val (.int .i64 z42)), (.val (.int .u8 z43))]) M44) fun y45 => bindO (eLd tb 48 (.ptr M29.next 0) y45.2) fun y46 => ∃ (z47 : Int) (z48 : Int) (z49 : Int) (z50 : Int) (x51 : AV) (x52 : AV) (x53 : AV) (z54 : Int) (z55 : Int) (z56 : Int), y46.1 =
  (.agg [(.val (.int .i64 z47)), (.val (.int .i64 z48)), (.val (.int .i64 z49)), (.val (.int .i64 z50)), x51, x52, x53, (.val (.int .i64 z54)), (.val (.int .i64 z55)), (.val (.int .u8 z56))]) ∧
  (CallA tb.P 13 [y13, (.agg [(.val (.int .i64 z47)), (.val (.int .i64 z48)), (.val (.int .i64 z49)), (.val (.int .i64 z50)), x51, x52, x53, (.val (.int .i64 z54)), (.val (.int .i64 z55)), (.val (.int .u8 z56))])] y45.2 fun y57 M58 => ∃ (z59 : Int) (z60 : Int) (x61 : AV) (x62 : AV) (x63 : AV), y57 =
  (.agg [(.val (.int .i64 z59)), (.val (.int .i64 z60)), x61, x62, x63]) ∧
  (letP (M58.new (.cells [(.val (.int .i64 z59)), (.val (.int .i64 z60)), x61, x62, x63] true)) fun M64 => bindO (evAppend tb 52 52 x26 (.sl M58.next 0 1 1 none) M64) fun y65 => ∃ k66 : Nat, k66 < n28 ∧
  (J24 y65.1 (iAdd .i64 z27 1) k66 y65.2))))) (Q x26 M29))))
def an18 : An := (.seq (.reg []) (.seq (.reg [.agg [.int .i64, .int .i64, .int .i64, .int .i64, .int .i64]]) (.seq (.seq (.reg [.non, .bool]) (.cnd (.seq (.reg []) .z) .z)) (.seq (.reg []) (.seq (.seq (.reg [.non, .non, .int .i64, .int .i64, .non, .int .i64]) (.blk (.lop [(8, .any), (22, .int .i64)] [10, 23, 24, 25, 26, 27, 28, 29, 30, 31, 32] (.seq (.reg []) (.seq (.cnd .z .z) (.seq (.blk (.seq (.reg [.ptr, .agg [.int .i64, .int .i64, .int .i64, .int .i64, .any, .any, .any, .int .i64, .int .i64, .int .u8]]) (.reg [.non, .non, .agg [.int .i64, .int .i64, .int .i64, .int .i64, .any, .any, .any, .int .i64, .int .i64, .int .u8], .agg [.int .i64, .int .i64, .any, .any, .any]]))) (.reg [.int .i64]))))))) (.seq (.reg []) .z))))))
theorem fn18 : tb.fn.get 18 = some Tryz.f18 := by kernel_rfl
theorem an18_ok : anB tb Tryz.f18.ntmps an18 (bodyOf Tryz.f18) = true := by kernel_rfl
theorem F18_eq : (fun (a0 a1 a2 : AV) (M : Mem) (Q : AV → Mem → Prop) => zCs [.a [.int .i64, .int .i64, .int .i64, .int .i64, .int .i64], .l .any, .l .any] [a0, a1, a2] fun args => wZ tb an18 (bodyOf Tryz.f18) (enterA Tryz.f18 args M) (retQ tb Tryz.f18 Q)) = fun (a0 a1 a2 : AV) (M : Mem) (Q : AV → Mem → Prop) => F18 a0 a1 a2 M Q := by kernel_rfl
theorem F18_ok {a0 a1 a2 : AV} {M : Mem} {Q : AV → Mem → Prop} (h : F18 a0 a1 a2 M Q) : CallA tb.P 18 [a0, a1, a2] M Q :=
  calla_wZ tb_ok tb_mix fn18 (c := bodyOf Tryz.f18) rfl an18_ok (ks := [.a [.int .i64, .int .i64, .int .i64, .int .i64, .int .i64], .l .any, .l .any]) (cast (congrFun (congrFun (congrFun (congrFun (congrFun F18_eq a0) a1) a2) M) Q).symm h)

def F17 (a0 a1 : AV) (M : Mem) (Q : AV → Mem → Prop) : Prop :=
  zI .i64 a0 fun z1 => zI .i64 a1 fun z2 => bindO (eBin tb .rem 80 (.tmp 6) (.tmp 8) (.val (.int .u64 (IntKind.wrap .u64 z1))) (.val (.int .u64 (IntKind.wrap .u64 z2))) M) fun y3 => zI .u64 y3.1 fun z4 => Q (.val (.int .i64 (IntKind.wrap .i64 z4))) M
def an17 : An := (.seq (.reg []) (.seq (.reg [.non, .int .u64, .non, .int .u64, .int .u64, .int .i64]) .z))
theorem fn17 : tb.fn.get 17 = some Tryz.f17 := by kernel_rfl
theorem an17_ok : anB tb Tryz.f17.ntmps an17 (bodyOf Tryz.f17) = true := by kernel_rfl
theorem F17_eq : (fun (a0 a1 : AV) (M : Mem) (Q : AV → Mem → Prop) => zCs [.l (.int .i64), .l (.int .i64)] [a0, a1] fun args => wZ tb an17 (bodyOf Tryz.f17) (enterA Tryz.f17 args M) (retQ tb Tryz.f17 Q)) = fun (a0 a1 : AV) (M : Mem) (Q : AV → Mem → Prop) => F17 a0 a1 M Q := by kernel_rfl
theorem F17_ok {a0 a1 : AV} {M : Mem} {Q : AV → Mem → Prop} (h : F17 a0 a1 M Q) : CallA tb.P 17 [a0, a1] M Q :=
  calla_wZ tb_ok tb_mix fn17 (c := bodyOf Tryz.f17) rfl an17_ok (ks := [.l (.int .i64), .l (.int .i64)]) (cast (congrFun (congrFun (congrFun (congrFun F17_eq a0) a1) M) Q).symm h)

end Go.Proofs.YtgoehfelpekhcaaGreatDoor
