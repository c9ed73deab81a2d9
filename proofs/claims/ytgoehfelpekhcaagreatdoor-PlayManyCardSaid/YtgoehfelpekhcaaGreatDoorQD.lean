import Derived.Test.YtgoehfelpekhcaaGreatDoorA37
import Derived.Test.YtgoehfelpekhcaaGreatDoorTb7
set_option linter.unusedSimpArgs false
set_option linter.unusedVariables false
set_option linter.unusedSectionVars false
/- Functions as what has to be shown. (Printed by pr.py.) -/
namespace Go.Proofs.YtgoehfelpekhcaaGreatDoor
open Go.AM
set_option maxRecDepth 100000

def F40 (a0 a1 : AV) (M : Mem) (Q : AV → Mem → Prop) : Prop :=
  ∃ (z1 : Int) (z2 : Int) (z3 : Int) (z4 : Int) (z5 : Int), a0 = (.agg [(.val (.int .i64 z1)), (.val (.int .i64 z2)), (.val (.int .i64 z3)), (.val (.int .i64 z4)), (.val (.int .i64 z5))]) ∧
  ∃ (z6 : Int) (z7 : Int), a1 = (.agg [(.val (.int .i64 z6)), (.val (.int .i64 z7))]) ∧
  letP (M.new (.cells [(.val (.int .i64 z1)), (.val (.int .i64 z2)), (.val (.int .i64 z3)), (.val (.int .i64 z4)), (.val (.int .i64 z5))] true)) fun M8 => letP (M8.new (.cells [(.val (.int .i64 z6)), (.val (.int .i64 z7))] true)) fun M9 => letP (M9.new (.cells [(.val (.int .i64 0)), (.val (.int .i64 0))] true)) fun M10 => bindO (eLd tb 55 (.ptr M.next 0) M10) fun y11 => ∃ (z12 : Int) (z13 : Int) (z14 : Int) (z15 : Int) (z16 : Int), y11.1 =
  (.agg [(.val (.int .i64 z12)), (.val (.int .i64 z13)), (.val (.int .i64 z14)), (.val (.int .i64 z15)), (.val (.int .i64 z16))]) ∧
  (bindO (eLd tb 88 (.ptr M8.next 0) M10) fun y17 => ∃ (z18 : Int) (z19 : Int), y17.1 = (.agg [(.val (.int .i64 z18)), (.val (.int .i64 z19))]) ∧
  (CallA tb.P 72 [(.agg [(.val (.int .i64 z12)), (.val (.int .i64 z13)), (.val (.int .i64 z14)), (.val (.int .i64 z15)), (.val (.int .i64 z16))]), (.agg [(.val (.int .i64 z18)), (.val (.int .i64 z19))])] M10 fun y20 M21 => zI .i64 y20 fun z22 => letP (fun (b36 : Bool) (M37 : Mem) => condB (b36) (bindO (eSt tb 88 (.ptr M9.next 0) (.agg [(.val (.int .i64 0)), (.val (.int .i64 0))]) M37) fun y39 => bindO (eRes tb [.c 88 (.ptr M9.next 0), .v (.val (.bool false))] y39.2) fun x40 => Q x40 y39.2) (bindO (eLd tb 3 (.ptr M.next 1) M37) fun y41 => zI .i64 y41.1 fun z42 => bindO (eBin tb .quo 3 (.tmp 28) (.tmp 30) (.val (.int .i64 (iAdd .i64 z22 1))) (.val (.int .i64 z42)) M37) fun y43 => zI .i64 y43.1 fun z44 => bindO (eLd tb 3 (.ptr M.next 1) M37) fun y45 => zI .i64 y45.1 fun z46 => bindO (eBin tb .rem 3 (.tmp 32) (.tmp 34) (.val (.int .i64 (iAdd .i64 z22 1))) (.val (.int .i64 z46)) M37) fun y47 => zI .i64 y47.1 fun z48 => bindO (eSt tb 88 (.ptr M9.next 0) (.agg [(.val (.int .i64 z44)), (.val (.int .i64 z48))]) M37) fun y49 => bindO (eRes tb [.c 88 (.ptr M9.next 0), .v (.val (.bool true))] y49.2) fun x50 => Q x50 y49.2)) fun K38 => bindO (eLd tb 55 (.ptr M.next 0) M21) fun y23 => ∃ (z24 : Int) (z25 : Int) (z26 : Int) (z27 : Int) (z28 : Int), y23.1 =
  (.agg [(.val (.int .i64 z24)), (.val (.int .i64 z25)), (.val (.int .i64 z26)), (.val (.int .i64 z27)), (.val (.int .i64 z28))]) ∧
  (CallA tb.P 73 [(.agg [(.val (.int .i64 z24)), (.val (.int .i64 z25)), (.val (.int .i64 z26)), (.val (.int .i64 z27)), (.val (.int .i64 z28))])] M21 fun y29 M30 => zB y29 fun b31 => condB (!b31) (K38 true M30) (condB ((iAdd .i64 z22 1) ==
  (0 : Int)) (K38 true M30) (bindO (eLd tb 3 (.ptr M.next 0) M30) fun y32 => zI .i64 y32.1 fun z33 => bindO (eLd tb 3 (.ptr M.next 1) M30) fun y34 => zI .i64 y34.1 fun z35 => K38 ((iAdd .i64 z22 1) ==
  (iMul .i64 z33 z35)) M30)))))
def an40 : An := (.seq (.reg []) (.seq (.reg [.agg [.int .i64, .int .i64, .int .i64, .int .i64, .int .i64], .agg [.int .i64, .int .i64], .int .i64, .int .i64]) (.seq (.seq (.reg [.agg [.int .i64, .int .i64, .int .i64, .int .i64, .int .i64], .bool, .bool, .spl, .non, .bool, .non, .spl, .non, .ptr, .int .i64, .ptr, .int .i64, .int .i64, .bool]) (.cnd (.seq (.reg []) .z) .z)) (.seq (.opn [(0, []), (1, []), (4, []), (5, []), (2, []), (3, []), (6, []), (7, []), (8, []), (9, []), (10, [])] [] [] 0 [.non, .ptr, .non, .ptr, .int .i64, .int .i64, .int .i64, .int .i64, .non, .non, .non]) .z))))
theorem fn40 : tb.fn.get 40 = some Tryz.f40 := by kernel_rfl
theorem an40_ok : anB tb Tryz.f40.ntmps an40 (bodyOf Tryz.f40) = true := by kernel_rfl
theorem F40_eq : (fun (a0 a1 : AV) (M : Mem) (Q : AV → Mem → Prop) => zCs [.a [.int .i64, .int .i64, .int .i64, .int .i64, .int .i64], .a [.int .i64, .int .i64]] [a0, a1] fun args => wZ tb an40 (bodyOf Tryz.f40) (enterA Tryz.f40 args M) (retQ tb Tryz.f40 Q)) = fun (a0 a1 : AV) (M : Mem) (Q : AV → Mem → Prop) => F40 a0 a1 M Q := by kernel_rfl
theorem F40_ok {a0 a1 : AV} {M : Mem} {Q : AV → Mem → Prop} (h : F40 a0 a1 M Q) : CallA tb.P 40 [a0, a1] M Q :=
  calla_wZ tb_ok tb_mix fn40 (c := bodyOf Tryz.f40) rfl an40_ok (ks := [.a [.int .i64, .int .i64, .int .i64, .int .i64, .int .i64], .a [.int .i64, .int .i64]]) (cast (congrFun (congrFun (congrFun (congrFun F40_eq a0) a1) M) Q).symm h)

def F70 (a0 : AV) (M : Mem) (Q : AV → Mem → Prop) : Prop :=
  ∃ (z1 : Int) (z2 : Int) (z3 : Int) (z4 : Int) (z5 : Int), a0 = (.agg [(.val (.int .i64 z1)), (.val (.int .i64 z2)), (.val (.int .i64 z3)), (.val (.int .i64 z4)), (.val (.int .i64 z5))]) ∧
  letP (M.new (.cells [(.val (.int .i64 z1)), (.val (.int .i64 z2)), (.val (.int .i64 z3)), (.val (.int .i64 z4)), (.val (.int .i64 z5))] true)) fun M6 => bindO (eLd tb 55 (.ptr M.next 0) M6) fun y7 => ∃ (z8 : Int) (z9 : Int) (z10 : Int) (z11 : Int) (z12 : Int), y7.1 =
  (.agg [(.val (.int .i64 z8)), (.val (.int .i64 z9)), (.val (.int .i64 z10)), (.val (.int .i64 z11)), (.val (.int .i64 z12))]) ∧
  (bindO (eLd tb 3 (.ptr M.next 2) M6) fun y13 => zI .i64 y13.1 fun z14 => bindO (eLd tb 55 (.ptr M.next 0) M6) fun y15 => ∃ (z16 : Int) (z17 : Int) (z18 : Int) (z19 : Int) (z20 : Int), y15.1 =
  (.agg [(.val (.int .i64 z16)), (.val (.int .i64 z17)), (.val (.int .i64 z18)), (.val (.int .i64 z19)), (.val (.int .i64 z20))]) ∧
  (CallA tb.P 136 [(.agg [(.val (.int .i64 z8)), (.val (.int .i64 z9)), (.val (.int .i64 z10)), (.val (.int .i64 z11)), (.val (.int .i64 z12))]), (.val (.int .i64 z14))] M6 fun y21 M22 => zI .i64 y21 fun z23 => (bindO (eLd tb 55 (.ptr M.next 0) M22) fun y24 => (some (.agg [(.val (.int .i64 z16)), (.val (.int .i64 z17)), (.val (.int .i64 z18)), (.val (.int .i64 z19)), (.val (.int .i64 z20))]) : Option AV) =
  some y24.1) ∧
  (CallA tb.P 136 [(.agg [(.val (.int .i64 z16)), (.val (.int .i64 z17)), (.val (.int .i64 z18)), (.val (.int .i64 z19)), (.val (.int .i64 z20))]), (.val (.int .i64 16))] M22 fun y25 M26 => zI .i64 y25 fun z27 => Q (.val (.int .i64 (iAdd .i64 z23 z27))) M26)))
def an70 : An := (.seq (.reg []) (.seq (.opn [(1, []), (0, []), (2, []), (4, []), (3, [4]), (5, []), (6, []), (7, [])] [] [[], [], [], [4]] 0 [.ptr, .agg [.int .i64, .int .i64, .int .i64, .int .i64, .int .i64], .int .i64, .agg [.int .i64, .int .i64, .int .i64, .int .i64, .int .i64], .int .i64, .int .i64, .int .i64, .non]) .z))
theorem fn70 : tb.fn.get 70 = some Tryz.f70 := by kernel_rfl
theorem an70_ok : anB tb Tryz.f70.ntmps an70 (bodyOf Tryz.f70) = true := by kernel_rfl
theorem F70_eq : (fun (a0 : AV) (M : Mem) (Q : AV → Mem → Prop) => zCs [.a [.int .i64, .int .i64, .int .i64, .int .i64, .int .i64]] [a0] fun args => wZ tb an70 (bodyOf Tryz.f70) (enterA Tryz.f70 args M) (retQ tb Tryz.f70 Q)) = fun (a0 : AV) (M : Mem) (Q : AV → Mem → Prop) => F70 a0 M Q := by kernel_rfl
theorem F70_ok {a0 : AV} {M : Mem} {Q : AV → Mem → Prop} (h : F70 a0 M Q) : CallA tb.P 70 [a0] M Q :=
  calla_wZ tb_ok tb_mix fn70 (c := bodyOf Tryz.f70) rfl an70_ok (ks := [.a [.int .i64, .int .i64, .int .i64, .int .i64, .int .i64]]) (cast (congrFun (congrFun (congrFun F70_eq a0) M) Q).symm h)

def F72 (a0 a1 : AV) (M : Mem) (Q : AV → Mem → Prop) : Prop :=
  ∃ (z1 : Int) (z2 : Int) (z3 : Int) (z4 : Int) (z5 : Int), a0 = (.agg [(.val (.int .i64 z1)), (.val (.int .i64 z2)), (.val (.int .i64 z3)), (.val (.int .i64 z4)), (.val (.int .i64 z5))]) ∧
  ∃ (z6 : Int) (z7 : Int), a1 = (.agg [(.val (.int .i64 z6)), (.val (.int .i64 z7))]) ∧
  letP (M.new (.cells [(.val (.int .i64 z1)), (.val (.int .i64 z2)), (.val (.int .i64 z3)), (.val (.int .i64 z4)), (.val (.int .i64 z5))] true)) fun M8 => letP (M8.new (.cells [(.val (.int .i64 z6)), (.val (.int .i64 z7))] true)) fun M9 => bindO (eLd tb 55 (.ptr M.next 0) M9) fun y10 => ∃ (z11 : Int) (z12 : Int) (z13 : Int) (z14 : Int) (z15 : Int), y10.1 =
  (.agg [(.val (.int .i64 z11)), (.val (.int .i64 z12)), (.val (.int .i64 z13)), (.val (.int .i64 z14)), (.val (.int .i64 z15))]) ∧
  (CallA tb.P 73 [(.agg [(.val (.int .i64 z11)), (.val (.int .i64 z12)), (.val (.int .i64 z13)), (.val (.int .i64 z14)), (.val (.int .i64 z15))])] M9 fun y16 M17 => zB y16 fun b18 => condB (!b18) (Q (.val (.int .i64 0)) M17) (bindO (eLd tb 55 (.ptr M.next 0) M17) fun y19 => ∃ (z20 : Int) (z21 : Int) (z22 : Int) (z23 : Int) (z24 : Int), y19.1 =
  (.agg [(.val (.int .i64 z20)), (.val (.int .i64 z21)), (.val (.int .i64 z22)), (.val (.int .i64 z23)), (.val (.int .i64 z24))]) ∧
  (bindO (eLd tb 88 (.ptr M8.next 0) M17) fun y25 => ∃ (z26 : Int) (z27 : Int), y25.1 = (.agg [(.val (.int .i64 z26)), (.val (.int .i64 z27))]) ∧
  (CallA tb.P 137 [(.agg [(.val (.int .i64 z20)), (.val (.int .i64 z21)), (.val (.int .i64 z22)), (.val (.int .i64 z23)), (.val (.int .i64 z24))]), (.agg [(.val (.int .i64 z26)), (.val (.int .i64 z27))])] M17 fun y28 M29 => zB y28 fun b30 => condB (!b30) (Q (.val (.int .i64 (-1))) M29) (bindO (eLd tb 3 (.ptr M8.next 0) M29) fun y31 => zI .i64 y31.1 fun z32 => bindO (eLd tb 3 (.ptr M.next 1) M29) fun y33 => zI .i64 y33.1 fun z34 => bindO (eLd tb 3 (.ptr M8.next 1) M29) fun y35 => zI .i64 y35.1 fun z36 => Q (.val (.int .i64 (iAdd .i64 (iMul .i64 z32 z34) z36))) M29)))))
def an72 : An := (.seq (.reg []) (.seq (.seq (.reg [.agg [.int .i64, .int .i64, .int .i64, .int .i64, .int .i64], .bool, .bool]) (.cnd (.seq (.reg []) .z) .z)) (.seq (.seq (.reg [.agg [.int .i64, .int .i64, .int .i64, .int .i64, .int .i64], .agg [.int .i64, .int .i64], .bool, .bool]) (.cnd (.seq (.reg []) .z) .z)) (.seq (.reg [.ptr, .int .i64, .ptr, .int .i64, .int .i64, .ptr, .int .i64, .int .i64]) .z))))
theorem fn72 : tb.fn.get 72 = some Tryz.f72 := by kernel_rfl
theorem an72_ok : anB tb Tryz.f72.ntmps an72 (bodyOf Tryz.f72) = true := by kernel_rfl
theorem F72_eq : (fun (a0 a1 : AV) (M : Mem) (Q : AV → Mem → Prop) => zCs [.a [.int .i64, .int .i64, .int .i64, .int .i64, .int .i64], .a [.int .i64, .int .i64]] [a0, a1] fun args => wZ tb an72 (bodyOf Tryz.f72) (enterA Tryz.f72 args M) (retQ tb Tryz.f72 Q)) = fun (a0 a1 : AV) (M : Mem) (Q : AV → Mem → Prop) => F72 a0 a1 M Q := by kernel_rfl
theorem F72_ok {a0 a1 : AV} {M : Mem} {Q : AV → Mem → Prop} (h : F72 a0 a1 M Q) : CallA tb.P 72 [a0, a1] M Q :=
  calla_wZ tb_ok tb_mix fn72 (c := bodyOf Tryz.f72) rfl an72_ok (ks := [.a [.int .i64, .int .i64, .int .i64, .int .i64, .int .i64], .a [.int .i64, .int .i64]]) (cast (congrFun (congrFun (congrFun (congrFun F72_eq a0) a1) M) Q).symm h)

def F73 (a0 : AV) (M : Mem) (Q : AV → Mem → Prop) : Prop :=
  ∃ (z1 : Int) (z2 : Int) (z3 : Int) (z4 : Int) (z5 : Int), a0 = (.agg [(.val (.int .i64 z1)), (.val (.int .i64 z2)), (.val (.int .i64 z3)), (.val (.int .i64 z4)), (.val (.int .i64 z5))]) ∧
  letP (M.new (.cells [(.val (.int .i64 z1)), (.val (.int .i64 z2)), (.val (.int .i64 z3)), (.val (.int .i64 z4)), (.val (.int .i64 z5))] true)) fun M6 => letP (fun (b41 : Bool) (M42 : Mem) => Q (.val (.bool b41)) M42) fun K43 => bindO (eLd tb 3 (.ptr M.next 0) M6) fun y7 => zI .i64 y7.1 fun z8 => CallA tb.P 138 [(.val (.int .i64 z8)), (.val (.int .i64 8)), (.val (.int .i64 20))] M6 fun y9 M10 => zB y9 fun b11 => condB (b11) (bindO (eLd tb 3 (.ptr M.next 1) M10) fun y12 => zI .i64 y12.1 fun z13 => CallA tb.P 138 [(.val (.int .i64 z13)), (.val (.int .i64 4)), (.val (.int .i64 8))] M10 fun y14 M15 => zB y14 fun b16 => condB (b16) (bindO (eLd tb 3 (.ptr M.next 2) M15) fun y17 => zI .i64 y17.1 fun z18 => CallA tb.P 138 [(.val (.int .i64 z18)), (.val (.int .i64 24)), (.val (.int .i64 64))] M15 fun y19 M20 => zB y19 fun b21 => condB (b21) (bindO (eLd tb 3 (.ptr M.next 3) M20) fun y22 => zI .i64 y22.1 fun z23 => CallA tb.P 138 [(.val (.int .i64 z23)), (.val (.int .i64 0)), (.val (.int .i64 4))] M20 fun y24 M25 => zB y24 fun b26 => condB (b26) (bindO (eLd tb 3 (.ptr M.next 4) M25) fun y27 => zI .i64 y27.1 fun z28 => CallA tb.P 138 [(.val (.int .i64 z28)), (.val (.int .i64 2)), (.val (.int .i64 20))] M25 fun y29 M30 => zB y29 fun b31 => condB (b31) (bindO (eLd tb 55 (.ptr M.next 0) M30) fun y32 => ∃ (z33 : Int) (z34 : Int) (z35 : Int) (z36 : Int) (z37 : Int), y32.1 =
  (.agg [(.val (.int .i64 z33)), (.val (.int .i64 z34)), (.val (.int .i64 z35)), (.val (.int .i64 z36)), (.val (.int .i64 z37))]) ∧
  (CallA tb.P 139 [(.agg [(.val (.int .i64 z33)), (.val (.int .i64 z34)), (.val (.int .i64 z35)), (.val (.int .i64 z36)), (.val (.int .i64 z37))])] M30 fun y38 M39 => zI .i64 y38 fun z40 => K43 (decide (z40 ≥ (4 : Int))) M39)) (K43 false M30)) (K43 false M25)) (K43 false M20)) (K43 false M15)) (K43 false M10)
def an73 : An := (.seq (.reg []) (.seq (.reg [.ptr, .int .i64, .bool, .spl, .ptr, .int .i64, .bool, .non, .spl, .ptr, .int .i64, .bool, .non, .spl, .ptr, .int .i64, .bool, .non, .spl, .ptr, .int .i64, .bool, .non, .spl, .agg [.int .i64, .int .i64, .int .i64, .int .i64, .int .i64], .int .i64, .bool]) .z))
theorem fn73 : tb.fn.get 73 = some Tryz.f73 := by kernel_rfl
theorem an73_ok : anB tb Tryz.f73.ntmps an73 (bodyOf Tryz.f73) = true := by kernel_rfl
theorem F73_eq : (fun (a0 : AV) (M : Mem) (Q : AV → Mem → Prop) => zCs [.a [.int .i64, .int .i64, .int .i64, .int .i64, .int .i64]] [a0] fun args => wZ tb an73 (bodyOf Tryz.f73) (enterA Tryz.f73 args M) (retQ tb Tryz.f73 Q)) = fun (a0 : AV) (M : Mem) (Q : AV → Mem → Prop) => F73 a0 M Q := by kernel_rfl
theorem F73_ok {a0 : AV} {M : Mem} {Q : AV → Mem → Prop} (h : F73 a0 M Q) : CallA tb.P 73 [a0] M Q :=
  calla_wZ tb_ok tb_mix fn73 (c := bodyOf Tryz.f73) rfl an73_ok (ks := [.a [.int .i64, .int .i64, .int .i64, .int .i64, .int .i64]]) (cast (congrFun (congrFun (congrFun F73_eq a0) M) Q).symm h)

def F136 (a0 a1 : AV) (M : Mem) (Q : AV → Mem → Prop) : Prop :=
  ∃ (z1 : Int) (z2 : Int) (z3 : Int) (z4 : Int) (z5 : Int), a0 = (.agg [(.val (.int .i64 z1)), (.val (.int .i64 z2)), (.val (.int .i64 z3)), (.val (.int .i64 z4)), (.val (.int .i64 z5))]) ∧
  zI .i64 a1 fun z6 => letP (M.new (.cells [(.val (.int .i64 z1)), (.val (.int .i64 z2)), (.val (.int .i64 z3)), (.val (.int .i64 z4)), (.val (.int .i64 z5))] true)) fun M7 => bindO (eLd tb 55 (.ptr M.next 0) M7) fun y8 => ∃ (z9 : Int) (z10 : Int) (z11 : Int) (z12 : Int) (z13 : Int), y8.1 =
  (.agg [(.val (.int .i64 z9)), (.val (.int .i64 z10)), (.val (.int .i64 z11)), (.val (.int .i64 z12)), (.val (.int .i64 z13))]) ∧
  (CallA tb.P 73 [(.agg [(.val (.int .i64 z9)), (.val (.int .i64 z10)), (.val (.int .i64 z11)), (.val (.int .i64 z12)), (.val (.int .i64 z13))])] M7 fun y14 M15 => zB y14 fun b16 => condB (!b16) (Q (.val (.int .i64 0)) M15) (Q (.val (.int .i64 z6)) M15))
def an136 : An := (.seq (.reg []) (.seq (.seq (.reg [.agg [.int .i64, .int .i64, .int .i64, .int .i64, .int .i64], .bool, .bool]) (.cnd (.seq (.reg []) .z) .z)) (.seq (.reg []) .z)))
theorem fn136 : tb.fn.get 136 = some Tryz.f136 := by kernel_rfl
theorem an136_ok : anB tb Tryz.f136.ntmps an136 (bodyOf Tryz.f136) = true := by kernel_rfl
theorem F136_eq : (fun (a0 a1 : AV) (M : Mem) (Q : AV → Mem → Prop) => zCs [.a [.int .i64, .int .i64, .int .i64, .int .i64, .int .i64], .l (.int .i64)] [a0, a1] fun args => wZ tb an136 (bodyOf Tryz.f136) (enterA Tryz.f136 args M) (retQ tb Tryz.f136 Q)) = fun (a0 a1 : AV) (M : Mem) (Q : AV → Mem → Prop) => F136 a0 a1 M Q := by kernel_rfl
theorem F136_ok {a0 a1 : AV} {M : Mem} {Q : AV → Mem → Prop} (h : F136 a0 a1 M Q) : CallA tb.P 136 [a0, a1] M Q :=
  calla_wZ tb_ok tb_mix fn136 (c := bodyOf Tryz.f136) rfl an136_ok (ks := [.a [.int .i64, .int .i64, .int .i64, .int .i64, .int .i64], .l (.int .i64)]) (cast (congrFun (congrFun (congrFun (congrFun F136_eq a0) a1) M) Q).symm h)

def F137 (a0 a1 : AV) (M : Mem) (Q : AV → Mem → Prop) : Prop :=
  ∃ (z1 : Int) (z2 : Int) (z3 : Int) (z4 : Int) (z5 : Int), a0 = (.agg [(.val (.int .i64 z1)), (.val (.int .i64 z2)), (.val (.int .i64 z3)), (.val (.int .i64 z4)), (.val (.int .i64 z5))]) ∧
  ∃ (z6 : Int) (z7 : Int), a1 = (.agg [(.val (.int .i64 z6)), (.val (.int .i64 z7))]) ∧
  letP (M.new (.cells [(.val (.int .i64 z1)), (.val (.int .i64 z2)), (.val (.int .i64 z3)), (.val (.int .i64 z4)), (.val (.int .i64 z5))] true)) fun M8 => letP (M8.new (.cells [(.val (.int .i64 z6)), (.val (.int .i64 z7))] true)) fun M9 => letP (fun (b33 : Bool) (M34 : Mem) => Q (.val (.bool b33)) M34) fun K35 => bindO (eLd tb 55 (.ptr M.next 0) M9) fun y10 => ∃ (z11 : Int) (z12 : Int) (z13 : Int) (z14 : Int) (z15 : Int), y10.1 =
  (.agg [(.val (.int .i64 z11)), (.val (.int .i64 z12)), (.val (.int .i64 z13)), (.val (.int .i64 z14)), (.val (.int .i64 z15))]) ∧
  (CallA tb.P 73 [(.agg [(.val (.int .i64 z11)), (.val (.int .i64 z12)), (.val (.int .i64 z13)), (.val (.int .i64 z14)), (.val (.int .i64 z15))])] M9 fun y16 M17 => zB y16 fun b18 => condB (b18) (bindO (eLd tb 3 (.ptr M8.next 0) M17) fun y19 => zI .i64 y19.1 fun z20 => bindO (eLd tb 3 (.ptr M.next 0) M17) fun y21 => zI .i64 y21.1 fun z22 => CallA tb.P 138 [(.val (.int .i64 z20)), (.val (.int .i64 0)), (.val (.int .i64 (iSub .i64 z22 1)))] M17 fun y23 M24 => zB y23 fun b25 => condB (b25) (bindO (eLd tb 3 (.ptr M8.next 1) M24) fun y26 => zI .i64 y26.1 fun z27 => bindO (eLd tb 3 (.ptr M.next 1) M24) fun y28 => zI .i64 y28.1 fun z29 => CallA tb.P 138 [(.val (.int .i64 z27)), (.val (.int .i64 0)), (.val (.int .i64 (iSub .i64 z29 1)))] M24 fun y30 M31 => zB y30 fun b32 => K35 b32 M31) (K35 false M24)) (K35 false M17))
def an137 : An := (.seq (.reg []) (.seq (.reg [.agg [.int .i64, .int .i64, .int .i64, .int .i64, .int .i64], .bool, .spl, .ptr, .int .i64, .ptr, .int .i64, .int .i64, .bool, .non, .spl, .ptr, .int .i64, .ptr, .int .i64, .int .i64, .bool]) .z))
theorem fn137 : tb.fn.get 137 = some Tryz.f137 := by kernel_rfl
theorem an137_ok : anB tb Tryz.f137.ntmps an137 (bodyOf Tryz.f137) = true := by kernel_rfl
theorem F137_eq : (fun (a0 a1 : AV) (M : Mem) (Q : AV → Mem → Prop) => zCs [.a [.int .i64, .int .i64, .int .i64, .int .i64, .int .i64], .a [.int .i64, .int .i64]] [a0, a1] fun args => wZ tb an137 (bodyOf Tryz.f137) (enterA Tryz.f137 args M) (retQ tb Tryz.f137 Q)) = fun (a0 a1 : AV) (M : Mem) (Q : AV → Mem → Prop) => F137 a0 a1 M Q := by kernel_rfl
theorem F137_ok {a0 a1 : AV} {M : Mem} {Q : AV → Mem → Prop} (h : F137 a0 a1 M Q) : CallA tb.P 137 [a0, a1] M Q :=
  calla_wZ tb_ok tb_mix fn137 (c := bodyOf Tryz.f137) rfl an137_ok (ks := [.a [.int .i64, .int .i64, .int .i64, .int .i64, .int .i64], .a [.int .i64, .int .i64]]) (cast (congrFun (congrFun (congrFun (congrFun F137_eq a0) a1) M) Q).symm h)

def F138 (a0 a1 a2 : AV) (M : Mem) (Q : AV → Mem → Prop) : Prop :=
  zI .i64 a0 fun z1 => zI .i64 a1 fun z2 => zI .i64 a2 fun z3 => letP (fun (b4 : Bool) => Q (.val (.bool b4)) M) fun K5 => condB (decide (z1 ≥ z2)) (K5 (decide (z1 ≤ z3))) (K5 false)
def an138 : An := (.seq (.reg []) (.seq (.reg [.non, .non, .bool, .spl, .non, .non, .bool]) .z))
theorem fn138 : tb.fn.get 138 = some Tryz.f138 := by kernel_rfl
theorem an138_ok : anB tb Tryz.f138.ntmps an138 (bodyOf Tryz.f138) = true := by kernel_rfl
theorem F138_eq : (fun (a0 a1 a2 : AV) (M : Mem) (Q : AV → Mem → Prop) => zCs [.l (.int .i64), .l (.int .i64), .l (.int .i64)] [a0, a1, a2] fun args => wZ tb an138 (bodyOf Tryz.f138) (enterA Tryz.f138 args M) (retQ tb Tryz.f138 Q)) = fun (a0 a1 a2 : AV) (M : Mem) (Q : AV → Mem → Prop) => F138 a0 a1 a2 M Q := by kernel_rfl
theorem F138_ok {a0 a1 a2 : AV} {M : Mem} {Q : AV → Mem → Prop} (h : F138 a0 a1 a2 M Q) : CallA tb.P 138 [a0, a1, a2] M Q :=
  calla_wZ tb_ok tb_mix fn138 (c := bodyOf Tryz.f138) rfl an138_ok (ks := [.l (.int .i64), .l (.int .i64), .l (.int .i64)]) (cast (congrFun (congrFun (congrFun (congrFun (congrFun F138_eq a0) a1) a2) M) Q).symm h)

def F139 (a0 : AV) (M : Mem) (Q : AV → Mem → Prop) : Prop :=
  ∃ (z1 : Int) (z2 : Int) (z3 : Int) (z4 : Int) (z5 : Int), a0 = (.agg [(.val (.int .i64 z1)), (.val (.int .i64 z2)), (.val (.int .i64 z3)), (.val (.int .i64 z4)), (.val (.int .i64 z5))]) ∧
  letP (M.new (.cells [(.val (.int .i64 z1)), (.val (.int .i64 z2)), (.val (.int .i64 z3)), (.val (.int .i64 z4)), (.val (.int .i64 z5))] true)) fun M6 => bindO (eLd tb 3 (.ptr M.next 0) M6) fun y7 => zI .i64 y7.1 fun z8 => bindO (eLd tb 3 (.ptr M.next 3) M6) fun y9 => zI .i64 y9.1 fun z10 => bindO (eLd tb 3 (.ptr M.next 1) M6) fun y11 => zI .i64 y11.1 fun z12 => Q (.val (.int .i64 (iQuo .i64 (iSub .i64 (iMul .i64 (iSub .i64 (iSub .i64 z8 z10) 3) z12) 4) 2))) M6
def an139 : An := (.seq (.reg []) (.seq (.reg [.ptr, .int .i64, .ptr, .int .i64, .int .i64, .int .i64, .ptr, .int .i64, .int .i64, .int .i64, .int .i64]) .z))
theorem fn139 : tb.fn.get 139 = some Tryz.f139 := by kernel_rfl
theorem an139_ok : anB tb Tryz.f139.ntmps an139 (bodyOf Tryz.f139) = true := by kernel_rfl
theorem F139_eq : (fun (a0 : AV) (M : Mem) (Q : AV → Mem → Prop) => zCs [.a [.int .i64, .int .i64, .int .i64, .int .i64, .int .i64]] [a0] fun args => wZ tb an139 (bodyOf Tryz.f139) (enterA Tryz.f139 args M) (retQ tb Tryz.f139 Q)) = fun (a0 : AV) (M : Mem) (Q : AV → Mem → Prop) => F139 a0 M Q := by kernel_rfl
theorem F139_ok {a0 : AV} {M : Mem} {Q : AV → Mem → Prop} (h : F139 a0 M Q) : CallA tb.P 139 [a0] M Q :=
  calla_wZ tb_ok tb_mix fn139 (c := bodyOf Tryz.f139) rfl an139_ok (ks := [.a [.int .i64, .int .i64, .int .i64, .int .i64, .int .i64]]) (cast (congrFun (congrFun (congrFun F139_eq a0) M) Q).symm h)

def F203 (a0 : AV) (M : Mem) (Q : AV → Mem → Prop) : Prop :=
  zI .u8 a0 fun z1 => Q (.val (.bool (z1 != (255 : Int)))) M
def an203 : An := (.seq (.reg []) (.seq (.reg [.non, .bool]) .z))
theorem fn203 : tb.fn.get 203 = some Tryz.f203 := by kernel_rfl
theorem an203_ok : anB tb Tryz.f203.ntmps an203 (bodyOf Tryz.f203) = true := by kernel_rfl
theorem F203_eq : (fun (a0 : AV) (M : Mem) (Q : AV → Mem → Prop) => zCs [.l (.int .u8)] [a0] fun args => wZ tb an203 (bodyOf Tryz.f203) (enterA Tryz.f203 args M) (retQ tb Tryz.f203 Q)) = fun (a0 : AV) (M : Mem) (Q : AV → Mem → Prop) => F203 a0 M Q := by kernel_rfl
theorem F203_ok {a0 : AV} {M : Mem} {Q : AV → Mem → Prop} (h : F203 a0 M Q) : CallA tb.P 203 [a0] M Q :=
  calla_wZ tb_ok tb_mix fn203 (c := bodyOf Tryz.f203) rfl an203_ok (ks := [.l (.int .u8)]) (cast (congrFun (congrFun (congrFun F203_eq a0) M) Q).symm h)

def F258 (a0 a1 : AV) (M : Mem) (Q : AV → Mem → Prop) : Prop :=
  bindO (eLen tb false 91 a0 M) fun y1 => zI .i64 y1.1 fun z2 => ∃ J3 : Int → Nat → Mem → Prop, (∃ n4 : Nat, J3 (0 : Int) n4 M) ∧ ∀ (_ : Nat → Option AV) (z5 : Int) (n6 : Nat) (M7 : Mem), J3 z5 n6 M7 →
  (condB (decide (z5 < z2)) (bindO (eIA tb 91 a0 (.val (.int .i64 z5)) M7) fun y8 => zP y8.1 fun p9 o10 => bindO (eLd tb 5 (.ptr p9 o10) M7) fun y11 => zI .u8 y11.1 fun z12 => eCall tb a1 [(.val (.int .u8 z12))] M7 fun y13 M14 => zB y13 fun b15 => condB (b15) (Q (.val (.int .i64 z5)) M14) (∃ k16 : Nat, k16 < n6 ∧
  (J3 (iAdd .i64 z5 1) k16 M14))) (Q (.val (.int .i64 (-1))) M7))
def an258 : An := (.seq (.reg []) (.seq (.seq (.reg [.non, .int .i64]) (.blk (.lop [(8, .int .i64)] [4, 5, 9, 10, 11, 12, 13, 14, 15, 16, 17, 18] (.seq (.reg []) (.seq (.cnd .z .z) (.seq (.blk (.seq (.reg []) (.seq (.reg [.non, .non, .non, .ptr, .int .u8, .bool]) (.cnd (.seq (.reg []) .z) .z)))) (.reg [.int .i64]))))))) (.seq (.reg []) .z)))
theorem fn258 : tb.fn.get 258 = some Tryz.f258 := by kernel_rfl
theorem an258_ok : anB tb Tryz.f258.ntmps an258 (bodyOf Tryz.f258) = true := by kernel_rfl
theorem F258_eq : (fun (a0 a1 : AV) (M : Mem) (Q : AV → Mem → Prop) => zCs [.l .any, .l .any] [a0, a1] fun args => wZ tb an258 (bodyOf Tryz.f258) (enterA Tryz.f258 args M) (retQ tb Tryz.f258 Q)) = fun (a0 a1 : AV) (M : Mem) (Q : AV → Mem → Prop) => F258 a0 a1 M Q := by kernel_rfl
theorem F258_ok {a0 a1 : AV} {M : Mem} {Q : AV → Mem → Prop} (h : F258 a0 a1 M Q) : CallA tb.P 258 [a0, a1] M Q :=
  calla_wZ tb_ok tb_mix fn258 (c := bodyOf Tryz.f258) rfl an258_ok (ks := [.l .any, .l .any]) (cast (congrFun (congrFun (congrFun (congrFun F258_eq a0) a1) M) Q).symm h)

def F259 (a0 a1 : AV) (M : Mem) (Q : AV → Mem → Prop) : Prop :=
  zI .u32 a0 fun z1 => bindO (eUn tb .xor (.val (.int .u32 z1)) M) fun y2 => zI .u32 y2.1 fun z3 => bindO (eLen tb false 91 a1 M) fun y4 => zI .i64 y4.1 fun z5 => ∃ J6 : Int → Int → Nat → Mem → Prop, (∃ n7 : Nat, J6 z3 (0 : Int) n7 M) ∧
  ∀ (_ : Nat → Option AV) (z8 : Int) (z9 : Int) (n10 : Nat) (M11 : Mem), J6 z8 z9 n10 M11 →
  (condB (decide (z9 < z5)) (bindO (eIA tb 91 a1 (.val (.int .i64 z9)) M11) fun y12 => zP y12.1 fun p13 o14 => bindO (eLd tb 5 (.ptr p13 o14) M11) fun y15 => zI .u8 y15.1 fun z16 => ∃ J17 : Int → Int → Nat → Mem → Prop, (∃ n18 : Nat, J17 (iXor .u32 z8 (IntKind.wrap .u32 z16)) (0 : Int) n18 M11) ∧
  ∀ (_ : Nat → Option AV) (z19 : Int) (z20 : Int) (n21 : Nat) (M22 : Mem), J17 z19 z20 n21 M22 → (condB (decide (z20 < (8 : Int))) (letP (fun (z23 : Int) => ∃ k25 : Nat, k25 < n21 ∧
  (J17 z23 (iAdd .i64 z20 1) k25 M22)) fun K24 => condB ((iAnd .u32 z19 1) == (1 : Int)) (K24 (iXor .u32 (iShr .u32 z19 1) 3988292384)) (K24 (iShr .u32 z19 1))) (∃ k26 : Nat, k26 < n10 ∧
  (J6 z19 (iAdd .i64 z9 1) k26 M22)))) (bindO (eUn tb .xor (.val (.int .u32 z8)) M11) fun y27 => zI .u32 y27.1 fun z28 => Q (.val (.int .u32 z28)) M11))
def an259 : An := (.seq (.reg []) (.seq (.reg [.non, .int .u32]) (.seq (.seq (.reg [.non, .int .i64]) (.blk (.lop [(5, .int .u32), (13, .int .i64)] [7, 8, 14, 15, 16, 17, 18, 19, 20, 21, 22, 23, 24, 25, 26, 27, 28, 29, 30, 31, 32] (.seq (.reg []) (.seq (.cnd .z .z) (.seq (.blk (.seq (.reg [.ptr, .int .u8]) (.seq (.reg [.non, .non, .int .u32, .int .u32]) (.seq (.reg []) (.blk (.lop [(5, .int .u32), (21, .int .i64)] [8, 22, 23, 24, 25, 26, 27, 28, 29, 30, 31] (.seq (.reg [.bool]) (.seq (.cnd .z .z) (.seq (.blk (.seq (.reg [.non, .int .u32]) (.seq (.reg [.non, .int .u32]) (.seq (.reg [.non, .bool]) (.cnd (.reg [.non, .int .u32]) .z))))) (.reg [.int .i64])))))))))) (.reg [.int .i64]))))))) (.seq (.reg [.non, .int .u32]) .z))))
theorem fn259 : tb.fn.get 259 = some Tryz.f259 := by kernel_rfl
theorem an259_ok : anB tb Tryz.f259.ntmps an259 (bodyOf Tryz.f259) = true := by kernel_rfl
theorem F259_eq : (fun (a0 a1 : AV) (M : Mem) (Q : AV → Mem → Prop) => zCs [.l (.int .u32), .l .any] [a0, a1] fun args => wZ tb an259 (bodyOf Tryz.f259) (enterA Tryz.f259 args M) (retQ tb Tryz.f259 Q)) = fun (a0 a1 : AV) (M : Mem) (Q : AV → Mem → Prop) => F259 a0 a1 M Q := by kernel_rfl
theorem F259_ok {a0 a1 : AV} {M : Mem} {Q : AV → Mem → Prop} (h : F259 a0 a1 M Q) : CallA tb.P 259 [a0, a1] M Q :=
  calla_wZ tb_ok tb_mix fn259 (c := bodyOf Tryz.f259) rfl an259_ok (ks := [.l (.int .u32), .l .any]) (cast (congrFun (congrFun (congrFun (congrFun F259_eq a0) a1) M) Q).symm h)

end Go.Proofs.YtgoehfelpekhcaaGreatDoor
