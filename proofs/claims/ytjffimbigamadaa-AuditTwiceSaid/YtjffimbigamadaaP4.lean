import Derived.Test.YtjffimbigamadaaP3
set_option linter.unusedSimpArgs false
set_option linter.unusedVariables false
set_option linter.unusedSectionVars false
/- Functions as what has to be shown. (Printed by pr.py.) -/
namespace Go.Proofs.Ytjffimbigamadaa
open Go.AM
def F40 (a0 : AV) (M : Mem) (Q : AV → Mem → Prop) : Prop :=
  letP (M.new (.cells [(.val (.slice none 0 0))] true)) fun M1 => CallA tb.P 91 [a0, (.fn 93 [] [(.ptr M.next 0)])] M1 fun y2 M3 => zI .i64 y2 fun z4 => condB (z4 !=
  (0 : Int)) (Q (.tup [(.val (.slice none 0 0)), (.val (.int .i64 z4))]) M3) (bindO (eLd tb 70 (.ptr M.next 0) M3) fun y5 => Q (.tup [y5.1, (.val (.int .i64 0))]) M3)
def an40 : An := (.seq (.reg []) (.seq (.reg []) (.seq (.reg [.non, .non, .int .i64]) (.seq (.seq (.reg [.non, .bool]) (.cnd (.seq (.reg []) .z) .z)) (.seq (.reg []) .z)))))
theorem fn40 : tb.fn.get 40 = some Try.f40 := by kernel_rfl
theorem an40_ok : anB tb Try.f40.ntmps an40 (bodyOf Try.f40) = true := by kernel_rfl
theorem F40_eq : (fun (a0 : AV) (M : Mem) (Q : AV → Mem → Prop) => zCs [.l .any] [a0] fun args => wZ tb an40 (bodyOf Try.f40) (enterA Try.f40 args M) (retQ tb Try.f40 Q)) = fun (a0 : AV) (M : Mem) (Q : AV → Mem → Prop) => F40 a0 M Q := by kernel_rfl
theorem F40_ok {a0 : AV} {M : Mem} {Q : AV → Mem → Prop} (h : F40 a0 M Q) : CallA tb.P 40 [a0] M Q :=
  calla_wZ tb_ok tb_mix fn40 (c := bodyOf Try.f40) rfl an40_ok (ks := [.l .any]) (cast (congrFun (congrFun (congrFun F40_eq a0) M) Q).symm h)

def F61 (a0 a1 : AV) (M : Mem) (Q : AV → Mem → Prop) : Prop :=
  ∃ (z1 : Int) (z2 : Int) (z3 : Int) (z4 : Int), a1 = (.agg [(.val (.int .i64 z1)), (.val (.int .i64 z2)), (.val (.int .i64 z3)), (.val (.int .i64 z4))]) ∧
  letP (M.new (.cells [(.val (.int .i64 z1)), (.val (.int .i64 z2)), (.val (.int .i64 z3)), (.val (.int .i64 z4))] true)) fun M5 => letP (fun (b18 : Bool) (M19 : Mem) => condB (b18) (Q (.tup [(.val (.slice none 0 0)), (.val (.int .i64 2))]) M19) (letP (⟨M19.next + 1, M19.rows⟩ : Mem) fun M21 => bindO (eLd tb 3 (.ptr M.next 0) M21) fun y22 => zI .i64 y22.1 fun z23 => bindO (evAppend tb 33 33 (.val (.slice none 0 0)) a0 M21) fun y24 => (bindO (eLd tb 3 (.ptr M.next 0) y24.2) fun y25 => (some (.val (.int .i64 z23)) : Option AV) =
  some y25.1) ∧
  (letP (y24.2.put M19.next (.cells [(.val (.int .u8 74)), (.val (.int .u8 (IntKind.wrap .u8 z23)))] true)) fun M26 => bindO (evAppend tb 33 33 y24.1 (.sl M19.next 0 2 2 none) M26) fun y27 => bindO (eLd tb 3 (.ptr M.next 1) y27.2) fun y28 => zI .i64 y28.1 fun z29 => bindO (eLd tb 3 (.ptr M.next 2) y27.2) fun y30 => zI .i64 y30.1 fun z31 => bindO (eLd tb 3 (.ptr M.next 3) y27.2) fun y32 => zI .i64 y32.1 fun z33 => CallA tb.P 106 [y27.1, (.val (.int .i64 z29)), (.val (.int .i64 2))] y27.2 fun y34 M35 => (bindO (eLd tb 3 (.ptr M.next 2) M35) fun y36 => (some (.val (.int .i64 z31)) : Option AV) =
  some y36.1) ∧ (bindO (eLd tb 3 (.ptr M.next 3) M35) fun y37 => (some (.val (.int .i64 z33)) : Option AV) = some y37.1) ∧
  (CallA tb.P 106 [y34, (.val (.int .i64 z31)), (.val (.int .i64 4))] M35 fun y38 M39 => (bindO (eLd tb 3 (.ptr M.next 3) M39) fun y40 => (some (.val (.int .i64 z33)) : Option AV) = some y40.1) ∧
  (CallA tb.P 106 [y38, (.val (.int .i64 z33)), (.val (.int .i64 3))] M39 fun y41 M42 => CallA tb.P 107 [y41] M42 fun y43 M44 => zI .u32 y43 fun z45 => CallA tb.P 106 [y41, (.val (.int .i64 (IntKind.wrap .i64 z45))), (.val (.int .i64 4))] M44 fun y46 M47 => letP (M47.new (.cells [(.val (.int .u8 0))] true)) fun M48 => bindO (evAppend tb 33 33 y46 (.sl M47.next 0 1 1 none) M48) fun y49 => Q (.tup [y49.1, (.val (.int .i64 0))]) y49.2))))) fun K20 => bindO (eLen tb false 33 a0 M5) fun y6 => zI .i64 y6.1 fun z7 => condB (decide (z7 < (24 : Int))) (K20 true M5) (bindO (eLen tb false 33 a0 M5) fun y8 => zI .i64 y8.1 fun z9 => condB (decide (z9 > (64 : Int))) (K20 true M5) (bindO (eLd tb 76 (.ptr M.next 0) M5) fun y10 => ∃ (z11 : Int) (z12 : Int) (z13 : Int) (z14 : Int), y10.1 =
  (.agg [(.val (.int .i64 z11)), (.val (.int .i64 z12)), (.val (.int .i64 z13)), (.val (.int .i64 z14))]) ∧
  (CallA tb.P 105 [(.agg [(.val (.int .i64 z11)), (.val (.int .i64 z12)), (.val (.int .i64 z13)), (.val (.int .i64 z14))])] M5 fun y15 M16 => zB y15 fun b17 => K20 (!b17) M16)))
def an61 : An := (.seq (.reg []) (.seq (.seq (.reg [.non, .int .i64, .bool, .spl, .non, .int .i64, .bool, .non, .spl, .agg [.int .i64, .int .i64, .int .i64, .int .i64], .bool, .bool]) (.cnd (.seq (.reg []) .z) .z)) (.seq (.opn [(0, []), (2, []), (3, []), (4, []), (1, [3]), (5, []), (6, []), (7, [])] [0, 0, 0, 0, 0, 0, 0, 0] [[], [3]] 1 [.non, .ptr, .int .i64, .int .u8, .non, .non, .non, .non]) (.seq (.opn [(0, []), (1, []), (4, []), (7, []), (2, []), (5, []), (8, []), (3, [5, 8]), (6, [8]), (9, []), (10, [])] [] [[], [], [], [5, 8], [], [], [8]] 0 [.non, .ptr, .ptr, .ptr, .int .i64, .int .i64, .int .i64, .non, .non, .non, .non]) (.seq (.reg [.non, .non, .int .u32, .int .i64]) (.seq (.reg []) .z))))))
theorem fn61 : tb.fn.get 61 = some Try.f61 := by kernel_rfl
theorem an61_ok : anB tb Try.f61.ntmps an61 (bodyOf Try.f61) = true := by kernel_rfl
theorem F61_eq : (fun (a0 a1 : AV) (M : Mem) (Q : AV → Mem → Prop) => zCs [.l .any, .a [.int .i64, .int .i64, .int .i64, .int .i64]] [a0, a1] fun args => wZ tb an61 (bodyOf Try.f61) (enterA Try.f61 args M) (retQ tb Try.f61 Q)) = fun (a0 a1 : AV) (M : Mem) (Q : AV → Mem → Prop) => F61 a0 a1 M Q := by kernel_rfl
theorem F61_ok {a0 a1 : AV} {M : Mem} {Q : AV → Mem → Prop} (h : F61 a0 a1 M Q) : CallA tb.P 61 [a0, a1] M Q :=
  calla_wZ tb_ok tb_mix fn61 (c := bodyOf Try.f61) rfl an61_ok (ks := [.l .any, .a [.int .i64, .int .i64, .int .i64, .int .i64]]) (cast (congrFun (congrFun (congrFun (congrFun F61_eq a0) a1) M) Q).symm h)

def F91 (a0 a1 : AV) (M : Mem) (Q : AV → Mem → Prop) : Prop :=
  letP (M.new (.cells [(.val (.int .i64 0)), (.val (.int .i64 0)), (.val (.int .i64 0)), (.val (.int .i64 0))] true)) fun M1 => CallA tb.P 36 [a0] M1 fun y2 M3 => ∃ (z4 : Int) (z5 : Int) (z6 : Int) (z7 : Int) (z8 : Int), y2 =
  (.agg [(.val (.int .i64 z4)), (.val (.int .i64 z5)), (.val (.int .i64 z6)), (.val (.int .i64 z7)), (.val (.int .i64 z8))]) ∧
  (letP (M3.new (.cells [(.val (.int .i64 0)), (.val (.int .i64 0)), (.val (.int .i64 0)), (.val (.int .i64 0)), (.val (.int .i64 0))] true)) fun M9 => bindO (eSt tb 23 (.ptr M3.next 0) (.agg [(.val (.int .i64 z4)), (.val (.int .i64 z5)), (.val (.int .i64 z6)), (.val (.int .i64 z7)), (.val (.int .i64 z8))]) M9) fun y10 => letP (y10.2.new (.cells [(.val (.int .i64 0)), (.val (.int .i64 0))] true)) fun M11 => bindO (eSt tb 30 (.ptr y10.2.next 0) (.agg [(.val (.int .i64 0)), (.val (.int .i64 0))]) M11) fun y12 => bindO (eBin tb .eql 24 (.tmp 14) (.const (.pointer none)) a0 (.val (.pointer none)) y12.2) fun y13 => zB y13.1 fun b14 => condB (b14) (Q (.val (.int .i64 1)) y12.2) (∃ J15 : Nat → Mem → Prop, (∃ n16 : Nat, J15  n16 y12.2) ∧
  ∀ (_ : Nat → Option AV)  (n17 : Nat) (M18 : Mem), J15  n17 M18 →
  (bindO (eLd tb 3 (.ptr y10.2.next 0) M18) fun y19 => zI .i64 y19.1 fun z20 => CallA tb.P 32 [a0, (.val (.int .i64 z20))] M18 fun y21 M22 => zB y21 fun b23 => condB (b23) (bindO (eLd tb 23 (.ptr M3.next 0) M22) fun y24 => ∃ (z25 : Int) (z26 : Int) (z27 : Int) (z28 : Int) (z29 : Int), y24.1 =
  (.agg [(.val (.int .i64 z25)), (.val (.int .i64 z26)), (.val (.int .i64 z27)), (.val (.int .i64 z28)), (.val (.int .i64 z29))]) ∧
  (bindO (eLd tb 30 (.ptr y10.2.next 0) M22) fun y30 => ∃ (z31 : Int) (z32 : Int), y30.1 = (.agg [(.val (.int .i64 z31)), (.val (.int .i64 z32))]) ∧
  (CallA tb.P 114 [(.agg [(.val (.int .i64 z25)), (.val (.int .i64 z26)), (.val (.int .i64 z27)), (.val (.int .i64 z28)), (.val (.int .i64 z29))]), (.agg [(.val (.int .i64 z31)), (.val (.int .i64 z32))])] M22 fun y33 M34 => ∃ (z35 : Int) (z36 : Int) (b37 : Bool), y33 =
  (.tup [(.agg [(.val (.int .i64 z35)), (.val (.int .i64 z36))]), (.val (.bool b37))]) ∧
  (bindO (eSt tb 30 (.ptr y10.2.next 0) (.agg [(.val (.int .i64 z35)), (.val (.int .i64 z36))]) M34) fun y38 => condB (b37) (∃ k39 : Nat, k39 < n17 ∧
  (J15  k39 y38.2)) (Q (.val (.int .i64 0)) y38.2))))) (bindO (eLd tb 30 (.ptr y10.2.next 0) M22) fun y40 => ∃ (z41 : Int) (z42 : Int), y40.1 =
  (.agg [(.val (.int .i64 z41)), (.val (.int .i64 z42))]) ∧
  (CallA tb.P 94 [a0, (.agg [(.val (.int .i64 z41)), (.val (.int .i64 z42))])] M22 fun y43 M44 => ∃ (x45 : AV) (z46 : Int) (z47 : Int) (z48 : Int) (z49 : Int) (z50 : Int) (z51 : Int), y43 =
  (.tup [x45, (.agg [(.val (.int .i64 z46)), (.val (.int .i64 z47)), (.val (.int .i64 z48)), (.val (.int .i64 z49))]), (.val (.int .i64 z50)), (.val (.int .i64 z51))]) ∧
  (bindO (eSt tb 76 (.ptr M.next 0) (.agg [(.val (.int .i64 z46)), (.val (.int .i64 z47)), (.val (.int .i64 z48)), (.val (.int .i64 z49))]) M44) fun y52 => condB (z51 !=
  (0 : Int)) (Q (.val (.int .i64 z51)) y52.2) (bindO (eLd tb 30 (.ptr y10.2.next 0) y52.2) fun y53 => ∃ (z54 : Int) (z55 : Int), y53.1 = (.agg [(.val (.int .i64 z54)), (.val (.int .i64 z55))]) ∧
  (bindO (eLd tb 76 (.ptr M.next 0) y52.2) fun y56 => ∃ (z57 : Int) (z58 : Int) (z59 : Int) (z60 : Int), y56.1 =
  (.agg [(.val (.int .i64 z57)), (.val (.int .i64 z58)), (.val (.int .i64 z59)), (.val (.int .i64 z60))]) ∧
  (eCall tb a1 [(.agg [(.val (.int .i64 z54)), (.val (.int .i64 z55))]), (.agg [(.val (.int .i64 z57)), (.val (.int .i64 z58)), (.val (.int .i64 z59)), (.val (.int .i64 z60))]), (.val (.int .i64 z50))] y52.2 fun y61 M62 => bindO (eLd tb 23 (.ptr M3.next 0) M62) fun y63 => ∃ (z64 : Int) (z65 : Int) (z66 : Int) (z67 : Int) (z68 : Int), y63.1 =
  (.agg [(.val (.int .i64 z64)), (.val (.int .i64 z65)), (.val (.int .i64 z66)), (.val (.int .i64 z67)), (.val (.int .i64 z68))]) ∧
  (bindO (eLd tb 30 (.ptr y10.2.next 0) M62) fun y69 => ∃ (z70 : Int) (z71 : Int), y69.1 = (.agg [(.val (.int .i64 z70)), (.val (.int .i64 z71))]) ∧
  (CallA tb.P 114 [(.agg [(.val (.int .i64 z64)), (.val (.int .i64 z65)), (.val (.int .i64 z66)), (.val (.int .i64 z67)), (.val (.int .i64 z68))]), (.agg [(.val (.int .i64 z70)), (.val (.int .i64 z71))])] M62 fun y72 M73 => ∃ (z74 : Int) (z75 : Int) (b76 : Bool), y72 =
  (.tup [(.agg [(.val (.int .i64 z74)), (.val (.int .i64 z75))]), (.val (.bool b76))]) ∧
  (bindO (eSt tb 30 (.ptr y10.2.next 0) (.agg [(.val (.int .i64 z74)), (.val (.int .i64 z75))]) M73) fun y77 => condB (b76) (∃ k78 : Nat, k78 < n17 ∧
  (J15  k78 y77.2)) (Q (.val (.int .i64 0)) y77.2)))))))))))))
def an91 : An := (.seq (.reg []) (.scp 1 0 (.seq (.reg []) (.seq (.reg []) (.seq (.reg [.non, .agg [.int .i64, .int .i64, .int .i64, .int .i64, .int .i64]]) (.seq (.reg []) (.seq (.seq (.reg [.non, .bool]) (.cnd (.seq (.reg []) .z) .z)) .z))))) [] [4, 6, 7, 8, 16, 17, 18, 19, 20, 21, 22, 23, 24, 25, 26, 27, 28, 29, 30, 31, 32, 33, 34, 35, 36, 37, 38, 39, 40, 41, 42] (.seq (.seq (.reg [.non, .ptr, .int .i64, .bool]) (.cnd .z .z)) (.seq (.reg [.non, .agg [.int .i64, .int .i64], .tup [.l .any, .a [.int .i64, .int .i64, .int .i64, .int .i64], .l (.int .i64), .l (.int .i64)], .non, .non, .non, .int .i64, .int .i64]) (.seq (.seq (.reg [.non, .bool]) (.cnd (.seq (.reg []) .z) .z)) (.seq (.reg [.non, .agg [.int .i64, .int .i64], .agg [.int .i64, .int .i64, .int .i64, .int .i64]]) (.seq .z (.seq (.reg [.agg [.int .i64, .int .i64, .int .i64, .int .i64, .int .i64], .agg [.int .i64, .int .i64], .tup [.a [.int .i64, .int .i64], .l .bool], .non, .non, .bool]) (.seq (.seq (.reg []) (.cnd .z .z)) (.seq (.reg []) .z)))))))) (.seq (.reg [.agg [.int .i64, .int .i64, .int .i64, .int .i64, .int .i64], .agg [.int .i64, .int .i64], .tup [.a [.int .i64, .int .i64], .l .bool], .non, .non, .bool]) (.seq (.seq (.reg []) (.cnd .z .z)) (.seq (.reg []) .z)))))
theorem fn91 : tb.fn.get 91 = some Try.f91 := by kernel_rfl
theorem an91_ok : anB tb Try.f91.ntmps an91 (bodyOf Try.f91) = true := by kernel_rfl
theorem F91_eq : (fun (a0 a1 : AV) (M : Mem) (Q : AV → Mem → Prop) => zCs [.l .any, .l .any] [a0, a1] fun args => wZ tb an91 (bodyOf Try.f91) (enterA Try.f91 args M) (retQ tb Try.f91 Q)) = fun (a0 a1 : AV) (M : Mem) (Q : AV → Mem → Prop) => F91 a0 a1 M Q := by kernel_rfl
theorem F91_ok {a0 a1 : AV} {M : Mem} {Q : AV → Mem → Prop} (h : F91 a0 a1 M Q) : CallA tb.P 91 [a0, a1] M Q :=
  calla_wZ tb_ok tb_mix fn91 (c := bodyOf Try.f91) rfl an91_ok (ks := [.l .any, .l .any]) (cast (congrFun (congrFun (congrFun (congrFun F91_eq a0) a1) M) Q).symm h)

def F93 (a0 a1 a2 a3 : AV) (M : Mem) (Q : AV → Mem → Prop) : Prop :=
  ∃ (z1 : Int) (z2 : Int), a0 = (.agg [(.val (.int .i64 z1)), (.val (.int .i64 z2))]) ∧ ∃ (z3 : Int) (z4 : Int) (z5 : Int) (z6 : Int), a1 =
  (.agg [(.val (.int .i64 z3)), (.val (.int .i64 z4)), (.val (.int .i64 z5)), (.val (.int .i64 z6))]) ∧
  zI .i64 a2 fun z7 => letP (M.new (.cells [(.val (.int .i64 z1)), (.val (.int .i64 z2))] true)) fun M8 => letP (M8.new (.cells [(.val (.int .i64 z3)), (.val (.int .i64 z4)), (.val (.int .i64 z5)), (.val (.int .i64 z6))] true)) fun M9 => condB (z7 ==
  (1 : Int)) (bindO (eLd tb 70 a3 M9) fun y10 => bindO (eLd tb 30 (.ptr M.next 0) M9) fun y11 => ∃ (z12 : Int) (z13 : Int), y11.1 = (.agg [(.val (.int .i64 z12)), (.val (.int .i64 z13))]) ∧
  (bindO (eLd tb 76 (.ptr M8.next 0) M9) fun y14 => ∃ (z15 : Int) (z16 : Int) (z17 : Int) (z18 : Int), y14.1 =
  (.agg [(.val (.int .i64 z15)), (.val (.int .i64 z16)), (.val (.int .i64 z17)), (.val (.int .i64 z18))]) ∧
  (letP (M9.new (.cells [(.val (.int .i64 z12)), (.val (.int .i64 z13)), (.val (.int .i64 z15)), (.val (.int .i64 z16)), (.val (.int .i64 z17)), (.val (.int .i64 z18))] true)) fun M19 => bindO (evAppend tb 70 70 y10.1 (.sl M9.next 0 1 1 none) M19) fun y20 => bindO (eSt tb 70 a3 y20.1 y20.2) fun y21 => Q (.tup []) y21.2))) (Q (.tup []) M9)
def an93 : An := (.seq (.reg []) (.seq (.reg [.non, .bool]) (.cnd (.reg [.non, .agg [.int .i64, .int .i64], .agg [.int .i64, .int .i64, .int .i64, .int .i64]]) .z)))
theorem fn93 : tb.fn.get 93 = some Try.f93 := by kernel_rfl
theorem an93_ok : anB tb Try.f93.ntmps an93 (bodyOf Try.f93) = true := by kernel_rfl
theorem F93_eq : (fun (a0 a1 a2 a3 : AV) (M : Mem) (Q : AV → Mem → Prop) => zCs [.a [.int .i64, .int .i64], .a [.int .i64, .int .i64, .int .i64, .int .i64], .l (.int .i64), .l .any] [a0, a1, a2, a3] fun args => wZ tb an93 (bodyOf Try.f93) (enterA Try.f93 args M) (retQ tb Try.f93 Q)) = fun (a0 a1 a2 a3 : AV) (M : Mem) (Q : AV → Mem → Prop) => F93 a0 a1 a2 a3 M Q := by kernel_rfl
theorem F93_ok {a0 a1 a2 a3 : AV} {M : Mem} {Q : AV → Mem → Prop} (h : F93 a0 a1 a2 a3 M Q) : CallA tb.P 93 [a0, a1, a2, a3] M Q :=
  calla_wZ tb_ok tb_mix fn93 (c := bodyOf Try.f93) rfl an93_ok (ks := [.a [.int .i64, .int .i64], .a [.int .i64, .int .i64, .int .i64, .int .i64], .l (.int .i64), .l .any]) (cast (congrFun (congrFun (congrFun (congrFun (congrFun (congrFun F93_eq a0) a1) a2) a3) M) Q).symm h)

def F94 (a0 a1 : AV) (M : Mem) (Q : AV → Mem → Prop) : Prop :=
  ∃ (z1 : Int) (z2 : Int), a1 = (.agg [(.val (.int .i64 z1)), (.val (.int .i64 z2))]) ∧
  letP (M.new (.cells [(.val (.int .i64 z1)), (.val (.int .i64 z2))] true)) fun M3 => letP (M3.new (.cells [(.val (.int .i64 0)), (.val (.int .i64 0)), (.val (.int .i64 0)), (.val (.int .i64 0))] true)) fun M4 => bindO (eLd tb 30 (.ptr M.next 0) M4) fun y5 => ∃ (z6 : Int) (z7 : Int), y5.1 =
  (.agg [(.val (.int .i64 z6)), (.val (.int .i64 z7))]) ∧ (CallA tb.P 21 [a0, (.agg [(.val (.int .i64 z6)), (.val (.int .i64 z7))])] M4 fun y8 M9 => ∃ (x10 : AV) (z11 : Int), y8 =
  (.tup [x10, (.val (.int .i64 z11))]) ∧ (condB (z11 !=
  (0 : Int)) (bindO (eSt tb 76 (.ptr M3.next 0) (.agg [(.val (.int .i64 0)), (.val (.int .i64 0)), (.val (.int .i64 0)), (.val (.int .i64 0))]) M9) fun y12 => bindO (eRes tb [.v (.val (.slice none 0 0)), .c 76 (.ptr M3.next 0), .v (.val (.int .i64 0)), .v (.val (.int .i64 z11))] y12.2) fun x13 => Q x13 y12.2) (CallA tb.P 115 [x10] M9 fun y14 M15 => ∃ (x16 : AV) (z17 : Int) (z18 : Int) (z19 : Int) (z20 : Int) (z21 : Int), y14 =
  (.tup [x16, (.agg [(.val (.int .i64 z17)), (.val (.int .i64 z18)), (.val (.int .i64 z19)), (.val (.int .i64 z20))]), (.val (.int .i64 z21))]) ∧
  (letP (M15.new (.cells [(.val (.int .i64 0)), (.val (.int .i64 0)), (.val (.int .i64 0)), (.val (.int .i64 0))] true)) fun M22 => bindO (eSt tb 76 (.ptr M15.next 0) (.agg [(.val (.int .i64 z17)), (.val (.int .i64 z18)), (.val (.int .i64 z19)), (.val (.int .i64 z20))]) M22) fun y23 => bindO (eLd tb 76 (.ptr M15.next 0) y23.2) fun y24 => ∃ (z25 : Int) (z26 : Int) (z27 : Int) (z28 : Int), y24.1 =
  (.agg [(.val (.int .i64 z25)), (.val (.int .i64 z26)), (.val (.int .i64 z27)), (.val (.int .i64 z28))]) ∧
  (bindO (eSt tb 76 (.ptr M3.next 0) (.agg [(.val (.int .i64 z25)), (.val (.int .i64 z26)), (.val (.int .i64 z27)), (.val (.int .i64 z28))]) y23.2) fun y29 => bindO (eRes tb [.v x16, .c 76 (.ptr M3.next 0), .v (.val (.int .i64 z21)), .v (.val (.int .i64 0))] y29.2) fun x30 => Q x30 y29.2)))))
def an94 : An := (.seq (.reg []) (.seq (.reg [.non, .agg [.int .i64, .int .i64], .tup [.l .any, .l (.int .i64)], .non, .non, .int .i64]) (.seq (.seq (.reg [.non, .bool]) (.cnd (.seq (.reg []) .z) .z)) (.seq (.reg [.non, .tup [.l .any, .a [.int .i64, .int .i64, .int .i64, .int .i64], .l (.int .i64)], .non, .non, .non, .int .i64]) (.seq (.opn [(0, []), (2, []), (3, []), (1, []), (4, []), (5, []), (6, [])] [] [] 0 [.non, .non, .non, .agg [.int .i64, .int .i64, .int .i64, .int .i64], .non, .non, .non]) .z)))))
theorem fn94 : tb.fn.get 94 = some Try.f94 := by kernel_rfl
theorem an94_ok : anB tb Try.f94.ntmps an94 (bodyOf Try.f94) = true := by kernel_rfl
theorem F94_eq : (fun (a0 a1 : AV) (M : Mem) (Q : AV → Mem → Prop) => zCs [.l .any, .a [.int .i64, .int .i64]] [a0, a1] fun args => wZ tb an94 (bodyOf Try.f94) (enterA Try.f94 args M) (retQ tb Try.f94 Q)) = fun (a0 a1 : AV) (M : Mem) (Q : AV → Mem → Prop) => F94 a0 a1 M Q := by kernel_rfl
theorem F94_ok {a0 a1 : AV} {M : Mem} {Q : AV → Mem → Prop} (h : F94 a0 a1 M Q) : CallA tb.P 94 [a0, a1] M Q :=
  calla_wZ tb_ok tb_mix fn94 (c := bodyOf Try.f94) rfl an94_ok (ks := [.l .any, .a [.int .i64, .int .i64]]) (cast (congrFun (congrFun (congrFun (congrFun F94_eq a0) a1) M) Q).symm h)

def F105 (a0 : AV) (M : Mem) (Q : AV → Mem → Prop) : Prop :=
  ∃ (z1 : Int) (z2 : Int) (z3 : Int) (z4 : Int), a0 = (.agg [(.val (.int .i64 z1)), (.val (.int .i64 z2)), (.val (.int .i64 z3)), (.val (.int .i64 z4))]) ∧
  letP (M.new (.cells [(.val (.int .i64 z1)), (.val (.int .i64 z2)), (.val (.int .i64 z3)), (.val (.int .i64 z4))] true)) fun M5 => letP (fun (b34 : Bool) => Q (.val (.bool b34)) M5) fun K35 => bindO (eLd tb 3 (.ptr M.next 0) M5) fun y6 => zI .i64 y6.1 fun z7 => condB (decide (z7 ≥ (1 : Int))) (bindO (eLd tb 3 (.ptr M.next 0) M5) fun y8 => zI .i64 y8.1 fun z9 => condB (decide (z9 ≤ (3 : Int))) (bindO (eLd tb 3 (.ptr M.next 1) M5) fun y10 => zI .i64 y10.1 fun z11 => condB (decide (z11 ≥ (0 : Int))) (bindO (eLd tb 3 (.ptr M.next 1) M5) fun y12 => zI .i64 y12.1 fun z13 => condB (decide (z13 ≤ (65535 : Int))) (bindO (eLd tb 3 (.ptr M.next 0) M5) fun y14 => zI .i64 y14.1 fun z15 => condB (z15 !=
  (3 : Int)) (bindO (eLd tb 3 (.ptr M.next 2) M5) fun y16 => zI .i64 y16.1 fun z17 => condB (decide (z17 ≥ (0 : Int))) (bindO (eLd tb 3 (.ptr M.next 2) M5) fun y18 => zI .i64 y18.1 fun z19 => condB (decide (z19 ≤ (4294967295 : Int))) (bindO (eLd tb 3 (.ptr M.next 3) M5) fun y20 => zI .i64 y20.1 fun z21 => condB (decide (z21 ≥ (0 : Int))) (bindO (eLd tb 3 (.ptr M.next 3) M5) fun y22 => zI .i64 y22.1 fun z23 => K35 (decide (z23 ≤ (16777215 : Int)))) (K35 false)) (K35 false)) (K35 false)) (bindO (eLd tb 3 (.ptr M.next 1) M5) fun y24 => zI .i64 y24.1 fun z25 => condB (z25 ==
  (0 : Int)) (bindO (eLd tb 3 (.ptr M.next 2) M5) fun y26 => zI .i64 y26.1 fun z27 => condB (decide (z27 ≥ (0 : Int))) (bindO (eLd tb 3 (.ptr M.next 2) M5) fun y28 => zI .i64 y28.1 fun z29 => condB (decide (z29 ≤ (4294967295 : Int))) (bindO (eLd tb 3 (.ptr M.next 3) M5) fun y30 => zI .i64 y30.1 fun z31 => condB (decide (z31 ≥ (0 : Int))) (bindO (eLd tb 3 (.ptr M.next 3) M5) fun y32 => zI .i64 y32.1 fun z33 => K35 (decide (z33 ≤ (16777215 : Int)))) (K35 false)) (K35 false)) (K35 false)) (K35 false))) (K35 false)) (K35 false)) (K35 false)) (K35 false)
def an105 : An := (.seq (.reg []) (.seq (.reg [.ptr, .int .i64, .bool, .spl, .ptr, .int .i64, .bool, .non, .spl, .ptr, .int .i64, .bool, .non, .spl, .ptr, .int .i64, .bool, .non, .spl, .ptr, .int .i64, .bool, .spl, .ptr, .int .i64, .bool, .non, .non, .spl, .ptr, .int .i64, .bool, .non, .spl, .ptr, .int .i64, .bool, .non, .spl, .ptr, .int .i64, .bool, .non, .spl, .ptr, .int .i64, .bool]) .z))
theorem fn105 : tb.fn.get 105 = some Try.f105 := by kernel_rfl
theorem an105_ok : anB tb Try.f105.ntmps an105 (bodyOf Try.f105) = true := by kernel_rfl
theorem F105_eq : (fun (a0 : AV) (M : Mem) (Q : AV → Mem → Prop) => zCs [.a [.int .i64, .int .i64, .int .i64, .int .i64]] [a0] fun args => wZ tb an105 (bodyOf Try.f105) (enterA Try.f105 args M) (retQ tb Try.f105 Q)) = fun (a0 : AV) (M : Mem) (Q : AV → Mem → Prop) => F105 a0 M Q := by kernel_rfl
theorem F105_ok {a0 : AV} {M : Mem} {Q : AV → Mem → Prop} (h : F105 a0 M Q) : CallA tb.P 105 [a0] M Q :=
  calla_wZ tb_ok tb_mix fn105 (c := bodyOf Try.f105) rfl an105_ok (ks := [.a [.int .i64, .int .i64, .int .i64, .int .i64]]) (cast (congrFun (congrFun (congrFun F105_eq a0) M) Q).symm h)

def F106 (a0 a1 a2 : AV) (M : Mem) (Q : AV → Mem → Prop) : Prop :=
  zI .i64 a1 fun z1 => zI .i64 a2 fun z2 => ∃ J3 : AV → Int → Nat → Mem → Prop, (∃ n4 : Nat, J3 a0 (iSub .i64 z2 1) n4 M) ∧
  ∀ (_ : Nat → Option AV) (x5 : AV) (z6 : Int) (n7 : Nat) (M8 : Mem), J3 x5 z6 n7 M8 →
  (condB (decide (z6 ≥ (0 : Int))) (bindO (eBin tb .shr 3 (.tmp 15) (.tmp 17) (.val (.int .i64 z1)) (.val (.int .i64 (iMul .i64 8 z6))) M8) fun y9 => zI .i64 y9.1 fun z10 => letP (M8.new (.cells [(.val (.int .u8 (IntKind.wrap .u8 z10)))] true)) fun M11 => bindO (evAppend tb 33 33 x5 (.sl M8.next 0 1 1 none) M11) fun y12 => ∃ k13 : Nat, k13 < n7 ∧
  (J3 y12.1 (iSub .i64 z6 1) k13 y12.2)) (Q x5 M8))
def an106 : An := (.seq (.reg []) (.seq (.seq (.reg [.non, .int .i64]) (.blk (.lop [(0, .any), (7, .int .i64)] [10, 11, 12, 13, 14, 15, 16, 17, 18, 19, 20, 21] (.seq (.seq (.reg [.non, .bool]) (.cnd .z .z)) (.seq (.blk (.reg [.non, .non, .non, .int .i64, .int .i64, .int .u8])) (.reg [.non, .int .i64])))))) (.seq (.reg []) .z)))
theorem fn106 : tb.fn.get 106 = some Try.f106 := by kernel_rfl
theorem an106_ok : anB tb Try.f106.ntmps an106 (bodyOf Try.f106) = true := by kernel_rfl
theorem F106_eq : (fun (a0 a1 a2 : AV) (M : Mem) (Q : AV → Mem → Prop) => zCs [.l .any, .l (.int .i64), .l (.int .i64)] [a0, a1, a2] fun args => wZ tb an106 (bodyOf Try.f106) (enterA Try.f106 args M) (retQ tb Try.f106 Q)) = fun (a0 a1 a2 : AV) (M : Mem) (Q : AV → Mem → Prop) => F106 a0 a1 a2 M Q := by kernel_rfl
theorem F106_ok {a0 a1 a2 : AV} {M : Mem} {Q : AV → Mem → Prop} (h : F106 a0 a1 a2 M Q) : CallA tb.P 106 [a0, a1, a2] M Q :=
  calla_wZ tb_ok tb_mix fn106 (c := bodyOf Try.f106) rfl an106_ok (ks := [.l .any, .l (.int .i64), .l (.int .i64)]) (cast (congrFun (congrFun (congrFun (congrFun (congrFun F106_eq a0) a1) a2) M) Q).symm h)

def F107 (a0 : AV) (M : Mem) (Q : AV → Mem → Prop) : Prop :=
  CallA tb.P 122 [(.val (.int .u32 0)), a0] M fun y1 M2 => zI .u32 y1 fun z3 => Q (.val (.int .u32 z3)) M2
def an107 : An := (.seq (.reg []) (.seq (.reg [.non, .int .u32]) .z))
theorem fn107 : tb.fn.get 107 = some Try.f107 := by kernel_rfl
theorem an107_ok : anB tb Try.f107.ntmps an107 (bodyOf Try.f107) = true := by kernel_rfl
theorem F107_eq : (fun (a0 : AV) (M : Mem) (Q : AV → Mem → Prop) => zCs [.l .any] [a0] fun args => wZ tb an107 (bodyOf Try.f107) (enterA Try.f107 args M) (retQ tb Try.f107 Q)) = fun (a0 : AV) (M : Mem) (Q : AV → Mem → Prop) => F107 a0 M Q := by kernel_rfl
theorem F107_ok {a0 : AV} {M : Mem} {Q : AV → Mem → Prop} (h : F107 a0 M Q) : CallA tb.P 107 [a0] M Q :=
  calla_wZ tb_ok tb_mix fn107 (c := bodyOf Try.f107) rfl an107_ok (ks := [.l .any]) (cast (congrFun (congrFun (congrFun F107_eq a0) M) Q).symm h)

def F114 (a0 a1 : AV) (M : Mem) (Q : AV → Mem → Prop) : Prop :=
  ∃ (z1 : Int) (z2 : Int) (z3 : Int) (z4 : Int) (z5 : Int), a0 = (.agg [(.val (.int .i64 z1)), (.val (.int .i64 z2)), (.val (.int .i64 z3)), (.val (.int .i64 z4)), (.val (.int .i64 z5))]) ∧
  ∃ (z6 : Int) (z7 : Int), a1 = (.agg [(.val (.int .i64 z6)), (.val (.int .i64 z7))]) ∧
  letP (M.new (.cells [(.val (.int .i64 z1)), (.val (.int .i64 z2)), (.val (.int .i64 z3)), (.val (.int .i64 z4)), (.val (.int .i64 z5))] true)) fun M8 => letP (M8.new (.cells [(.val (.int .i64 z6)), (.val (.int .i64 z7))] true)) fun M9 => letP (M9.new (.cells [(.val (.int .i64 0)), (.val (.int .i64 0))] true)) fun M10 => bindO (eLd tb 23 (.ptr M.next 0) M10) fun y11 => ∃ (z12 : Int) (z13 : Int) (z14 : Int) (z15 : Int) (z16 : Int), y11.1 =
  (.agg [(.val (.int .i64 z12)), (.val (.int .i64 z13)), (.val (.int .i64 z14)), (.val (.int .i64 z15)), (.val (.int .i64 z16))]) ∧
  (bindO (eLd tb 30 (.ptr M8.next 0) M10) fun y17 => ∃ (z18 : Int) (z19 : Int), y17.1 = (.agg [(.val (.int .i64 z18)), (.val (.int .i64 z19))]) ∧
  (CallA tb.P 111 [(.agg [(.val (.int .i64 z12)), (.val (.int .i64 z13)), (.val (.int .i64 z14)), (.val (.int .i64 z15)), (.val (.int .i64 z16))]), (.agg [(.val (.int .i64 z18)), (.val (.int .i64 z19))])] M10 fun y20 M21 => zI .i64 y20 fun z22 => letP (fun (b36 : Bool) (M37 : Mem) => condB (b36) (bindO (eSt tb 30 (.ptr M9.next 0) (.agg [(.val (.int .i64 0)), (.val (.int .i64 0))]) M37) fun y39 => bindO (eRes tb [.c 30 (.ptr M9.next 0), .v (.val (.bool false))] y39.2) fun x40 => Q x40 y39.2) (bindO (eLd tb 3 (.ptr M.next 1) M37) fun y41 => zI .i64 y41.1 fun z42 => bindO (eBin tb .quo 3 (.tmp 28) (.tmp 30) (.val (.int .i64 (iAdd .i64 z22 1))) (.val (.int .i64 z42)) M37) fun y43 => zI .i64 y43.1 fun z44 => bindO (eLd tb 3 (.ptr M.next 1) M37) fun y45 => zI .i64 y45.1 fun z46 => bindO (eBin tb .rem 3 (.tmp 32) (.tmp 34) (.val (.int .i64 (iAdd .i64 z22 1))) (.val (.int .i64 z46)) M37) fun y47 => zI .i64 y47.1 fun z48 => bindO (eSt tb 30 (.ptr M9.next 0) (.agg [(.val (.int .i64 z44)), (.val (.int .i64 z48))]) M37) fun y49 => bindO (eRes tb [.c 30 (.ptr M9.next 0), .v (.val (.bool true))] y49.2) fun x50 => Q x50 y49.2)) fun K38 => bindO (eLd tb 23 (.ptr M.next 0) M21) fun y23 => ∃ (z24 : Int) (z25 : Int) (z26 : Int) (z27 : Int) (z28 : Int), y23.1 =
  (.agg [(.val (.int .i64 z24)), (.val (.int .i64 z25)), (.val (.int .i64 z26)), (.val (.int .i64 z27)), (.val (.int .i64 z28))]) ∧
  (CallA tb.P 102 [(.agg [(.val (.int .i64 z24)), (.val (.int .i64 z25)), (.val (.int .i64 z26)), (.val (.int .i64 z27)), (.val (.int .i64 z28))])] M21 fun y29 M30 => zB y29 fun b31 => condB (!b31) (K38 true M30) (condB ((iAdd .i64 z22 1) ==
  (0 : Int)) (K38 true M30) (bindO (eLd tb 3 (.ptr M.next 0) M30) fun y32 => zI .i64 y32.1 fun z33 => bindO (eLd tb 3 (.ptr M.next 1) M30) fun y34 => zI .i64 y34.1 fun z35 => K38 ((iAdd .i64 z22 1) ==
  (iMul .i64 z33 z35)) M30)))))
def an114 : An := (.seq (.reg []) (.seq (.reg [.agg [.int .i64, .int .i64, .int .i64, .int .i64, .int .i64], .agg [.int .i64, .int .i64], .int .i64, .int .i64]) (.seq (.seq (.reg [.agg [.int .i64, .int .i64, .int .i64, .int .i64, .int .i64], .bool, .bool, .spl, .non, .bool, .non, .spl, .non, .ptr, .int .i64, .ptr, .int .i64, .int .i64, .bool]) (.cnd (.seq (.reg []) .z) .z)) (.seq (.opn [(0, []), (1, []), (4, []), (5, []), (2, []), (3, []), (6, []), (7, []), (8, []), (9, []), (10, [])] [] [] 0 [.non, .ptr, .non, .ptr, .int .i64, .int .i64, .int .i64, .int .i64, .non, .non, .non]) .z))))
theorem fn114 : tb.fn.get 114 = some Try.f114 := by kernel_rfl
theorem an114_ok : anB tb Try.f114.ntmps an114 (bodyOf Try.f114) = true := by kernel_rfl
theorem F114_eq : (fun (a0 a1 : AV) (M : Mem) (Q : AV → Mem → Prop) => zCs [.a [.int .i64, .int .i64, .int .i64, .int .i64, .int .i64], .a [.int .i64, .int .i64]] [a0, a1] fun args => wZ tb an114 (bodyOf Try.f114) (enterA Try.f114 args M) (retQ tb Try.f114 Q)) = fun (a0 a1 : AV) (M : Mem) (Q : AV → Mem → Prop) => F114 a0 a1 M Q := by kernel_rfl
theorem F114_ok {a0 a1 : AV} {M : Mem} {Q : AV → Mem → Prop} (h : F114 a0 a1 M Q) : CallA tb.P 114 [a0, a1] M Q :=
  calla_wZ tb_ok tb_mix fn114 (c := bodyOf Try.f114) rfl an114_ok (ks := [.a [.int .i64, .int .i64, .int .i64, .int .i64, .int .i64], .a [.int .i64, .int .i64]]) (cast (congrFun (congrFun (congrFun (congrFun F114_eq a0) a1) M) Q).symm h)

def F115 (a0 : AV) (M : Mem) (Q : AV → Mem → Prop) : Prop :=
  letP (M.new (.cells [(.val (.int .i64 0)), (.val (.int .i64 0)), (.val (.int .i64 0)), (.val (.int .i64 0))] true)) fun M1 => bindO (eLen tb false 33 a0 M1) fun y2 => zI .i64 y2.1 fun z3 => CallA tb.P 128 [(.val (.int .i64 (iSub .i64 z3 16))), (.val (.int .i64 24)), (.val (.int .i64 64))] M1 fun y4 M5 => zB y4 fun b6 => condB (!b6) (bindO (eSt tb 76 (.ptr M.next 0) (.agg [(.val (.int .i64 0)), (.val (.int .i64 0)), (.val (.int .i64 0)), (.val (.int .i64 0))]) M5) fun y7 => bindO (eRes tb [.v (.val (.slice none 0 0)), .c 76 (.ptr M.next 0), .v (.val (.int .i64 2))] y7.2) fun x8 => Q x8 y7.2) (CallA tb.P 129 [a0, (.fn 130 [] [])] M5 fun y9 M10 => zB y9 fun b11 => condB (!b11) (bindO (eSt tb 76 (.ptr M.next 0) (.agg [(.val (.int .i64 0)), (.val (.int .i64 0)), (.val (.int .i64 0)), (.val (.int .i64 0))]) M10) fun y12 => bindO (eRes tb [.v (.val (.slice none 0 0)), .c 76 (.ptr M.next 0), .v (.val (.int .i64 0))] y12.2) fun x13 => Q x13 y12.2) (bindO (eSl tb 33 a0 (some (.val (.int .i64 (iSub .i64 z3 16)))) none none M10) fun y14 => letP (⟨M10.next + 1, M10.rows⟩ : Mem) fun M15 => bindO (eIA tb 33 y14.1 (.val (.int .i64 1)) M15) fun y16 => zP y16.1 fun p17 o18 => bindO (eSl tb 33 y14.1 (some (.val (.int .i64 2))) (some (.val (.int .i64 4))) none M15) fun y19 => bindO (eSl tb 33 y14.1 (some (.val (.int .i64 4))) (some (.val (.int .i64 8))) none M15) fun y20 => bindO (eSl tb 33 y14.1 (some (.val (.int .i64 8))) (some (.val (.int .i64 11))) none M15) fun y21 => bindO (eLd tb 5 (.ptr p17 o18) M15) fun y22 => zI .u8 y22.1 fun z23 => CallA tb.P 131 [y19.1] M15 fun y24 M25 => zI .i64 y24 fun z26 => (bindO (eLd tb 5 (.ptr p17 o18) M25) fun y27 => (some (.val (.int .u8 z23)) : Option AV) =
  some y27.1) ∧ (CallA tb.P 131 [y20.1] M25 fun y28 M29 => zI .i64 y28 fun z30 => (bindO (eLd tb 5 (.ptr p17 o18) M29) fun y31 => (some (.val (.int .u8 z23)) : Option AV) = some y31.1) ∧
  (CallA tb.P 131 [y21.1] M29 fun y32 M33 => zI .i64 y32 fun z34 => (bindO (eLd tb 5 (.ptr p17 o18) M33) fun y35 => (some (.val (.int .u8 z23)) : Option AV) = some y35.1) ∧
  (letP (M33.put M10.next (.cells [(.val (.int .i64 0)), (.val (.int .i64 0)), (.val (.int .i64 0)), (.val (.int .i64 0))] true)) fun M36 => bindO (eSt tb 76 (.ptr M10.next 0) (.agg [(.val (.int .i64 (IntKind.wrap .i64 z23))), (.val (.int .i64 z26)), (.val (.int .i64 z30)), (.val (.int .i64 z34))]) M36) fun y37 => letP (fun (b64 : Bool) (M65 : Mem) => condB (b64) (bindO (eSt tb 76 (.ptr M.next 0) (.agg [(.val (.int .i64 0)), (.val (.int .i64 0)), (.val (.int .i64 0)), (.val (.int .i64 0))]) M65) fun y67 => bindO (eRes tb [.v (.val (.slice none 0 0)), .c 76 (.ptr M.next 0), .v (.val (.int .i64 2))] y67.2) fun x68 => Q x68 y67.2) (bindO (eSl tb 33 a0 none (some (.val (.int .i64 (iSub .i64 z3 16)))) none M65) fun y69 => bindO (eLd tb 76 (.ptr M10.next 0) M65) fun y70 => ∃ (z71 : Int) (z72 : Int) (z73 : Int) (z74 : Int), y70.1 =
  (.agg [(.val (.int .i64 z71)), (.val (.int .i64 z72)), (.val (.int .i64 z73)), (.val (.int .i64 z74))]) ∧
  (CallA tb.P 72 [y69.1] M65 fun y75 M76 => (bindO (eLd tb 76 (.ptr M10.next 0) M76) fun y77 => (some (.agg [(.val (.int .i64 z71)), (.val (.int .i64 z72)), (.val (.int .i64 z73)), (.val (.int .i64 z74))]) : Option AV) =
  some y77.1) ∧
  (bindO (eSt tb 76 (.ptr M.next 0) (.agg [(.val (.int .i64 z71)), (.val (.int .i64 z72)), (.val (.int .i64 z73)), (.val (.int .i64 z74))]) M76) fun y78 => bindO (eRes tb [.v y75, .c 76 (.ptr M.next 0), .v (.val (.int .i64 1))] y78.2) fun x79 => Q x79 y78.2)))) fun K66 => bindO (eIA tb 33 y14.1 (.val (.int .i64 0)) y37.2) fun y38 => zP y38.1 fun p39 o40 => bindO (eLd tb 5 (.ptr p39 o40) y37.2) fun y41 => zI .u8 y41.1 fun z42 => condB (z42 !=
  (74 : Int)) (K66 true y37.2) (bindO (eIA tb 33 y14.1 (.val (.int .i64 15)) y37.2) fun y43 => zP y43.1 fun p44 o45 => bindO (eLd tb 5 (.ptr p44 o45) y37.2) fun y46 => zI .u8 y46.1 fun z47 => condB (z47 !=
  (0 : Int)) (K66 true y37.2) (bindO (eSl tb 33 y14.1 (some (.val (.int .i64 11))) (some (.val (.int .i64 15))) none y37.2) fun y48 => bindO (eSl tb 33 a0 none (some (.val (.int .i64 (iAdd .i64 (iSub .i64 z3 16) 11)))) none y37.2) fun y49 => CallA tb.P 131 [y48.1] y37.2 fun y50 M51 => zI .i64 y50 fun z52 => CallA tb.P 132 [y49.1] M51 fun y53 M54 => zI .u32 y53 fun z55 => condB (z52 !=
  (IntKind.wrap .i64 z55)) (K66 true M54) (bindO (eLd tb 76 (.ptr M10.next 0) M54) fun y56 => ∃ (z57 : Int) (z58 : Int) (z59 : Int) (z60 : Int), y56.1 =
  (.agg [(.val (.int .i64 z57)), (.val (.int .i64 z58)), (.val (.int .i64 z59)), (.val (.int .i64 z60))]) ∧
  (CallA tb.P 133 [(.agg [(.val (.int .i64 z57)), (.val (.int .i64 z58)), (.val (.int .i64 z59)), (.val (.int .i64 z60))])] M54 fun y61 M62 => zB y61 fun b63 => K66 (!b63) M62)))))))))
def an115 : An := (.seq (.reg []) (.seq (.reg [.non, .int .i64, .int .i64]) (.seq (.seq (.reg [.non, .bool, .bool]) (.cnd (.seq (.reg []) .z) .z)) (.seq (.seq (.reg [.non, .bool, .bool]) (.cnd (.seq (.reg []) .z) .z)) (.seq (.reg []) (.seq (.opn [(0, []), (1, []), (4, []), (5, []), (7, []), (8, []), (10, []), (11, []), (2, []), (3, []), (6, [2]), (9, [2]), (12, [2]), (13, []), (14, []), (15, [])] [0, 0, 0, 0, 0, 0, 0, 0, 0, 0, 0, 0, 0, 0, 0, 0] [[], [], [], [], [], [], [2], [], [], [2], [], [], [2]] 1 [.non, .ptr, .non, .non, .non, .non, .non, .non, .int .u8, .int .i64, .int .i64, .int .i64, .int .i64, .non, .non, .non]) (.seq (.seq (.opn [(0, []), (1, []), (2, []), (3, []), (4, []), (5, []), (6, []), (7, []), (8, []), (9, []), (10, []), (11, []), (12, []), (14, []), (15, []), (16, []), (17, []), (13, []), (18, []), (19, []), (20, []), (21, []), (22, []), (23, []), (24, []), (25, []), (26, [])] [] [] 0 [.non, .ptr, .int .u8, .bool, .spl, .non, .ptr, .int .u8, .bool, .non, .spl, .non, .non, .non, .non, .int .i64, .non, .int .i64, .int .u32, .int .i64, .bool, .non, .spl, .agg [.int .i64, .int .i64, .int .i64, .int .i64], .bool, .bool, .non]) (.cnd (.seq (.reg []) .z) .z)) (.seq (.opn [(0, []), (1, []), (2, []), (4, []), (3, [4]), (5, []), (6, []), (7, [])] [] [[], [], [], [4]] 0 [.non, .non, .non, .agg [.int .i64, .int .i64, .int .i64, .int .i64], .non, .non, .non, .non]) .z))))))))
theorem fn115 : tb.fn.get 115 = some Try.f115 := by kernel_rfl
theorem an115_ok : anB tb Try.f115.ntmps an115 (bodyOf Try.f115) = true := by kernel_rfl
theorem F115_eq : (fun (a0 : AV) (M : Mem) (Q : AV → Mem → Prop) => zCs [.l .any] [a0] fun args => wZ tb an115 (bodyOf Try.f115) (enterA Try.f115 args M) (retQ tb Try.f115 Q)) = fun (a0 : AV) (M : Mem) (Q : AV → Mem → Prop) => F115 a0 M Q := by kernel_rfl
theorem F115_ok {a0 : AV} {M : Mem} {Q : AV → Mem → Prop} (h : F115 a0 M Q) : CallA tb.P 115 [a0] M Q :=
  calla_wZ tb_ok tb_mix fn115 (c := bodyOf Try.f115) rfl an115_ok (ks := [.l .any]) (cast (congrFun (congrFun (congrFun F115_eq a0) M) Q).symm h)

def F122 (a0 a1 : AV) (M : Mem) (Q : AV → Mem → Prop) : Prop :=
  zI .u32 a0 fun z1 => bindO (eUn tb .xor (.val (.int .u32 z1)) M) fun y2 => zI .u32 y2.1 fun z3 => ∃ J4 : Int → Int → Nat → Mem → Prop, (∃ n5 : Nat, J4 z3 (0 : Int) n5 M) ∧
  ∀ (_ : Nat → Option AV) (z6 : Int) (z7 : Int) (n8 : Nat) (M9 : Mem), J4 z6 z7 n8 M9 →
  (bindO (eLen tb false 33 a1 M9) fun y10 => zI .i64 y10.1 fun z11 => condB (decide (z7 < z11)) (bindO (eIA tb 33 a1 (.val (.int .i64 z7)) M9) fun y12 => zP y12.1 fun p13 o14 => bindO (eLd tb 5 (.ptr p13 o14) M9) fun y15 => zI .u8 y15.1 fun z16 => ∃ J17 : Int → Int → Int → Nat → Mem → Prop, (∃ n18 : Nat, J17 z6 (IntKind.wrap .u32 z16) (0 : Int) n18 M9) ∧
  ∀ (_ : Nat → Option AV) (z19 : Int) (z20 : Int) (z21 : Int) (n22 : Nat) (M23 : Mem), J17 z19 z20 z21 n22 M23 → (condB (decide (z21 < (8 : Int))) (letP (fun (z24 : Int) => ∃ k26 : Nat, k26 < n22 ∧
  (J17 z24 (iShr .u32 z20 1) (iAdd .i64 z21 1) k26 M23)) fun K25 => condB ((iAnd .u32 (iXor .u32 z19 z20) 1) ==
  (1 : Int)) (K25 (iXor .u32 (iShr .u32 z19 1) 3988292384)) (K25 (iShr .u32 z19 1))) (∃ k27 : Nat, k27 < n8 ∧
  (J4 z19 (iAdd .i64 z7 1) k27 M23)))) (bindO (eUn tb .xor (.val (.int .u32 z6)) M9) fun y28 => zI .u32 y28.1 fun z29 => Q (.val (.int .u32 z29)) M9))
def an122 : An := (.seq (.reg []) (.seq (.reg [.non, .int .u32]) (.seq (.seq (.reg []) (.blk (.lop [(5, .int .u32), (6, .int .i64)] [7, 8, 9, 12, 13, 14, 15, 16, 17, 18, 19, 20, 21, 22, 23, 24, 25, 26, 27, 28, 29, 30, 31, 32, 33, 34, 35, 36, 37, 38] (.seq (.seq (.reg [.non, .non, .int .i64, .bool]) (.cnd .z .z)) (.seq (.blk (.seq (.reg [.non, .non, .ptr, .int .u8, .int .u32]) (.seq (.reg []) (.blk (.lop [(5, .int .u32), (7, .int .u32), (8, .int .i64)] [9, 23, 24, 25, 26, 27, 28, 29, 30, 31, 32, 33, 34, 35, 36, 37, 38] (.seq (.seq (.reg [.non, .bool]) (.cnd .z .z)) (.seq (.blk (.seq (.reg [.non, .non, .int .u32, .int .u32]) (.seq (.reg [.non, .int .u32]) (.seq (.reg [.non, .int .u32]) (.seq (.reg [.non, .bool]) (.cnd (.reg [.non, .int .u32]) .z)))))) (.reg [.non, .int .i64])))))))) (.reg [.non, .int .i64])))))) (.seq (.reg [.non, .int .u32]) .z))))
theorem fn122 : tb.fn.get 122 = some Try.f122 := by kernel_rfl
theorem an122_ok : anB tb Try.f122.ntmps an122 (bodyOf Try.f122) = true := by kernel_rfl
theorem F122_eq : (fun (a0 a1 : AV) (M : Mem) (Q : AV → Mem → Prop) => zCs [.l (.int .u32), .l .any] [a0, a1] fun args => wZ tb an122 (bodyOf Try.f122) (enterA Try.f122 args M) (retQ tb Try.f122 Q)) = fun (a0 a1 : AV) (M : Mem) (Q : AV → Mem → Prop) => F122 a0 a1 M Q := by kernel_rfl
theorem F122_ok {a0 a1 : AV} {M : Mem} {Q : AV → Mem → Prop} (h : F122 a0 a1 M Q) : CallA tb.P 122 [a0, a1] M Q :=
  calla_wZ tb_ok tb_mix fn122 (c := bodyOf Try.f122) rfl an122_ok (ks := [.l (.int .u32), .l .any]) (cast (congrFun (congrFun (congrFun (congrFun F122_eq a0) a1) M) Q).symm h)

def F128 (a0 a1 a2 : AV) (M : Mem) (Q : AV → Mem → Prop) : Prop :=
  zI .i64 a0 fun z1 => zI .i64 a1 fun z2 => zI .i64 a2 fun z3 => letP (fun (b4 : Bool) => Q (.val (.bool b4)) M) fun K5 => condB (decide (z1 ≥ z2)) (K5 (decide (z1 ≤ z3))) (K5 false)
def an128 : An := (.seq (.reg []) (.seq (.reg [.non, .non, .bool, .spl, .non, .non, .bool]) .z))
theorem fn128 : tb.fn.get 128 = some Try.f128 := by kernel_rfl
theorem an128_ok : anB tb Try.f128.ntmps an128 (bodyOf Try.f128) = true := by kernel_rfl
theorem F128_eq : (fun (a0 a1 a2 : AV) (M : Mem) (Q : AV → Mem → Prop) => zCs [.l (.int .i64), .l (.int .i64), .l (.int .i64)] [a0, a1, a2] fun args => wZ tb an128 (bodyOf Try.f128) (enterA Try.f128 args M) (retQ tb Try.f128 Q)) = fun (a0 a1 a2 : AV) (M : Mem) (Q : AV → Mem → Prop) => F128 a0 a1 a2 M Q := by kernel_rfl
theorem F128_ok {a0 a1 a2 : AV} {M : Mem} {Q : AV → Mem → Prop} (h : F128 a0 a1 a2 M Q) : CallA tb.P 128 [a0, a1, a2] M Q :=
  calla_wZ tb_ok tb_mix fn128 (c := bodyOf Try.f128) rfl an128_ok (ks := [.l (.int .i64), .l (.int .i64), .l (.int .i64)]) (cast (congrFun (congrFun (congrFun (congrFun (congrFun F128_eq a0) a1) a2) M) Q).symm h)

def F129 (a0 a1 : AV) (M : Mem) (Q : AV → Mem → Prop) : Prop :=
  CallA tb.P 137 [a0, a1] M fun y1 M2 => zI .i64 y1 fun z3 => Q (.val (.bool (decide (z3 ≥ (0 : Int))))) M2
def an129 : An := (.seq (.reg []) (.seq (.reg [.non, .non, .int .i64, .bool]) .z))
theorem fn129 : tb.fn.get 129 = some Try.f129 := by kernel_rfl
theorem an129_ok : anB tb Try.f129.ntmps an129 (bodyOf Try.f129) = true := by kernel_rfl
theorem F129_eq : (fun (a0 a1 : AV) (M : Mem) (Q : AV → Mem → Prop) => zCs [.l .any, .l .any] [a0, a1] fun args => wZ tb an129 (bodyOf Try.f129) (enterA Try.f129 args M) (retQ tb Try.f129 Q)) = fun (a0 a1 : AV) (M : Mem) (Q : AV → Mem → Prop) => F129 a0 a1 M Q := by kernel_rfl
theorem F129_ok {a0 a1 : AV} {M : Mem} {Q : AV → Mem → Prop} (h : F129 a0 a1 M Q) : CallA tb.P 129 [a0, a1] M Q :=
  calla_wZ tb_ok tb_mix fn129 (c := bodyOf Try.f129) rfl an129_ok (ks := [.l .any, .l .any]) (cast (congrFun (congrFun (congrFun (congrFun F129_eq a0) a1) M) Q).symm h)

def F130 (a0 : AV) (M : Mem) (Q : AV → Mem → Prop) : Prop :=
  zI .u8 a0 fun z1 => Q (.val (.bool (z1 != (255 : Int)))) M
def an130 : An := (.seq (.reg []) (.seq (.reg [.non, .bool]) .z))
theorem fn130 : tb.fn.get 130 = some Try.f130 := by kernel_rfl
theorem an130_ok : anB tb Try.f130.ntmps an130 (bodyOf Try.f130) = true := by kernel_rfl
theorem F130_eq : (fun (a0 : AV) (M : Mem) (Q : AV → Mem → Prop) => zCs [.l (.int .u8)] [a0] fun args => wZ tb an130 (bodyOf Try.f130) (enterA Try.f130 args M) (retQ tb Try.f130 Q)) = fun (a0 : AV) (M : Mem) (Q : AV → Mem → Prop) => F130 a0 M Q := by kernel_rfl
theorem F130_ok {a0 : AV} {M : Mem} {Q : AV → Mem → Prop} (h : F130 a0 M Q) : CallA tb.P 130 [a0] M Q :=
  calla_wZ tb_ok tb_mix fn130 (c := bodyOf Try.f130) rfl an130_ok (ks := [.l (.int .u8)]) (cast (congrFun (congrFun (congrFun F130_eq a0) M) Q).symm h)

def F131 (a0 : AV) (M : Mem) (Q : AV → Mem → Prop) : Prop :=
  bindO (eLen tb false 33 a0 M) fun y1 => zI .i64 y1.1 fun z2 => ∃ J3 : Int → Int → Nat → Mem → Prop, (∃ n4 : Nat, J3 (0 : Int) (0 : Int) n4 M) ∧
  ∀ (_ : Nat → Option AV) (z5 : Int) (z6 : Int) (n7 : Nat) (M8 : Mem), J3 z5 z6 n7 M8 →
  (condB (decide (z6 < z2)) (bindO (eIA tb 33 a0 (.val (.int .i64 z6)) M8) fun y9 => zP y9.1 fun p10 o11 => bindO (eLd tb 5 (.ptr p10 o11) M8) fun y12 => zI .u8 y12.1 fun z13 => ∃ k14 : Nat, k14 < n7 ∧
  (J3 (iOr .i64 (iShl .i64 z5 8) (IntKind.wrap .i64 z13)) (iAdd .i64 z6 1) k14 M8)) (Q (.val (.int .i64 z5)) M8))
def an131 : An := (.seq (.reg []) (.seq (.reg []) (.seq (.seq (.reg [.non, .int .i64]) (.blk (.lop [(3, .int .i64), (8, .int .i64)] [5, 9, 10, 11, 12, 13, 14, 15, 16, 17] (.seq (.reg []) (.seq (.cnd .z .z) (.seq (.blk (.seq (.reg [.ptr, .int .u8]) (.reg [.non, .int .i64, .non, .int .i64, .int .i64]))) (.reg [.int .i64]))))))) (.seq (.reg []) .z))))
theorem fn131 : tb.fn.get 131 = some Try.f131 := by kernel_rfl
theorem an131_ok : anB tb Try.f131.ntmps an131 (bodyOf Try.f131) = true := by kernel_rfl
theorem F131_eq : (fun (a0 : AV) (M : Mem) (Q : AV → Mem → Prop) => zCs [.l .any] [a0] fun args => wZ tb an131 (bodyOf Try.f131) (enterA Try.f131 args M) (retQ tb Try.f131 Q)) = fun (a0 : AV) (M : Mem) (Q : AV → Mem → Prop) => F131 a0 M Q := by kernel_rfl
theorem F131_ok {a0 : AV} {M : Mem} {Q : AV → Mem → Prop} (h : F131 a0 M Q) : CallA tb.P 131 [a0] M Q :=
  calla_wZ tb_ok tb_mix fn131 (c := bodyOf Try.f131) rfl an131_ok (ks := [.l .any]) (cast (congrFun (congrFun (congrFun F131_eq a0) M) Q).symm h)

def F132 (a0 : AV) (M : Mem) (Q : AV → Mem → Prop) : Prop :=
  CallA tb.P 138 [(.val (.int .u32 0)), a0] M fun y1 M2 => zI .u32 y1 fun z3 => Q (.val (.int .u32 z3)) M2
def an132 : An := (.seq (.reg []) (.seq (.reg [.non, .int .u32]) .z))
theorem fn132 : tb.fn.get 132 = some Try.f132 := by kernel_rfl
theorem an132_ok : anB tb Try.f132.ntmps an132 (bodyOf Try.f132) = true := by kernel_rfl
theorem F132_eq : (fun (a0 : AV) (M : Mem) (Q : AV → Mem → Prop) => zCs [.l .any] [a0] fun args => wZ tb an132 (bodyOf Try.f132) (enterA Try.f132 args M) (retQ tb Try.f132 Q)) = fun (a0 : AV) (M : Mem) (Q : AV → Mem → Prop) => F132 a0 M Q := by kernel_rfl
theorem F132_ok {a0 : AV} {M : Mem} {Q : AV → Mem → Prop} (h : F132 a0 M Q) : CallA tb.P 132 [a0] M Q :=
  calla_wZ tb_ok tb_mix fn132 (c := bodyOf Try.f132) rfl an132_ok (ks := [.l .any]) (cast (congrFun (congrFun (congrFun F132_eq a0) M) Q).symm h)

def F133 (a0 : AV) (M : Mem) (Q : AV → Mem → Prop) : Prop :=
  ∃ (z1 : Int) (z2 : Int) (z3 : Int) (z4 : Int), a0 = (.agg [(.val (.int .i64 z1)), (.val (.int .i64 z2)), (.val (.int .i64 z3)), (.val (.int .i64 z4))]) ∧
  letP (M.new (.cells [(.val (.int .i64 z1)), (.val (.int .i64 z2)), (.val (.int .i64 z3)), (.val (.int .i64 z4))] true)) fun M5 => letP (fun (b40 : Bool) (M41 : Mem) => Q (.val (.bool b40)) M41) fun K42 => bindO (eLd tb 3 (.ptr M.next 0) M5) fun y6 => zI .i64 y6.1 fun z7 => CallA tb.P 128 [(.val (.int .i64 z7)), (.val (.int .i64 1)), (.val (.int .i64 3))] M5 fun y8 M9 => zB y8 fun b10 => condB (b10) (bindO (eLd tb 3 (.ptr M.next 1) M9) fun y11 => zI .i64 y11.1 fun z12 => CallA tb.P 128 [(.val (.int .i64 z12)), (.val (.int .i64 0)), (.val (.int .i64 65535))] M9 fun y13 M14 => zB y13 fun b15 => condB (b15) (bindO (eLd tb 3 (.ptr M.next 0) M14) fun y16 => zI .i64 y16.1 fun z17 => condB (z17 !=
  (3 : Int)) (bindO (eLd tb 3 (.ptr M.next 2) M14) fun y18 => zI .i64 y18.1 fun z19 => CallA tb.P 128 [(.val (.int .i64 z19)), (.val (.int .i64 0)), (.val (.int .i64 4294967295))] M14 fun y20 M21 => zB y20 fun b22 => condB (b22) (bindO (eLd tb 3 (.ptr M.next 3) M21) fun y23 => zI .i64 y23.1 fun z24 => CallA tb.P 128 [(.val (.int .i64 z24)), (.val (.int .i64 0)), (.val (.int .i64 16777215))] M21 fun y25 M26 => zB y25 fun b27 => K42 b27 M26) (K42 false M21)) (bindO (eLd tb 3 (.ptr M.next 1) M14) fun y28 => zI .i64 y28.1 fun z29 => condB (z29 ==
  (0 : Int)) (bindO (eLd tb 3 (.ptr M.next 2) M14) fun y30 => zI .i64 y30.1 fun z31 => CallA tb.P 128 [(.val (.int .i64 z31)), (.val (.int .i64 0)), (.val (.int .i64 4294967295))] M14 fun y32 M33 => zB y32 fun b34 => condB (b34) (bindO (eLd tb 3 (.ptr M.next 3) M33) fun y35 => zI .i64 y35.1 fun z36 => CallA tb.P 128 [(.val (.int .i64 z36)), (.val (.int .i64 0)), (.val (.int .i64 16777215))] M33 fun y37 M38 => zB y37 fun b39 => K42 b39 M38) (K42 false M33)) (K42 false M14))) (K42 false M14)) (K42 false M9)
def an133 : An := (.seq (.reg []) (.seq (.reg [.ptr, .int .i64, .bool, .spl, .ptr, .int .i64, .bool, .non, .spl, .ptr, .int .i64, .bool, .spl, .ptr, .int .i64, .bool, .non, .non, .spl, .ptr, .int .i64, .bool, .non, .spl, .ptr, .int .i64, .bool]) .z))
theorem fn133 : tb.fn.get 133 = some Try.f133 := by kernel_rfl
theorem an133_ok : anB tb Try.f133.ntmps an133 (bodyOf Try.f133) = true := by kernel_rfl
theorem F133_eq : (fun (a0 : AV) (M : Mem) (Q : AV → Mem → Prop) => zCs [.a [.int .i64, .int .i64, .int .i64, .int .i64]] [a0] fun args => wZ tb an133 (bodyOf Try.f133) (enterA Try.f133 args M) (retQ tb Try.f133 Q)) = fun (a0 : AV) (M : Mem) (Q : AV → Mem → Prop) => F133 a0 M Q := by kernel_rfl
theorem F133_ok {a0 : AV} {M : Mem} {Q : AV → Mem → Prop} (h : F133 a0 M Q) : CallA tb.P 133 [a0] M Q :=
  calla_wZ tb_ok tb_mix fn133 (c := bodyOf Try.f133) rfl an133_ok (ks := [.a [.int .i64, .int .i64, .int .i64, .int .i64]]) (cast (congrFun (congrFun (congrFun F133_eq a0) M) Q).symm h)

def F137 (a0 a1 : AV) (M : Mem) (Q : AV → Mem → Prop) : Prop :=
  bindO (eLen tb false 33 a0 M) fun y1 => zI .i64 y1.1 fun z2 => ∃ J3 : Int → Nat → Mem → Prop, (∃ n4 : Nat, J3 (0 : Int) n4 M) ∧ ∀ (_ : Nat → Option AV) (z5 : Int) (n6 : Nat) (M7 : Mem), J3 z5 n6 M7 →
  (condB (decide (z5 < z2)) (bindO (eIA tb 33 a0 (.val (.int .i64 z5)) M7) fun y8 => zP y8.1 fun p9 o10 => bindO (eLd tb 5 (.ptr p9 o10) M7) fun y11 => zI .u8 y11.1 fun z12 => eCall tb a1 [(.val (.int .u8 z12))] M7 fun y13 M14 => zB y13 fun b15 => condB (b15) (Q (.val (.int .i64 z5)) M14) (∃ k16 : Nat, k16 < n6 ∧
  (J3 (iAdd .i64 z5 1) k16 M14))) (Q (.val (.int .i64 (-1))) M7))
def an137 : An := (.seq (.reg []) (.seq (.seq (.reg [.non, .int .i64]) (.blk (.lop [(8, .int .i64)] [4, 5, 9, 10, 11, 12, 13, 14, 15, 16, 17, 18] (.seq (.reg []) (.seq (.cnd .z .z) (.seq (.blk (.seq (.reg []) (.seq (.reg [.non, .non, .non, .ptr, .int .u8, .bool]) (.cnd (.seq (.reg []) .z) .z)))) (.reg [.int .i64]))))))) (.seq (.reg []) .z)))
theorem fn137 : tb.fn.get 137 = some Try.f137 := by kernel_rfl
theorem an137_ok : anB tb Try.f137.ntmps an137 (bodyOf Try.f137) = true := by kernel_rfl
theorem F137_eq : (fun (a0 a1 : AV) (M : Mem) (Q : AV → Mem → Prop) => zCs [.l .any, .l .any] [a0, a1] fun args => wZ tb an137 (bodyOf Try.f137) (enterA Try.f137 args M) (retQ tb Try.f137 Q)) = fun (a0 a1 : AV) (M : Mem) (Q : AV → Mem → Prop) => F137 a0 a1 M Q := by kernel_rfl
theorem F137_ok {a0 a1 : AV} {M : Mem} {Q : AV → Mem → Prop} (h : F137 a0 a1 M Q) : CallA tb.P 137 [a0, a1] M Q :=
  calla_wZ tb_ok tb_mix fn137 (c := bodyOf Try.f137) rfl an137_ok (ks := [.l .any, .l .any]) (cast (congrFun (congrFun (congrFun (congrFun F137_eq a0) a1) M) Q).symm h)

def F138 (a0 a1 : AV) (M : Mem) (Q : AV → Mem → Prop) : Prop :=
  zI .u32 a0 fun z1 => bindO (eUn tb .xor (.val (.int .u32 z1)) M) fun y2 => zI .u32 y2.1 fun z3 => bindO (eLen tb false 33 a1 M) fun y4 => zI .i64 y4.1 fun z5 => ∃ J6 : Int → Int → Nat → Mem → Prop, (∃ n7 : Nat, J6 z3 (0 : Int) n7 M) ∧
  ∀ (_ : Nat → Option AV) (z8 : Int) (z9 : Int) (n10 : Nat) (M11 : Mem), J6 z8 z9 n10 M11 →
  (condB (decide (z9 < z5)) (bindO (eIA tb 33 a1 (.val (.int .i64 z9)) M11) fun y12 => zP y12.1 fun p13 o14 => bindO (eLd tb 5 (.ptr p13 o14) M11) fun y15 => zI .u8 y15.1 fun z16 => ∃ J17 : Int → Int → Nat → Mem → Prop, (∃ n18 : Nat, J17 (iXor .u32 z8 (IntKind.wrap .u32 z16)) (0 : Int) n18 M11) ∧
  ∀ (_ : Nat → Option AV) (z19 : Int) (z20 : Int) (n21 : Nat) (M22 : Mem), J17 z19 z20 n21 M22 → (condB (decide (z20 < (8 : Int))) (letP (fun (z23 : Int) => ∃ k25 : Nat, k25 < n21 ∧
  (J17 z23 (iAdd .i64 z20 1) k25 M22)) fun K24 => condB ((iAnd .u32 z19 1) == (1 : Int)) (K24 (iXor .u32 (iShr .u32 z19 1) 3988292384)) (K24 (iShr .u32 z19 1))) (∃ k26 : Nat, k26 < n10 ∧
  (J6 z19 (iAdd .i64 z9 1) k26 M22)))) (bindO (eUn tb .xor (.val (.int .u32 z8)) M11) fun y27 => zI .u32 y27.1 fun z28 => Q (.val (.int .u32 z28)) M11))
def an138 : An := (.seq (.reg []) (.seq (.reg [.non, .int .u32]) (.seq (.seq (.reg [.non, .int .i64]) (.blk (.lop [(5, .int .u32), (13, .int .i64)] [7, 8, 14, 15, 16, 17, 18, 19, 20, 21, 22, 23, 24, 25, 26, 27, 28, 29, 30, 31, 32] (.seq (.reg []) (.seq (.cnd .z .z) (.seq (.blk (.seq (.reg [.ptr, .int .u8]) (.seq (.reg [.non, .non, .int .u32, .int .u32]) (.seq (.reg []) (.blk (.lop [(5, .int .u32), (21, .int .i64)] [8, 22, 23, 24, 25, 26, 27, 28, 29, 30, 31] (.seq (.reg [.bool]) (.seq (.cnd .z .z) (.seq (.blk (.seq (.reg [.non, .int .u32]) (.seq (.reg [.non, .int .u32]) (.seq (.reg [.non, .bool]) (.cnd (.reg [.non, .int .u32]) .z))))) (.reg [.int .i64])))))))))) (.reg [.int .i64]))))))) (.seq (.reg [.non, .int .u32]) .z))))
theorem fn138 : tb.fn.get 138 = some Try.f138 := by kernel_rfl
theorem an138_ok : anB tb Try.f138.ntmps an138 (bodyOf Try.f138) = true := by kernel_rfl
theorem F138_eq : (fun (a0 a1 : AV) (M : Mem) (Q : AV → Mem → Prop) => zCs [.l (.int .u32), .l .any] [a0, a1] fun args => wZ tb an138 (bodyOf Try.f138) (enterA Try.f138 args M) (retQ tb Try.f138 Q)) = fun (a0 a1 : AV) (M : Mem) (Q : AV → Mem → Prop) => F138 a0 a1 M Q := by kernel_rfl
theorem F138_ok {a0 a1 : AV} {M : Mem} {Q : AV → Mem → Prop} (h : F138 a0 a1 M Q) : CallA tb.P 138 [a0, a1] M Q :=
  calla_wZ tb_ok tb_mix fn138 (c := bodyOf Try.f138) rfl an138_ok (ks := [.l (.int .u32), .l .any]) (cast (congrFun (congrFun (congrFun (congrFun F138_eq a0) a1) M) Q).symm h)

end Go.Proofs.Ytjffimbigamadaa
