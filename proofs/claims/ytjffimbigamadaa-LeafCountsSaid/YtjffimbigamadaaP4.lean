import Derived.Test.YtjffimbigamadaaP3
set_option linter.unusedSimpArgs false
set_option linter.unusedVariables false
set_option linter.unusedSectionVars false
/- Functions as what has to be shown. (Printed by pr.py.) -/
namespace Go.Proofs.Ytjffimbigamadaa
open Go.AM

def F10 (a0 a1 a2 : AV) (M : Mem) (Q : AV → Mem → Prop) : Prop :=
  ∃ (z1 : Int) (z2 : Int) (z3 : Int) (z4 : Int) (z5 : Int), a0 = (.agg [(.val (.int .i64 z1)), (.val (.int .i64 z2)), (.val (.int .i64 z3)), (.val (.int .i64 z4)), (.val (.int .i64 z5))]) ∧
  letP (M.new (.cells [(.val (.int .i64 z1)), (.val (.int .i64 z2)), (.val (.int .i64 z3)), (.val (.int .i64 z4)), (.val (.int .i64 z5))] true)) fun M6 => letP (fun (b11 : Bool) => condB (b11) (CallA tb.P 37 [] M6 fun y13 M14 => zB y13 fun b15 => Q (.val (.bool b15)) M14) (bindO (eLd tb 23 (.ptr M.next 0) M6) fun y16 => ∃ (z17 : Int) (z18 : Int) (z19 : Int) (z20 : Int) (z21 : Int), y16.1 =
  (.agg [(.val (.int .i64 z17)), (.val (.int .i64 z18)), (.val (.int .i64 z19)), (.val (.int .i64 z20)), (.val (.int .i64 z21))]) ∧
  (CallA tb.P 38 [(.agg [(.val (.int .i64 z17)), (.val (.int .i64 z18)), (.val (.int .i64 z19)), (.val (.int .i64 z20)), (.val (.int .i64 z21))]), a1, a2] M6 fun y22 M23 => ∃ (x24 : AV) (x25 : AV) (b26 : Bool), y22 =
  (.tup [x24, x25, (.val (.bool b26))]) ∧
  (bindO (eBin tb .eql 24 (.tmp 41) (.const (.pointer none)) x24 (.val (.pointer none)) M23) fun y27 => zB y27.1 fun b28 => condB (b28) (letP (fun (b32 : Bool) (M33 : Mem) => Q (.val (.bool b32)) M33) fun K34 => condB (b26) (CallA tb.P 37 [] M23 fun y29 M30 => zB y29 fun b31 => K34 b31 M30) (K34 false M23)) (CallA tb.P 39 [x24] M23 fun y35 M36 => ∃ (z37 : Int) (z38 : Int) (z39 : Int) (z40 : Int), y35 =
  (.tup [(.val (.int .i64 z37)), (.val (.int .i64 z38)), (.val (.int .i64 z39)), (.val (.int .i64 z40))]) ∧ (CallA tb.P 40 [x24] M36 fun y41 M42 => ∃ (x43 : AV) (z44 : Int), y41 =
  (.tup [x43, (.val (.int .i64 z44))]) ∧ (∃ J45 : Int → Int → Nat → Mem → Prop, (∃ n46 : Nat, J45 (0 : Int) (0 : Int) n46 M42) ∧
  ∀ (_ : Nat → Option AV) (z47 : Int) (z48 : Int) (n49 : Nat) (M50 : Mem), J45 z47 z48 n49 M50 →
  (bindO (eLd tb 3 (.ptr M.next 0) M50) fun y51 => zI .i64 y51.1 fun z52 => condB (decide (z48 < z52)) (letP (fun (z56 : Int) (M57 : Mem) => ∃ k59 : Nat, k59 < n49 ∧
  (J45 z56 (iAdd .i64 z48 1) k59 M57)) fun K58 => CallA tb.P 32 [x24, (.val (.int .i64 z48))] M50 fun y53 M54 => zB y53 fun b55 => condB (!b55) (K58 (iAdd .i64 z47 1) M54) (K58 z47 M54)) (letP (fun (b64 : Bool) => condB (b64) (Q (.val (.bool false)) M50) (∃ J66 : Int → Nat → Mem → Prop, (∃ n67 : Nat, J66 (0 : Int) n67 M50) ∧
  ∀ (_ : Nat → Option AV) (z68 : Int) (n69 : Nat) (M70 : Mem), J66 z68 n69 M70 →
  (bindO (eLen tb false 70 x43 M70) fun y71 => zI .i64 y71.1 fun z72 => condB (decide (z68 < z72)) (bindO (eIA tb 70 x43 (.val (.int .i64 z68)) M70) fun y73 => zP y73.1 fun p74 o75 => bindO (eLd tb 30 (.ptr p74 o75) M70) fun y76 => ∃ (z77 : Int) (z78 : Int), y76.1 =
  (.agg [(.val (.int .i64 z77)), (.val (.int .i64 z78))]) ∧ (CallA tb.P 41 [x24, (.agg [(.val (.int .i64 z77)), (.val (.int .i64 z78))])] M70 fun y79 M80 => ∃ (z81 : Int) (z82 : Int), y79 =
  (.tup [(.val (.int .i64 z81)), (.val (.int .i64 z82))]) ∧
  (bindO (eIA tb 70 x43 (.val (.int .i64 z68)) M80) fun y83 => zP y83.1 fun p84 o85 => bindO (eLd tb 30 (.ptr p84 o85) M80) fun y86 => ∃ (z87 : Int) (z88 : Int), y86.1 =
  (.agg [(.val (.int .i64 z87)), (.val (.int .i64 z88))]) ∧
  (CallA tb.P 42 [x24, (.agg [(.val (.int .i64 z87)), (.val (.int .i64 z88))])] M80 fun y89 M90 => ∃ (x91 : AV) (z92 : Int) (z93 : Int) (z94 : Int) (z95 : Int) (z96 : Int), y89 =
  (.tup [x91, (.agg [(.val (.int .i64 z92)), (.val (.int .i64 z93)), (.val (.int .i64 z94)), (.val (.int .i64 z95))]), (.val (.int .i64 z96))]) ∧
  (letP (M90.new (.cells [(.val (.int .i64 0)), (.val (.int .i64 0)), (.val (.int .i64 0)), (.val (.int .i64 0))] true)) fun M97 => bindO (eSt tb 76 (.ptr M90.next 0) (.agg [(.val (.int .i64 z92)), (.val (.int .i64 z93)), (.val (.int .i64 z94)), (.val (.int .i64 z95))]) M97) fun y98 => letP (fun (b154 : Bool) (M155 : Mem) => condB (b154) (Q (.val (.bool false)) M155) (∃ k157 : Nat, k157 < n69 ∧
  (J66 (iAdd .i64 z68 1) k157 M155))) fun K156 => condB (z81 != (1 : Int)) ((True) ∧ (True) ∧ (K156 true y98.2)) (condB (z82 != (0 : Int)) ((True) ∧ (True) ∧ (K156 true y98.2)) (condB (z96 !=
  (0 : Int)) ((True) ∧ (True) ∧
  (K156 true y98.2)) (bindO (eIA tb 70 x43 (.val (.int .i64 z68)) y98.2) fun y99 => zP y99.1 fun p100 o101 => bindO (eLd tb 76 (.ptr M90.next 0) y98.2) fun y102 => ∃ (z103 : Int) (z104 : Int) (z105 : Int) (z106 : Int), y102.1 =
  (.agg [(.val (.int .i64 z103)), (.val (.int .i64 z104)), (.val (.int .i64 z105)), (.val (.int .i64 z106))]) ∧
  (bindO (eLd tb 76 (.ptr p100 (o101 + 2)) y98.2) fun y107 => ∃ (z108 : Int) (z109 : Int) (z110 : Int) (z111 : Int), y107.1 =
  (.agg [(.val (.int .i64 z108)), (.val (.int .i64 z109)), (.val (.int .i64 z110)), (.val (.int .i64 z111))]) ∧
  (bindO (eBin tb .neq 76 (.tmp 133) (.tmp 138) (.agg [(.val (.int .i64 z103)), (.val (.int .i64 z104)), (.val (.int .i64 z105)), (.val (.int .i64 z106))]) (.agg [(.val (.int .i64 z108)), (.val (.int .i64 z109)), (.val (.int .i64 z110)), (.val (.int .i64 z111))]) y98.2) fun y112 => zB y112.1 fun b113 => condB (b113) ((True) ∧
  (True) ∧
  (K156 true y98.2)) (bindO (eIA tb 70 x43 (.val (.int .i64 z68)) y98.2) fun y114 => zP y114.1 fun p115 o116 => bindO (eLd tb 3 (.ptr p115 o116) y98.2) fun y117 => zI .i64 y117.1 fun z118 => CallA tb.P 32 [x24, (.val (.int .i64 z118))] y98.2 fun y119 M120 => zB y119 fun b121 => condB (b121) ((True) ∧
  (True) ∧
  (K156 true M120)) (condB (decide (z68 > (0 : Int))) (bindO (eIA tb 70 x43 (.val (.int .i64 z68)) M120) fun y122 => zP y122.1 fun p123 o124 => bindO (eIA tb 70 x43 (.val (.int .i64 (iSub .i64 z68 1))) M120) fun y125 => zP y125.1 fun p126 o127 => bindO (eLd tb 23 (.ptr M.next 0) M120) fun y128 => ∃ (z129 : Int) (z130 : Int) (z131 : Int) (z132 : Int) (z133 : Int), y128.1 =
  (.agg [(.val (.int .i64 z129)), (.val (.int .i64 z130)), (.val (.int .i64 z131)), (.val (.int .i64 z132)), (.val (.int .i64 z133))]) ∧
  (bindO (eLd tb 30 (.ptr p123 o124) M120) fun y134 => ∃ (z135 : Int) (z136 : Int), y134.1 = (.agg [(.val (.int .i64 z135)), (.val (.int .i64 z136))]) ∧
  (bindO (eLd tb 23 (.ptr M.next 0) M120) fun y137 => ∃ (z138 : Int) (z139 : Int) (z140 : Int) (z141 : Int) (z142 : Int), y137.1 =
  (.agg [(.val (.int .i64 z138)), (.val (.int .i64 z139)), (.val (.int .i64 z140)), (.val (.int .i64 z141)), (.val (.int .i64 z142))]) ∧
  (bindO (eLd tb 30 (.ptr p126 o127) M120) fun y143 => ∃ (z144 : Int) (z145 : Int), y143.1 = (.agg [(.val (.int .i64 z144)), (.val (.int .i64 z145))]) ∧
  (CallA tb.P 43 [(.agg [(.val (.int .i64 z129)), (.val (.int .i64 z130)), (.val (.int .i64 z131)), (.val (.int .i64 z132)), (.val (.int .i64 z133))]), (.agg [(.val (.int .i64 z135)), (.val (.int .i64 z136))])] M120 fun y146 M147 => zI .i64 y146 fun z148 => (bindO (eLd tb 23 (.ptr M.next 0) M147) fun y149 => (some (.agg [(.val (.int .i64 z138)), (.val (.int .i64 z139)), (.val (.int .i64 z140)), (.val (.int .i64 z141)), (.val (.int .i64 z142))]) : Option AV) =
  some y149.1) ∧ (bindO (eLd tb 30 (.ptr p126 o127) M147) fun y150 => (some (.agg [(.val (.int .i64 z144)), (.val (.int .i64 z145))]) : Option AV) = some y150.1) ∧
  (CallA tb.P 43 [(.agg [(.val (.int .i64 z138)), (.val (.int .i64 z139)), (.val (.int .i64 z140)), (.val (.int .i64 z141)), (.val (.int .i64 z142))]), (.agg [(.val (.int .i64 z144)), (.val (.int .i64 z145))])] M147 fun y151 M152 => zI .i64 y151 fun z153 => K156 (decide (z148 ≤ z153)) M152)))))) ((True) ∧
  (True) ∧ (K156 false M120)))))))))))))) (CallA tb.P 37 [] M70 fun y158 M159 => zB y158 fun b160 => Q (.val (.bool b160)) M159)))) fun K65 => condB (z40 != (0 : Int)) (K65 true) (condB (z44 !=
  (0 : Int)) (K65 true) (bindO (eLd tb 3 (.ptr M.next 1) M50) fun y60 => zI .i64 y60.1 fun z61 => condB ((iAdd .i64 (iAdd .i64 z37 z38) z39) !=
  (iMul .i64 z47 z61)) (K65 true) (bindO (eLen tb false 70 x43 M50) fun y62 => zI .i64 y62.1 fun z63 => K65 (z38 !=
  z63))))))))))))) fun K12 => bindO (eLen tb false 65 a2 M6) fun y7 => zI .i64 y7.1 fun z8 => condB (decide (z8 > (60 : Int))) (K12 true) (bindO (eLen tb false 54 a1 M6) fun y9 => zI .i64 y9.1 fun z10 => K12 (decide (z10 > (20 : Int))))
def an10 : An := (.seq (.reg []) (.seq (.seq (.reg [.non, .int .i64, .bool, .spl, .non, .int .i64, .bool]) (.cnd (.seq (.reg [.bool]) .z) .z)) (.seq (.reg [.agg [.int .i64, .int .i64, .int .i64, .int .i64, .int .i64], .non, .non, .tup [.l .any, .l .any, .l .bool], .non, .non, .non, .bool]) (.seq (.seq (.reg [.non, .bool]) (.cnd (.seq (.reg [.non, .spl, .bool]) .z) .z)) (.seq (.reg [.non, .tup [.l (.int .i64), .l (.int .i64), .l (.int .i64), .l (.int .i64)], .non, .int .i64, .int .i64, .int .i64, .int .i64]) (.seq (.reg [.non, .tup [.l .any, .l (.int .i64)], .non, .non, .int .i64]) (.seq (.reg []) (.seq (.seq (.reg []) (.blk (.lop [(16, .int .i64), (17, .int .i64)] [59, 60, 61, 62, 63, 64, 65, 66, 67, 68, 69, 70] (.seq (.seq (.reg [.non, .ptr, .int .i64, .bool]) (.cnd .z .z)) (.seq (.blk (.seq (.reg [.non, .non, .bool, .bool]) (.cnd (.reg [.non, .int .i64]) .z))) (.reg [.non, .int .i64])))))) (.seq (.seq (.reg [.non, .bool, .spl, .non, .bool, .non, .spl, .non, .non, .int .i64, .non, .int .i64, .non, .ptr, .int .i64, .int .i64, .bool, .non, .spl, .non, .non, .int .i64, .bool]) (.cnd (.seq (.reg []) .z) .z)) (.seq (.seq (.reg []) (.blk (.lop [(18, .int .i64)] [6, 19, 20, 21, 22, 23, 95, 96, 97, 98, 99, 100, 101, 102, 103, 104, 105, 106, 107, 108, 109, 110, 111, 112, 113, 114, 115, 116, 117, 118, 119, 120, 121, 122, 123, 124, 125, 126, 127, 128, 129, 130, 131, 132, 133, 134, 135, 136, 137, 138, 139, 140, 141, 142, 143, 144, 145, 146, 147, 148, 149, 150, 151, 152, 153, 154, 155, 156, 157, 158, 159, 160, 161, 162, 163, 164, 165, 166, 167, 168, 169, 170, 171, 172] (.seq (.seq (.reg [.non, .non, .int .i64, .bool]) (.cnd .z .z)) (.seq (.blk (.seq (.reg [.non, .non, .non, .ptr, .ptr, .agg [.int .i64, .int .i64], .tup [.l (.int .i64), .l (.int .i64)], .non, .int .i64, .int .i64]) (.seq (.reg [.non, .non, .non, .ptr, .ptr, .agg [.int .i64, .int .i64], .tup [.l .any, .a [.int .i64, .int .i64, .int .i64, .int .i64], .l (.int .i64)], .non, .non, .non, .int .i64]) (.seq (.opn [(0, []), (1, []), (2, []), (3, []), (4, []), (5, []), (6, []), (7, []), (8, []), (9, []), (10, []), (12, []), (13, []), (14, []), (15, []), (11, []), (16, []), (17, []), (18, []), (19, []), (20, []), (21, []), (22, []), (23, []), (24, []), (25, []), (26, []), (27, []), (28, []), (29, []), (30, []), (31, []), (32, []), (34, []), (35, []), (36, []), (37, []), (41, []), (42, []), (43, []), (44, []), (45, []), (33, []), (38, []), (40, []), (46, []), (39, [40, 46]), (47, []), (48, []), (49, []), (50, [])] [] [[], [], [], [], [], [], [], [], [], [], [], [], [], [], [], [], [], [], [], [], [], [], [], [], [], [], [], [], [], [], [], [], [], [], [], [], [], [], [], [40, 46]] 0 [.non, .bool, .spl, .non, .bool, .non, .spl, .non, .bool, .non, .spl, .non, .non, .ptr, .ptr, .agg [.int .i64, .int .i64, .int .i64, .int .i64], .agg [.int .i64, .int .i64, .int .i64, .int .i64], .bool, .non, .spl, .non, .non, .non, .ptr, .ptr, .ptr, .int .i64, .bool, .non, .spl, .non, .bool, .spl, .non, .non, .ptr, .ptr, .non, .non, .int .i64, .ptr, .ptr, .agg [.int .i64, .int .i64, .int .i64, .int .i64, .int .i64], .agg [.int .i64, .int .i64], .agg [.int .i64, .int .i64, .int .i64, .int .i64, .int .i64], .agg [.int .i64, .int .i64], .int .i64, .int .i64, .bool, .non, .non]) (.cnd (.seq (.reg []) .z) .z))))) (.reg [.non, .int .i64])))))) (.seq (.reg [.bool]) .z)))))))))))
theorem fn10 : tb.fn.get 10 = some Try.f10 := by kernel_rfl
theorem an10_ok : anB tb Try.f10.ntmps an10 (bodyOf Try.f10) = true := by kernel_rfl
theorem F10_eq : (fun (a0 a1 a2 : AV) (M : Mem) (Q : AV → Mem → Prop) => zCs [.a [.int .i64, .int .i64, .int .i64, .int .i64, .int .i64], .l .any, .l .any] [a0, a1, a2] fun args => wZ tb an10 (bodyOf Try.f10) (enterA Try.f10 args M) (retQ tb Try.f10 Q)) = fun (a0 a1 a2 : AV) (M : Mem) (Q : AV → Mem → Prop) => F10 a0 a1 a2 M Q := by kernel_rfl
theorem F10_ok {a0 a1 a2 : AV} {M : Mem} {Q : AV → Mem → Prop} (h : F10 a0 a1 a2 M Q) : CallA tb.P 10 [a0, a1, a2] M Q :=
  calla_wZ tb_ok tb_mix fn10 (c := bodyOf Try.f10) rfl an10_ok (ks := [.a [.int .i64, .int .i64, .int .i64, .int .i64, .int .i64], .l .any, .l .any]) (cast (congrFun (congrFun (congrFun (congrFun (congrFun F10_eq a0) a1) a2) M) Q).symm h)

def F37 (M : Mem) (Q : AV → Mem → Prop) : Prop :=
  CallA tb.P 88 [] M fun y1 M2 => ∃ (z3 : Int) (z4 : Int) (z5 : Int) (z6 : Int) (z7 : Int), y1 =
  (.agg [(.val (.int .i64 z3)), (.val (.int .i64 z4)), (.val (.int .i64 z5)), (.val (.int .i64 z6)), (.val (.int .i64 z7))]) ∧
  (CallA tb.P 15 [(.agg [(.val (.int .i64 z3)), (.val (.int .i64 z4)), (.val (.int .i64 z5)), (.val (.int .i64 z6)), (.val (.int .i64 z7))]), (.val (.slice none 0 0))] M2 fun y8 M9 => bindO (eBin tb .eql 24 (.tmp 15) (.const (.pointer none)) y8 (.val (.pointer none)) M9) fun y10 => zB y10.1 fun b11 => condB (b11) (Q (.val (.bool false)) M9) (letP (⟨M9.next + 1, M9.rows⟩ : Mem) fun M12 => CallA tb.P 89 [] M12 fun y13 M14 => ∃ (z15 : Int) (z16 : Int) (z17 : Int) (z18 : Int), y13 =
  (.agg [(.val (.int .i64 z15)), (.val (.int .i64 z16)), (.val (.int .i64 z17)), (.val (.int .i64 z18))]) ∧
  (bindO (evMakeFl tb 33 (.val (.int .i64 32)) (.val (.int .i64 32)) M9.next) fun y19 => CallA tb.P 61 [y19.1, (.agg [(.val (.int .i64 z15)), (.val (.int .i64 z16)), (.val (.int .i64 z17)), (.val (.int .i64 z18))])] (M14.put M9.next y19.2) fun y20 M21 => ∃ (x22 : AV) (z23 : Int), y20 =
  (.tup [x22, (.val (.int .i64 z23))]) ∧
  (CallA tb.P 19 [y8, (.agg [(.val (.int .i64 2)), (.val (.int .i64 0))]), x22] M21 fun y24 M25 => zI .i64 y24 fun z26 => CallA tb.P 40 [y8] M25 fun y27 M28 => ∃ (x29 : AV) (z30 : Int), y27 =
  (.tup [x29, (.val (.int .i64 z30))]) ∧ (CallA tb.P 39 [y8] M28 fun y31 M32 => ∃ (z33 : Int) (z34 : Int) (z35 : Int) (z36 : Int), y31 =
  (.tup [(.val (.int .i64 z33)), (.val (.int .i64 z34)), (.val (.int .i64 z35)), (.val (.int .i64 z36))]) ∧
  (CallA tb.P 41 [(.val (.pointer none)), (.agg [(.val (.int .i64 0)), (.val (.int .i64 0))])] M32 fun y37 M38 => ∃ (z39 : Int) (z40 : Int), y37 =
  (.tup [(.val (.int .i64 z39)), (.val (.int .i64 z40))]) ∧ (letP (fun (b51 : Bool) (M52 : Mem) => Q (.val (.bool b51)) M52) fun K53 => condB (z26 == (0 : Int)) (condB (z30 ==
  (0 : Int)) (CallA tb.P 89 [] M38 fun y41 M42 => ∃ (z43 : Int) (z44 : Int) (z45 : Int) (z46 : Int), y41 =
  (.agg [(.val (.int .i64 z43)), (.val (.int .i64 z44)), (.val (.int .i64 z45)), (.val (.int .i64 z46))]) ∧
  (letP (M42.new (.cells [(.val (.int .i64 2)), (.val (.int .i64 0)), (.val (.int .i64 z43)), (.val (.int .i64 z44)), (.val (.int .i64 z45)), (.val (.int .i64 z46))] true)) fun M47 => CallA tb.P 50 [x29, (.sl M42.next 0 1 1 none)] M47 fun y48 M49 => zB y48 fun b50 => condB (b50) (condB (z33 ==
  (31 : Int)) (condB (z34 == (1 : Int)) (condB (z35 == (0 : Int)) (condB (z36 == (0 : Int)) (K53 (z40 ==
  (1 : Int)) M49) (K53 false M49)) (K53 false M49)) (K53 false M49)) (K53 false M49)) (K53 false M49))) (K53 false M38)) (K53 false M38))))))))
def an37 : An := (.seq (.reg []) (.seq (.reg [.agg [.int .i64, .int .i64, .int .i64, .int .i64, .int .i64]]) (.seq (.seq (.reg [.non, .bool]) (.cnd (.seq (.reg []) .z) .z)) (.seq (.opn [(1, []), (0, []), (2, []), (3, []), (4, []), (5, []), (6, []), (7, [])] [0, 0, 0, 0, 0, 0, 0, 0] [] 1 [.agg [.int .i64, .int .i64, .int .i64, .int .i64], .non, .tup [.l .any, .l (.int .i64)], .non, .non, .int .i64, .non, .non]) (.seq (.reg [.non, .non, .non, .int .i64]) (.seq (.reg [.non, .tup [.l .any, .l (.int .i64)], .non, .non, .int .i64]) (.seq (.reg [.non, .tup [.l (.int .i64), .l (.int .i64), .l (.int .i64), .l (.int .i64)], .non, .int .i64, .int .i64, .int .i64, .int .i64]) (.seq (.reg [.non, .tup [.l (.int .i64), .l (.int .i64)], .non, .int .i64, .int .i64]) (.seq (.reg [.non, .bool, .spl, .non, .bool, .non, .spl, .non, .non, .agg [.int .i64, .int .i64, .int .i64, .int .i64], .non, .non, .bool, .non, .spl, .non, .bool, .non, .spl, .non, .bool, .non, .spl, .non, .bool, .non, .spl, .non, .bool, .non, .spl, .non, .bool]) .z)))))))))
theorem fn37 : tb.fn.get 37 = some Try.f37 := by kernel_rfl
theorem an37_ok : anB tb Try.f37.ntmps an37 (bodyOf Try.f37) = true := by kernel_rfl
theorem F37_eq : (fun (M : Mem) (Q : AV → Mem → Prop) => zCs [] [] fun args => wZ tb an37 (bodyOf Try.f37) (enterA Try.f37 args M) (retQ tb Try.f37 Q)) = fun (M : Mem) (Q : AV → Mem → Prop) => F37  M Q := by kernel_rfl
theorem F37_ok {M : Mem} {Q : AV → Mem → Prop} (h : F37  M Q) : CallA tb.P 37 [] M Q :=
  calla_wZ tb_ok tb_mix fn37 (c := bodyOf Try.f37) rfl an37_ok (ks := []) (cast (congrFun (congrFun F37_eq M) Q).symm h)

def F38 (a0 a1 a2 : AV) (M : Mem) (Q : AV → Mem → Prop) : Prop :=
  ∃ (z1 : Int) (z2 : Int) (z3 : Int) (z4 : Int) (z5 : Int), a0 = (.agg [(.val (.int .i64 z1)), (.val (.int .i64 z2)), (.val (.int .i64 z3)), (.val (.int .i64 z4)), (.val (.int .i64 z5))]) ∧
  letP (M.new (.cells [(.val (.int .i64 z1)), (.val (.int .i64 z2)), (.val (.int .i64 z3)), (.val (.int .i64 z4)), (.val (.int .i64 z5))] true)) fun M6 => bindO (eLd tb 23 (.ptr M.next 0) M6) fun y7 => ∃ (z8 : Int) (z9 : Int) (z10 : Int) (z11 : Int) (z12 : Int), y7.1 =
  (.agg [(.val (.int .i64 z8)), (.val (.int .i64 z9)), (.val (.int .i64 z10)), (.val (.int .i64 z11)), (.val (.int .i64 z12))]) ∧
  (bindO (eLd tb 23 (.ptr M.next 0) M6) fun y13 => ∃ (z14 : Int) (z15 : Int) (z16 : Int) (z17 : Int) (z18 : Int), y13.1 =
  (.agg [(.val (.int .i64 z14)), (.val (.int .i64 z15)), (.val (.int .i64 z16)), (.val (.int .i64 z17)), (.val (.int .i64 z18))]) ∧
  (CallA tb.P 15 [(.agg [(.val (.int .i64 z8)), (.val (.int .i64 z9)), (.val (.int .i64 z10)), (.val (.int .i64 z11)), (.val (.int .i64 z12))]), a1] M6 fun y19 M20 => (bindO (eLd tb 23 (.ptr M.next 0) M20) fun y21 => (some (.agg [(.val (.int .i64 z14)), (.val (.int .i64 z15)), (.val (.int .i64 z16)), (.val (.int .i64 z17)), (.val (.int .i64 z18))]) : Option AV) =
  some y21.1) ∧
  (CallA tb.P 33 [(.agg [(.val (.int .i64 z14)), (.val (.int .i64 z15)), (.val (.int .i64 z16)), (.val (.int .i64 z17)), (.val (.int .i64 z18))]), a1] M20 fun y22 M23 => letP (fun (b28 : Bool) => condB (b28) (bindO (eBin tb .eql 24 (.tmp 25) (.const (.pointer none)) y19 (.val (.pointer none)) M23) fun y30 => zB y30.1 fun b31 => bindO (eBin tb .eql 55 (.tmp 27) (.const (.pointer none)) y22 (.val (.pointer none)) M23) fun y32 => zB y32.1 fun b33 => bindO (eBin tb .eql 4 (.tmp 26) (.tmp 28) (.val (.bool b31)) (.val (.bool b33)) M23) fun y34 => zB y34.1 fun b35 => Q (.tup [(.val (.pointer none)), (.val (.pointer none)), (.val (.bool b35))]) M23) (∃ J36 : Int → Nat → Mem → Prop, (∃ n37 : Nat, J36 (0 : Int) n37 M23) ∧
  ∀ (_ : Nat → Option AV) (z38 : Int) (n39 : Nat) (M40 : Mem), J36 z38 n39 M40 →
  (bindO (eLen tb false 65 a2 M40) fun y41 => zI .i64 y41.1 fun z42 => condB (decide (z38 < z42)) (bindO (eIA tb 65 a2 (.val (.int .i64 z38)) M40) fun y43 => zP y43.1 fun p44 o45 => bindO (eLd tb 23 (.ptr M.next 0) M40) fun y46 => ∃ (z47 : Int) (z48 : Int) (z49 : Int) (z50 : Int) (z51 : Int), y46.1 =
  (.agg [(.val (.int .i64 z47)), (.val (.int .i64 z48)), (.val (.int .i64 z49)), (.val (.int .i64 z50)), (.val (.int .i64 z51))]) ∧
  (bindO (eLd tb 133 (.ptr p44 o45) M40) fun y52 => ∃ (z53 : Int) (z54 : Int) (z55 : Int) (z56 : Int) (z57 : Int) (z58 : Int) (z59 : Int) (z60 : Int), y52.1 =
  (.agg [(.val (.int .i64 z53)), (.val (.int .i64 z54)), (.val (.int .u8 z55)), (.val (.int .i64 z56)), (.val (.int .i64 z57)), (.val (.int .i64 z58)), (.val (.int .i64 z59)), (.val (.int .i64 z60))]) ∧
  (CallA tb.P 90 [(.agg [(.val (.int .i64 z47)), (.val (.int .i64 z48)), (.val (.int .i64 z49)), (.val (.int .i64 z50)), (.val (.int .i64 z51))]), (.agg [(.val (.int .i64 z53)), (.val (.int .i64 z54)), (.val (.int .u8 z55)), (.val (.int .i64 z56)), (.val (.int .i64 z57)), (.val (.int .i64 z58)), (.val (.int .i64 z59)), (.val (.int .i64 z60))])] M40 fun y61 M62 => bindO (eIA tb 65 a2 (.val (.int .i64 z38)) M62) fun y63 => zP y63.1 fun p64 o65 => bindO (eIA tb 65 a2 (.val (.int .i64 z38)) M62) fun y66 => zP y66.1 fun p67 o68 => bindO (eLd tb 30 (.ptr p64 o65) M62) fun y69 => ∃ (z70 : Int) (z71 : Int), y69.1 =
  (.agg [(.val (.int .i64 z70)), (.val (.int .i64 z71))]) ∧ (bindO (eLd tb 30 (.ptr p67 o68) M62) fun y72 => ∃ (z73 : Int) (z74 : Int), y72.1 =
  (.agg [(.val (.int .i64 z73)), (.val (.int .i64 z74))]) ∧
  (CallA tb.P 19 [y19, (.agg [(.val (.int .i64 z70)), (.val (.int .i64 z71))]), y61] M62 fun y75 M76 => zI .i64 y75 fun z77 => (bindO (eLd tb 30 (.ptr p67 o68) M76) fun y78 => (some (.agg [(.val (.int .i64 z73)), (.val (.int .i64 z74))]) : Option AV) =
  some y78.1) ∧
  (CallA tb.P 46 [(.val (.int .i64 z77))] M76 fun y79 M80 => zI .i64 y79 fun z81 => (bindO (eLd tb 30 (.ptr p67 o68) M80) fun y82 => (some (.agg [(.val (.int .i64 z73)), (.val (.int .i64 z74))]) : Option AV) =
  some y82.1) ∧ (CallA tb.P 82 [y22, (.agg [(.val (.int .i64 z73)), (.val (.int .i64 z74))]), y61] M80 fun y83 M84 => zI .i64 y83 fun z85 => condB (z81 !=
  z85) (Q (.tup [(.val (.pointer none)), (.val (.pointer none)), (.val (.bool false))]) M84) (∃ k86 : Nat, k86 < n39 ∧
  (J36 (iAdd .i64 z38 1) k86 M84))))))))) (Q (.tup [y19, y22, (.val (.bool true))]) M40)))) fun K29 => bindO (eBin tb .eql 24 (.tmp 19) (.const (.pointer none)) y19 (.val (.pointer none)) M23) fun y24 => zB y24.1 fun b25 => condB (b25) (K29 true) (bindO (eBin tb .eql 55 (.tmp 22) (.const (.pointer none)) y22 (.val (.pointer none)) M23) fun y26 => zB y26.1 fun b27 => K29 b27))))
def an38 : An := (.seq (.reg []) (.seq (.opn [(1, []), (4, []), (0, []), (3, []), (2, [3]), (5, []), (6, []), (7, [])] [] [[], [], [3]] 0 [.non, .non, .agg [.int .i64, .int .i64, .int .i64, .int .i64, .int .i64], .agg [.int .i64, .int .i64, .int .i64, .int .i64, .int .i64], .non, .non, .non, .non]) (.seq (.seq (.reg [.non, .bool, .spl, .non, .bool]) (.cnd (.seq (.reg [.non, .bool, .non, .bool, .bool]) .z) .z)) (.seq (.seq (.reg []) (.blk (.lop [(11, .int .i64)] [6, 7, 8, 12, 30, 31, 32, 33, 34, 35, 36, 37, 38, 39, 40, 41, 42, 43, 44, 45, 46, 47, 48, 49, 50, 51, 52, 53, 54, 55, 56, 57, 58, 59] (.seq (.seq (.reg [.non, .non, .int .i64, .bool]) (.cnd .z .z)) (.seq (.blk (.seq (.opn [(1, []), (2, []), (3, []), (0, []), (4, []), (5, []), (6, [])] [] [] 0 [.non, .non, .ptr, .agg [.int .i64, .int .i64, .int .i64, .int .i64, .int .i64], .agg [.int .i64, .int .i64, .int .u8, .int .i64, .int .i64, .int .i64, .int .i64, .int .i64], .non, .non]) (.seq (.opn [(0, []), (1, []), (2, []), (3, []), (4, []), (6, []), (9, []), (10, []), (11, []), (12, []), (13, []), (15, []), (5, []), (14, []), (7, [14]), (8, [14]), (16, []), (17, [])] [] [[], [], [], [], [], [], [], [14], [14]] 0 [.non, .non, .non, .ptr, .ptr, .non, .non, .non, .non, .ptr, .ptr, .non, .agg [.int .i64, .int .i64], .agg [.int .i64, .int .i64], .int .i64, .int .i64, .int .i64, .bool]) (.cnd (.seq (.reg []) .z) .z)))) (.reg [.non, .int .i64])))))) (.seq (.reg []) .z)))))
theorem fn38 : tb.fn.get 38 = some Try.f38 := by kernel_rfl
theorem an38_ok : anB tb Try.f38.ntmps an38 (bodyOf Try.f38) = true := by kernel_rfl
theorem F38_eq : (fun (a0 a1 a2 : AV) (M : Mem) (Q : AV → Mem → Prop) => zCs [.a [.int .i64, .int .i64, .int .i64, .int .i64, .int .i64], .l .any, .l .any] [a0, a1, a2] fun args => wZ tb an38 (bodyOf Try.f38) (enterA Try.f38 args M) (retQ tb Try.f38 Q)) = fun (a0 a1 a2 : AV) (M : Mem) (Q : AV → Mem → Prop) => F38 a0 a1 a2 M Q := by kernel_rfl
theorem F38_ok {a0 a1 a2 : AV} {M : Mem} {Q : AV → Mem → Prop} (h : F38 a0 a1 a2 M Q) : CallA tb.P 38 [a0, a1, a2] M Q :=
  calla_wZ tb_ok tb_mix fn38 (c := bodyOf Try.f38) rfl an38_ok (ks := [.a [.int .i64, .int .i64, .int .i64, .int .i64, .int .i64], .l .any, .l .any]) (cast (congrFun (congrFun (congrFun (congrFun (congrFun F38_eq a0) a1) a2) M) Q).symm h)

def F39 (a0 : AV) (M : Mem) (Q : AV → Mem → Prop) : Prop :=
  letP (M.new (.cells [(.val (.int .i64 0)), (.val (.int .i64 0)), (.val (.int .i64 0))] true)) fun M1 => bindO (eSt tb 134 (.ptr M.next 0) (.agg [(.val (.int .i64 0)), (.val (.int .i64 0)), (.val (.int .i64 0))]) M1) fun y2 => CallA tb.P 91 [a0, (.fn 92 [] [(.ptr M.next 0)])] y2.2 fun y3 M4 => zI .i64 y3 fun z5 => condB (z5 !=
  (0 : Int)) (Q (.tup [(.val (.int .i64 0)), (.val (.int .i64 0)), (.val (.int .i64 0)), (.val (.int .i64 z5))]) M4) (bindO (eIA tb 134 (.ptr M.next 0) (.val (.int .i64 0)) M4) fun y6 => zP y6.1 fun p7 o8 => bindO (eIA tb 134 (.ptr M.next 0) (.val (.int .i64 1)) M4) fun y9 => zP y9.1 fun p10 o11 => bindO (eIA tb 134 (.ptr M.next 0) (.val (.int .i64 2)) M4) fun y12 => zP y12.1 fun p13 o14 => bindO (eLd tb 3 (.ptr p7 o8) M4) fun y15 => zI .i64 y15.1 fun z16 => bindO (eLd tb 3 (.ptr p10 o11) M4) fun y17 => zI .i64 y17.1 fun z18 => bindO (eLd tb 3 (.ptr p13 o14) M4) fun y19 => zI .i64 y19.1 fun z20 => Q (.tup [(.val (.int .i64 z16)), (.val (.int .i64 z18)), (.val (.int .i64 z20)), (.val (.int .i64 0))]) M4)
def an39 : An := (.seq (.reg []) (.seq (.reg []) (.seq (.reg [.non, .non, .int .i64]) (.seq (.seq (.reg [.non, .bool]) (.cnd (.seq (.reg []) .z) .z)) (.seq (.opn [(0, []), (2, []), (4, []), (1, []), (6, []), (3, []), (7, []), (5, []), (8, []), (9, [])] [] [] 0 [.ptr, .ptr, .ptr, .int .i64, .non, .int .i64, .non, .int .i64, .non, .non]) .z)))))
theorem fn39 : tb.fn.get 39 = some Try.f39 := by kernel_rfl
theorem an39_ok : anB tb Try.f39.ntmps an39 (bodyOf Try.f39) = true := by kernel_rfl
theorem F39_eq : (fun (a0 : AV) (M : Mem) (Q : AV → Mem → Prop) => zCs [.l .any] [a0] fun args => wZ tb an39 (bodyOf Try.f39) (enterA Try.f39 args M) (retQ tb Try.f39 Q)) = fun (a0 : AV) (M : Mem) (Q : AV → Mem → Prop) => F39 a0 M Q := by kernel_rfl
theorem F39_ok {a0 : AV} {M : Mem} {Q : AV → Mem → Prop} (h : F39 a0 M Q) : CallA tb.P 39 [a0] M Q :=
  calla_wZ tb_ok tb_mix fn39 (c := bodyOf Try.f39) rfl an39_ok (ks := [.l .any]) (cast (congrFun (congrFun (congrFun F39_eq a0) M) Q).symm h)

def F40 (a0 : AV) (M : Mem) (Q : AV → Mem → Prop) : Prop :=
  letP (M.new (.cells [(.val (.slice none 0 0))] true)) fun M1 => CallA tb.P 91 [a0, (.fn 93 [] [(.ptr M.next 0)])] M1 fun y2 M3 => zI .i64 y2 fun z4 => condB (z4 !=
  (0 : Int)) (Q (.tup [(.val (.slice none 0 0)), (.val (.int .i64 z4))]) M3) (bindO (eLd tb 70 (.ptr M.next 0) M3) fun y5 => Q (.tup [y5.1, (.val (.int .i64 0))]) M3)
def an40 : An := (.seq (.reg []) (.seq (.reg []) (.seq (.reg [.non, .non, .int .i64]) (.seq (.seq (.reg [.non, .bool]) (.cnd (.seq (.reg []) .z) .z)) (.seq (.reg []) .z)))))
theorem fn40 : tb.fn.get 40 = some Try.f40 := by kernel_rfl
theorem an40_ok : anB tb Try.f40.ntmps an40 (bodyOf Try.f40) = true := by kernel_rfl
theorem F40_eq : (fun (a0 : AV) (M : Mem) (Q : AV → Mem → Prop) => zCs [.l .any] [a0] fun args => wZ tb an40 (bodyOf Try.f40) (enterA Try.f40 args M) (retQ tb Try.f40 Q)) = fun (a0 : AV) (M : Mem) (Q : AV → Mem → Prop) => F40 a0 M Q := by kernel_rfl
theorem F40_ok {a0 : AV} {M : Mem} {Q : AV → Mem → Prop} (h : F40 a0 M Q) : CallA tb.P 40 [a0] M Q :=
  calla_wZ tb_ok tb_mix fn40 (c := bodyOf Try.f40) rfl an40_ok (ks := [.l .any]) (cast (congrFun (congrFun (congrFun F40_eq a0) M) Q).symm h)

def F41 (a0 a1 : AV) (M : Mem) (Q : AV → Mem → Prop) : Prop :=
  ∃ (z1 : Int) (z2 : Int), a1 = (.agg [(.val (.int .i64 z1)), (.val (.int .i64 z2))]) ∧
  letP (M.new (.cells [(.val (.int .i64 z1)), (.val (.int .i64 z2))] true)) fun M3 => bindO (eLd tb 30 (.ptr M.next 0) M3) fun y4 => ∃ (z5 : Int) (z6 : Int), y4.1 =
  (.agg [(.val (.int .i64 z5)), (.val (.int .i64 z6))]) ∧
  (CallA tb.P 94 [a0, (.agg [(.val (.int .i64 z5)), (.val (.int .i64 z6))])] M3 fun y7 M8 => ∃ (x9 : AV) (z10 : Int) (z11 : Int) (z12 : Int) (z13 : Int) (z14 : Int) (z15 : Int), y7 =
  (.tup [x9, (.agg [(.val (.int .i64 z10)), (.val (.int .i64 z11)), (.val (.int .i64 z12)), (.val (.int .i64 z13))]), (.val (.int .i64 z14)), (.val (.int .i64 z15))]) ∧
  (letP (M8.new (.cells [(.val (.int .i64 0)), (.val (.int .i64 0)), (.val (.int .i64 0)), (.val (.int .i64 0))] true)) fun M16 => bindO (eSt tb 76 (.ptr M8.next 0) (.agg [(.val (.int .i64 z10)), (.val (.int .i64 z11)), (.val (.int .i64 z12)), (.val (.int .i64 z13))]) M16) fun y17 => Q (.tup [(.val (.int .i64 z14)), (.val (.int .i64 z15))]) y17.2))
def an41 : An := (.seq (.reg []) (.seq (.reg [.non, .agg [.int .i64, .int .i64], .tup [.l .any, .a [.int .i64, .int .i64, .int .i64, .int .i64], .l (.int .i64), .l (.int .i64)], .non, .non, .non, .int .i64, .int .i64]) (.seq (.reg []) .z)))
theorem fn41 : tb.fn.get 41 = some Try.f41 := by kernel_rfl
theorem an41_ok : anB tb Try.f41.ntmps an41 (bodyOf Try.f41) = true := by kernel_rfl
theorem F41_eq : (fun (a0 a1 : AV) (M : Mem) (Q : AV → Mem → Prop) => zCs [.l .any, .a [.int .i64, .int .i64]] [a0, a1] fun args => wZ tb an41 (bodyOf Try.f41) (enterA Try.f41 args M) (retQ tb Try.f41 Q)) = fun (a0 a1 : AV) (M : Mem) (Q : AV → Mem → Prop) => F41 a0 a1 M Q := by kernel_rfl
theorem F41_ok {a0 a1 : AV} {M : Mem} {Q : AV → Mem → Prop} (h : F41 a0 a1 M Q) : CallA tb.P 41 [a0, a1] M Q :=
  calla_wZ tb_ok tb_mix fn41 (c := bodyOf Try.f41) rfl an41_ok (ks := [.l .any, .a [.int .i64, .int .i64]]) (cast (congrFun (congrFun (congrFun (congrFun F41_eq a0) a1) M) Q).symm h)

def F42 (a0 a1 : AV) (M : Mem) (Q : AV → Mem → Prop) : Prop :=
  ∃ (z1 : Int) (z2 : Int), a1 = (.agg [(.val (.int .i64 z1)), (.val (.int .i64 z2))]) ∧
  letP (M.new (.cells [(.val (.int .i64 z1)), (.val (.int .i64 z2))] true)) fun M3 => letP (M3.new (.cells [(.val (.int .i64 0)), (.val (.int .i64 0)), (.val (.int .i64 0)), (.val (.int .i64 0))] true)) fun M4 => bindO (eLd tb 30 (.ptr M.next 0) M4) fun y5 => ∃ (z6 : Int) (z7 : Int), y5.1 =
  (.agg [(.val (.int .i64 z6)), (.val (.int .i64 z7))]) ∧
  (CallA tb.P 94 [a0, (.agg [(.val (.int .i64 z6)), (.val (.int .i64 z7))])] M4 fun y8 M9 => ∃ (x10 : AV) (z11 : Int) (z12 : Int) (z13 : Int) (z14 : Int) (z15 : Int) (z16 : Int), y8 =
  (.tup [x10, (.agg [(.val (.int .i64 z11)), (.val (.int .i64 z12)), (.val (.int .i64 z13)), (.val (.int .i64 z14))]), (.val (.int .i64 z15)), (.val (.int .i64 z16))]) ∧
  (letP (M9.new (.cells [(.val (.int .i64 0)), (.val (.int .i64 0)), (.val (.int .i64 0)), (.val (.int .i64 0))] true)) fun M17 => bindO (eSt tb 76 (.ptr M9.next 0) (.agg [(.val (.int .i64 z11)), (.val (.int .i64 z12)), (.val (.int .i64 z13)), (.val (.int .i64 z14))]) M17) fun y18 => condB (z16 !=
  (0 : Int)) (bindO (eSt tb 76 (.ptr M3.next 0) (.agg [(.val (.int .i64 0)), (.val (.int .i64 0)), (.val (.int .i64 0)), (.val (.int .i64 0))]) y18.2) fun y19 => bindO (eRes tb [.v (.val (.slice none 0 0)), .c 76 (.ptr M3.next 0), .v (.val (.int .i64 z16))] y19.2) fun x20 => Q x20 y19.2) (condB (z15 !=
  (1 : Int)) (bindO (eSt tb 76 (.ptr M3.next 0) (.agg [(.val (.int .i64 0)), (.val (.int .i64 0)), (.val (.int .i64 0)), (.val (.int .i64 0))]) y18.2) fun y21 => bindO (eRes tb [.v (.val (.slice none 0 0)), .c 76 (.ptr M3.next 0), .v (.val (.int .i64 5))] y21.2) fun x22 => Q x22 y21.2) (bindO (eLd tb 76 (.ptr M9.next 0) y18.2) fun y23 => ∃ (z24 : Int) (z25 : Int) (z26 : Int) (z27 : Int), y23.1 =
  (.agg [(.val (.int .i64 z24)), (.val (.int .i64 z25)), (.val (.int .i64 z26)), (.val (.int .i64 z27))]) ∧
  (bindO (eSt tb 76 (.ptr M3.next 0) (.agg [(.val (.int .i64 z24)), (.val (.int .i64 z25)), (.val (.int .i64 z26)), (.val (.int .i64 z27))]) y18.2) fun y28 => bindO (eRes tb [.v x10, .c 76 (.ptr M3.next 0), .v (.val (.int .i64 0))] y28.2) fun x29 => Q x29 y28.2)))))
def an42 : An := (.seq (.reg []) (.seq (.reg [.non, .agg [.int .i64, .int .i64], .tup [.l .any, .a [.int .i64, .int .i64, .int .i64, .int .i64], .l (.int .i64), .l (.int .i64)], .non, .non, .non, .int .i64, .int .i64]) (.seq (.blk (.seq (.reg [.non, .bool]) (.cnd (.seq (.reg []) .z) (.seq (.reg [.non, .bool]) (.cnd (.seq (.reg []) .z) .z))))) (.seq (.opn [(0, []), (2, []), (1, []), (3, []), (4, [])] [] [] 0 [.non, .non, .agg [.int .i64, .int .i64, .int .i64, .int .i64], .non, .non]) .z))))
theorem fn42 : tb.fn.get 42 = some Try.f42 := by kernel_rfl
theorem an42_ok : anB tb Try.f42.ntmps an42 (bodyOf Try.f42) = true := by kernel_rfl
theorem F42_eq : (fun (a0 a1 : AV) (M : Mem) (Q : AV → Mem → Prop) => zCs [.l .any, .a [.int .i64, .int .i64]] [a0, a1] fun args => wZ tb an42 (bodyOf Try.f42) (enterA Try.f42 args M) (retQ tb Try.f42 Q)) = fun (a0 a1 : AV) (M : Mem) (Q : AV → Mem → Prop) => F42 a0 a1 M Q := by kernel_rfl
theorem F42_ok {a0 a1 : AV} {M : Mem} {Q : AV → Mem → Prop} (h : F42 a0 a1 M Q) : CallA tb.P 42 [a0, a1] M Q :=
  calla_wZ tb_ok tb_mix fn42 (c := bodyOf Try.f42) rfl an42_ok (ks := [.l .any, .a [.int .i64, .int .i64]]) (cast (congrFun (congrFun (congrFun (congrFun F42_eq a0) a1) M) Q).symm h)

def F50 (a0 a1 : AV) (M : Mem) (Q : AV → Mem → Prop) : Prop :=
  bindO (eLen tb false 70 a0 M) fun y1 => zI .i64 y1.1 fun z2 => bindO (eLen tb false 70 a1 M) fun y3 => zI .i64 y3.1 fun z4 => condB (z2 !=
  z4) (Q (.val (.bool false)) M) (∃ J5 : Int → Nat → Mem → Prop, (∃ n6 : Nat, J5 (0 : Int) n6 M) ∧ ∀ (_ : Nat → Option AV) (z7 : Int) (n8 : Nat) (M9 : Mem), J5 z7 n8 M9 →
  (bindO (eLen tb false 70 a0 M9) fun y10 => zI .i64 y10.1 fun z11 => condB (decide (z7 < z11)) (bindO (eIA tb 70 a0 (.val (.int .i64 z7)) M9) fun y12 => zP y12.1 fun p13 o14 => bindO (eIA tb 70 a1 (.val (.int .i64 z7)) M9) fun y15 => zP y15.1 fun p16 o17 => bindO (eLd tb 78 (.ptr p13 o14) M9) fun y18 => ∃ (z19 : Int) (z20 : Int) (z21 : Int) (z22 : Int) (z23 : Int) (z24 : Int), y18.1 =
  (.agg [(.val (.int .i64 z19)), (.val (.int .i64 z20)), (.val (.int .i64 z21)), (.val (.int .i64 z22)), (.val (.int .i64 z23)), (.val (.int .i64 z24))]) ∧
  (bindO (eLd tb 78 (.ptr p16 o17) M9) fun y25 => ∃ (z26 : Int) (z27 : Int) (z28 : Int) (z29 : Int) (z30 : Int) (z31 : Int), y25.1 =
  (.agg [(.val (.int .i64 z26)), (.val (.int .i64 z27)), (.val (.int .i64 z28)), (.val (.int .i64 z29)), (.val (.int .i64 z30)), (.val (.int .i64 z31))]) ∧
  (bindO (eBin tb .neq 78 (.tmp 20) (.tmp 24) (.agg [(.val (.int .i64 z19)), (.val (.int .i64 z20)), (.val (.int .i64 z21)), (.val (.int .i64 z22)), (.val (.int .i64 z23)), (.val (.int .i64 z24))]) (.agg [(.val (.int .i64 z26)), (.val (.int .i64 z27)), (.val (.int .i64 z28)), (.val (.int .i64 z29)), (.val (.int .i64 z30)), (.val (.int .i64 z31))]) M9) fun y32 => zB y32.1 fun b33 => condB (b33) (Q (.val (.bool false)) M9) (∃ k34 : Nat, k34 < n8 ∧
  (J5 (iAdd .i64 z7 1) k34 M9))))) (Q (.val (.bool true)) M9)))
def an50 : An := (.seq (.reg []) (.seq (.seq (.reg [.non, .int .i64, .non, .int .i64, .bool]) (.cnd (.seq (.reg []) .z) .z)) (.seq (.seq (.reg []) (.blk (.lop [(5, .int .i64)] [4, 11, 12, 13, 14, 15, 16, 17, 18, 19, 20, 21, 22, 23, 24, 25] (.seq (.seq (.reg [.non, .non, .int .i64, .bool]) (.cnd .z .z)) (.seq (.blk (.seq (.opn [(0, []), (1, []), (2, []), (4, []), (5, []), (6, []), (3, []), (7, []), (8, [])] [] [] 0 [.non, .non, .ptr, .non, .non, .ptr, .agg [.int .i64, .int .i64, .int .i64, .int .i64, .int .i64, .int .i64], .agg [.int .i64, .int .i64, .int .i64, .int .i64, .int .i64, .int .i64], .bool]) (.cnd (.seq (.reg []) .z) .z))) (.reg [.non, .int .i64])))))) (.seq (.reg []) .z))))
theorem fn50 : tb.fn.get 50 = some Try.f50 := by kernel_rfl
theorem an50_ok : anB tb Try.f50.ntmps an50 (bodyOf Try.f50) = true := by kernel_rfl
theorem F50_eq : (fun (a0 a1 : AV) (M : Mem) (Q : AV → Mem → Prop) => zCs [.l .any, .l .any] [a0, a1] fun args => wZ tb an50 (bodyOf Try.f50) (enterA Try.f50 args M) (retQ tb Try.f50 Q)) = fun (a0 a1 : AV) (M : Mem) (Q : AV → Mem → Prop) => F50 a0 a1 M Q := by kernel_rfl
theorem F50_ok {a0 a1 : AV} {M : Mem} {Q : AV → Mem → Prop} (h : F50 a0 a1 M Q) : CallA tb.P 50 [a0, a1] M Q :=
  calla_wZ tb_ok tb_mix fn50 (c := bodyOf Try.f50) rfl an50_ok (ks := [.l .any, .l .any]) (cast (congrFun (congrFun (congrFun (congrFun F50_eq a0) a1) M) Q).symm h)

def F61 (a0 a1 : AV) (M : Mem) (Q : AV → Mem → Prop) : Prop :=
  ∃ (z1 : Int) (z2 : Int) (z3 : Int) (z4 : Int), a1 = (.agg [(.val (.int .i64 z1)), (.val (.int .i64 z2)), (.val (.int .i64 z3)), (.val (.int .i64 z4))]) ∧
  letP (M.new (.cells [(.val (.int .i64 z1)), (.val (.int .i64 z2)), (.val (.int .i64 z3)), (.val (.int .i64 z4))] true)) fun M5 => letP (fun (b18 : Bool) (M19 : Mem) => condB (b18) (Q (.tup [(.val (.slice none 0 0)), (.val (.int .i64 2))]) M19) (letP (⟨M19.next + 1, M19.rows⟩ : Mem) fun M21 => bindO (eLd tb 3 (.ptr M.next 0) M21) fun y22 => zI .i64 y22.1 fun z23 => bindO (evAppend tb 33 33 (.val (.slice none 0 0)) a0 M21) fun y24 => (bindO (eLd tb 3 (.ptr M.next 0) y24.2) fun y25 => (some (.val (.int .i64 z23)) : Option AV) =
  some y25.1) ∧
  (letP (y24.2.put M19.next (.cells [(.val (.int .u8 74)), (.val (.int .u8 (IntKind.wrap .u8 z23)))] true)) fun M26 => bindO (evAppend tb 33 33 y24.1 (.sl M19.next 0 2 2 none) M26) fun y27 => bindO (eLd tb 3 (.ptr M.next 1) y27.2) fun y28 => zI .i64 y28.1 fun z29 => bindO (eLd tb 3 (.ptr M.next 2) y27.2) fun y30 => zI .i64 y30.1 fun z31 => bindO (eLd tb 3 (.ptr M.next 3) y27.2) fun y32 => zI .i64 y32.1 fun z33 => CallA tb.P 106 [y27.1, (.val (.int .i64 z29)), (.val (.int .i64 2))] y27.2 fun y34 M35 => (bindO (eLd tb 3 (.ptr M.next 2) M35) fun y36 => (some (.val (.int .i64 z31)) : Option AV) =
  some y36.1) ∧ (bindO (eLd tb 3 (.ptr M.next 3) M35) fun y37 => (some (.val (.int .i64 z33)) : Option AV) = some y37.1) ∧
  (CallA tb.P 106 [y34, (.val (.int .i64 z31)), (.val (.int .i64 4))] M35 fun y38 M39 => (bindO (eLd tb 3 (.ptr M.next 3) M39) fun y40 => (some (.val (.int .i64 z33)) : Option AV) = some y40.1) ∧
  (CallA tb.P 106 [y38, (.val (.int .i64 z33)), (.val (.int .i64 3))] M39 fun y41 M42 => CallA tb.P 107 [y41] M42 fun y43 M44 => zI .u32 y43 fun z45 => CallA tb.P 106 [y41, (.val (.int .i64 (IntKind.wrap .i64 z45))), (.val (.int .i64 4))] M44 fun y46 M47 => letP (M47.new (.cells [(.val (.int .u8 0))] true)) fun M48 => bindO (evAppend tb 33 33 y46 (.sl M47.next 0 1 1 none) M48) fun y49 => Q (.tup [y49.1, (.val (.int .i64 0))]) y49.2))))) fun K20 => bindO (eLen tb false 33 a0 M5) fun y6 => zI .i64 y6.1 fun z7 => condB (decide (z7 < (24 : Int))) (K20 true M5) (bindO (eLen tb false 33 a0 M5) fun y8 => zI .i64 y8.1 fun z9 => condB (decide (z9 > (64 : Int))) (K20 true M5) (bindO (eLd tb 76 (.ptr M.next 0) M5) fun y10 => ∃ (z11 : Int) (z12 : Int) (z13 : Int) (z14 : Int), y10.1 =
  (.agg [(.val (.int .i64 z11)), (.val (.int .i64 z12)), (.val (.int .i64 z13)), (.val (.int .i64 z14))]) ∧
  (CallA tb.P 105 [(.agg [(.val (.int .i64 z11)), (.val (.int .i64 z12)), (.val (.int .i64 z13)), (.val (.int .i64 z14))])] M5 fun y15 M16 => zB y15 fun b17 => K20 (!b17) M16)))
def an61 : An := (.seq (.reg []) (.seq (.seq (.reg [.non, .int .i64, .bool, .spl, .non, .int .i64, .bool, .non, .spl, .agg [.int .i64, .int .i64, .int .i64, .int .i64], .bool, .bool]) (.cnd (.seq (.reg []) .z) .z)) (.seq (.opn [(0, []), (2, []), (3, []), (4, []), (1, [3]), (5, []), (6, []), (7, [])] [0, 0, 0, 0, 0, 0, 0, 0] [[], [3]] 1 [.non, .ptr, .int .i64, .int .u8, .non, .non, .non, .non]) (.seq (.opn [(0, []), (1, []), (4, []), (7, []), (2, []), (5, []), (8, []), (3, [5, 8]), (6, [8]), (9, []), (10, [])] [] [[], [], [], [5, 8], [], [], [8]] 0 [.non, .ptr, .ptr, .ptr, .int .i64, .int .i64, .int .i64, .non, .non, .non, .non]) (.seq (.reg [.non, .non, .int .u32, .int .i64]) (.seq (.reg []) .z))))))
theorem fn61 : tb.fn.get 61 = some Try.f61 := by kernel_rfl
theorem an61_ok : anB tb Try.f61.ntmps an61 (bodyOf Try.f61) = true := by kernel_rfl
theorem F61_eq : (fun (a0 a1 : AV) (M : Mem) (Q : AV → Mem → Prop) => zCs [.l .any, .a [.int .i64, .int .i64, .int .i64, .int .i64]] [a0, a1] fun args => wZ tb an61 (bodyOf Try.f61) (enterA Try.f61 args M) (retQ tb Try.f61 Q)) = fun (a0 a1 : AV) (M : Mem) (Q : AV → Mem → Prop) => F61 a0 a1 M Q := by kernel_rfl
theorem F61_ok {a0 a1 : AV} {M : Mem} {Q : AV → Mem → Prop} (h : F61 a0 a1 M Q) : CallA tb.P 61 [a0, a1] M Q :=
  calla_wZ tb_ok tb_mix fn61 (c := bodyOf Try.f61) rfl an61_ok (ks := [.l .any, .a [.int .i64, .int .i64, .int .i64, .int .i64]]) (cast (congrFun (congrFun (congrFun (congrFun F61_eq a0) a1) M) Q).symm h)

def F88 (M : Mem) (Q : AV → Mem → Prop) : Prop :=
  letP (M.new (.cells [(.val (.int .i64 0)), (.val (.int .i64 0)), (.val (.int .i64 0)), (.val (.int .i64 0)), (.val (.int .i64 0))] true)) fun M1 => bindO (eSt tb 23 (.ptr M.next 0) (.agg [(.val (.int .i64 8)), (.val (.int .i64 4)), (.val (.int .i64 32)), (.val (.int .i64 0)), (.val (.int .i64 2))]) M1) fun y2 => bindO (eRes tb [.c 23 (.ptr M.next 0)] y2.2) fun x3 => Q x3 y2.2
def an88 : An := (.seq (.reg []) (.seq (.reg []) .z))
theorem fn88 : tb.fn.get 88 = some Try.f88 := by kernel_rfl
theorem an88_ok : anB tb Try.f88.ntmps an88 (bodyOf Try.f88) = true := by kernel_rfl
theorem F88_eq : (fun (M : Mem) (Q : AV → Mem → Prop) => zCs [] [] fun args => wZ tb an88 (bodyOf Try.f88) (enterA Try.f88 args M) (retQ tb Try.f88 Q)) = fun (M : Mem) (Q : AV → Mem → Prop) => F88  M Q := by kernel_rfl
theorem F88_ok {M : Mem} {Q : AV → Mem → Prop} (h : F88  M Q) : CallA tb.P 88 [] M Q :=
  calla_wZ tb_ok tb_mix fn88 (c := bodyOf Try.f88) rfl an88_ok (ks := []) (cast (congrFun (congrFun F88_eq M) Q).symm h)

def F89 (M : Mem) (Q : AV → Mem → Prop) : Prop :=
  letP (M.new (.cells [(.val (.int .i64 0)), (.val (.int .i64 0)), (.val (.int .i64 0)), (.val (.int .i64 0))] true)) fun M1 => bindO (eSt tb 76 (.ptr M.next 0) (.agg [(.val (.int .i64 1)), (.val (.int .i64 3)), (.val (.int .i64 5)), (.val (.int .i64 2))]) M1) fun y2 => bindO (eRes tb [.c 76 (.ptr M.next 0)] y2.2) fun x3 => Q x3 y2.2
def an89 : An := (.seq (.reg []) (.seq (.reg []) .z))
theorem fn89 : tb.fn.get 89 = some Try.f89 := by kernel_rfl
theorem an89_ok : anB tb Try.f89.ntmps an89 (bodyOf Try.f89) = true := by kernel_rfl
theorem F89_eq : (fun (M : Mem) (Q : AV → Mem → Prop) => zCs [] [] fun args => wZ tb an89 (bodyOf Try.f89) (enterA Try.f89 args M) (retQ tb Try.f89 Q)) = fun (M : Mem) (Q : AV → Mem → Prop) => F89  M Q := by kernel_rfl
theorem F89_ok {M : Mem} {Q : AV → Mem → Prop} (h : F89  M Q) : CallA tb.P 89 [] M Q :=
  calla_wZ tb_ok tb_mix fn89 (c := bodyOf Try.f89) rfl an89_ok (ks := []) (cast (congrFun (congrFun F89_eq M) Q).symm h)

def F90 (a0 a1 : AV) (M : Mem) (Q : AV → Mem → Prop) : Prop :=
  ∃ (z1 : Int) (z2 : Int) (z3 : Int) (z4 : Int) (z5 : Int), a0 = (.agg [(.val (.int .i64 z1)), (.val (.int .i64 z2)), (.val (.int .i64 z3)), (.val (.int .i64 z4)), (.val (.int .i64 z5))]) ∧
  ∃ (z6 : Int) (z7 : Int) (z8 : Int) (z9 : Int) (z10 : Int) (z11 : Int) (z12 : Int) (z13 : Int), a1 =
  (.agg [(.val (.int .i64 z6)), (.val (.int .i64 z7)), (.val (.int .u8 z8)), (.val (.int .i64 z9)), (.val (.int .i64 z10)), (.val (.int .i64 z11)), (.val (.int .i64 z12)), (.val (.int .i64 z13))]) ∧
  letP (M.new (.cells [(.val (.int .i64 z1)), (.val (.int .i64 z2)), (.val (.int .i64 z3)), (.val (.int .i64 z4)), (.val (.int .i64 z5))] true)) fun M14 => letP (M14.new (.cells [(.val (.int .i64 z6)), (.val (.int .i64 z7)), (.val (.int .u8 z8)), (.val (.int .i64 z9)), (.val (.int .i64 z10)), (.val (.int .i64 z11)), (.val (.int .i64 z12)), (.val (.int .i64 z13))] true)) fun M15 => bindO (eLd tb 3 (.ptr M.next 2) M15) fun y16 => zI .i64 y16.1 fun z17 => bindO (evMakeSlice tb 33 (.val (.int .i64 z17)) (.val (.int .i64 z17)) M15) fun y18 => ∃ J19 : Int → Nat → Mem → Prop, (∃ n20 : Nat, J19 (0 : Int) n20 y18.2) ∧
  ∀ (_ : Nat → Option AV) (z21 : Int) (n22 : Nat) (M23 : Mem), J19 z21 n22 M23 →
  (bindO (eLen tb false 33 y18.1 M23) fun y24 => zI .i64 y24.1 fun z25 => condB (decide (z21 < z25)) (bindO (eLd tb 5 (.ptr M14.next 2) M23) fun y26 => zI .u8 y26.1 fun z27 => bindO (eIA tb 33 y18.1 (.val (.int .i64 z21)) M23) fun y28 => zP y28.1 fun p29 o30 => bindO (eSt tb 5 (.ptr p29 o30) (.val (.int .u8 z27)) M23) fun y31 => ∃ k32 : Nat, k32 < n22 ∧
  (J19 (iAdd .i64 z21 1) k32 y31.2)) (bindO (eLd tb 76 (.ptr M14.next 3) M23) fun y33 => ∃ (z34 : Int) (z35 : Int) (z36 : Int) (z37 : Int), y33.1 =
  (.agg [(.val (.int .i64 z34)), (.val (.int .i64 z35)), (.val (.int .i64 z36)), (.val (.int .i64 z37))]) ∧
  (CallA tb.P 61 [y18.1, (.agg [(.val (.int .i64 z34)), (.val (.int .i64 z35)), (.val (.int .i64 z36)), (.val (.int .i64 z37))])] M23 fun y38 M39 => ∃ (x40 : AV) (z41 : Int), y38 =
  (.tup [x40, (.val (.int .i64 z41))]) ∧
  (letP (fun (x43 : AV) (M44 : Mem) => bindO (eLen tb false 33 x43 M44) fun y46 => zI .i64 y46.1 fun z47 => letP (fun (z54 : Int) => ∃ J56 : Int → Nat → Mem → Prop, (∃ n57 : Nat, J56 z54 n57 M44) ∧
  ∀ (_ : Nat → Option AV) (z58 : Int) (n59 : Nat) (M60 : Mem), J56 z58 n59 M60 →
  (bindO (eLen tb false 33 x43 M60) fun y61 => zI .i64 y61.1 fun z62 => condB (decide (z58 < z62)) (bindO (eIA tb 33 x43 (.val (.int .i64 z58)) M60) fun y63 => zP y63.1 fun p64 o65 => bindO (eSt tb 5 (.ptr p64 o65) (.val (.int .u8 255)) M60) fun y66 => ∃ k67 : Nat, k67 < n59 ∧
  (J56 (iAdd .i64 z58 1) k67 y66.2)) (Q x43 M60))) fun K55 => bindO (eLd tb 3 (.ptr M14.next 7) M44) fun y48 => zI .i64 y48.1 fun z49 => condB (decide (z49 ≥ (0 : Int))) (bindO (eLd tb 3 (.ptr M14.next 7) M44) fun y50 => zI .i64 y50.1 fun z51 => bindO (eMin tb #[3, 3] 3 [.int .i64 z51, .int .i64 z47] M44) fun y52 => zI .i64 y52.1 fun z53 => K55 z53) (K55 z47)) fun K45 => condB (z41 !=
  (0 : Int)) (bindO (evAppend tb 33 3 y18.1 (.val (.int .i64 16)) M39) fun y42 => K45 y42.1 y42.2) (K45 x40 M39)))))
def an90 : An := (.seq (.reg []) (.seq (.reg [.ptr, .int .i64]) (.seq (.seq (.reg []) (.blk (.lop [(6, .int .i64)] [14, 15, 16, 17, 18, 19, 20, 21, 22, 23, 24] (.seq (.seq (.reg [.non, .non, .int .i64, .bool]) (.cnd .z .z)) (.seq (.blk (.reg [.non, .non, .ptr, .int .u8, .ptr])) (.reg [.non, .int .i64])))))) (.seq (.reg [.non, .ptr, .agg [.int .i64, .int .i64, .int .i64, .int .i64], .tup [.l .any, .l (.int .i64)], .non, .non, .int .i64]) (.seq (.seq (.reg [.non, .bool]) (.cnd (.reg []) .z)) (.seq (.reg [.non, .int .i64]) (.seq (.seq (.reg [.ptr, .int .i64, .bool]) (.cnd (.reg [.ptr, .int .i64, .non, .int .i64]) .z)) (.seq (.seq (.reg []) (.blk (.lop [(10, .int .i64)] [46, 47, 48, 49, 50, 51, 52, 53, 54] (.seq (.seq (.reg [.non, .non, .int .i64, .bool]) (.cnd .z .z)) (.seq (.blk (.reg [.non, .non, .ptr])) (.reg [.non, .int .i64])))))) (.seq (.reg []) .z)))))))))
theorem fn90 : tb.fn.get 90 = some Try.f90 := by kernel_rfl
theorem an90_ok : anB tb Try.f90.ntmps an90 (bodyOf Try.f90) = true := by kernel_rfl
theorem F90_eq : (fun (a0 a1 : AV) (M : Mem) (Q : AV → Mem → Prop) => zCs [.a [.int .i64, .int .i64, .int .i64, .int .i64, .int .i64], .a [.int .i64, .int .i64, .int .u8, .int .i64, .int .i64, .int .i64, .int .i64, .int .i64]] [a0, a1] fun args => wZ tb an90 (bodyOf Try.f90) (enterA Try.f90 args M) (retQ tb Try.f90 Q)) = fun (a0 a1 : AV) (M : Mem) (Q : AV → Mem → Prop) => F90 a0 a1 M Q := by kernel_rfl
theorem F90_ok {a0 a1 : AV} {M : Mem} {Q : AV → Mem → Prop} (h : F90 a0 a1 M Q) : CallA tb.P 90 [a0, a1] M Q :=
  calla_wZ tb_ok tb_mix fn90 (c := bodyOf Try.f90) rfl an90_ok (ks := [.a [.int .i64, .int .i64, .int .i64, .int .i64, .int .i64], .a [.int .i64, .int .i64, .int .u8, .int .i64, .int .i64, .int .i64, .int .i64, .int .i64]]) (cast (congrFun (congrFun (congrFun (congrFun F90_eq a0) a1) M) Q).symm h)

def F91 (a0 a1 : AV) (M : Mem) (Q : AV → Mem → Prop) : Prop :=
  letP (M.new (.cells [(.val (.int .i64 0)), (.val (.int .i64 0)), (.val (.int .i64 0)), (.val (.int .i64 0))] true)) fun M1 => CallA tb.P 36 [a0] M1 fun y2 M3 => ∃ (z4 : Int) (z5 : Int) (z6 : Int) (z7 : Int) (z8 : Int), y2 =
  (.agg [(.val (.int .i64 z4)), (.val (.int .i64 z5)), (.val (.int .i64 z6)), (.val (.int .i64 z7)), (.val (.int .i64 z8))]) ∧
  (letP (M3.new (.cells [(.val (.int .i64 0)), (.val (.int .i64 0)), (.val (.int .i64 0)), (.val (.int .i64 0)), (.val (.int .i64 0))] true)) fun M9 => bindO (eSt tb 23 (.ptr M3.next 0) (.agg [(.val (.int .i64 z4)), (.val (.int .i64 z5)), (.val (.int .i64 z6)), (.val (.int .i64 z7)), (.val (.int .i64 z8))]) M9) fun y10 => letP (y10.2.new (.cells [(.val (.int .i64 0)), (.val (.int .i64 0))] true)) fun M11 => bindO (eSt tb 30 (.ptr y10.2.next 0) (.agg [(.val (.int .i64 0)), (.val (.int .i64 0))]) M11) fun y12 => bindO (eBin tb .eql 24 (.tmp 14) (.const (.pointer none)) a0 (.val (.pointer none)) y12.2) fun y13 => zB y13.1 fun b14 => condB (b14) (Q (.val (.int .i64 1)) y12.2) (∃ J15 : Nat → Mem → Prop, (∃ n16 : Nat, J15  n16 y12.2) ∧
  ∀ (_ : Nat → Option AV)  (n17 : Nat) (M18 : Mem), J15  n17 M18 →
  (bindO (eLd tb 3 (.ptr y10.2.next 0) M18) fun y19 => zI .i64 y19.1 fun z20 => CallA tb.P 32 [a0, (.val (.int .i64 z20))] M18 fun y21 M22 => zB y21 fun b23 => condB (b23) (bindO (eLd tb 23 (.ptr M3.next 0) M22) fun y24 => ∃ (z25 : Int) (z26 : Int) (z27 : Int) (z28 : Int) (z29 : Int), y24.1 =
  (.agg [(.val (.int .i64 z25)), (.val (.int .i64 z26)), (.val (.int .i64 z27)), (.val (.int .i64 z28)), (.val (.int .i64 z29))]) ∧
  (bindO (eLd tb 30 (.ptr y10.2.next 0) M22) fun y30 => ∃ (z31 : Int) (z32 : Int), y30.1 = (.agg [(.val (.int .i64 z31)), (.val (.int .i64 z32))]) ∧
  (CallA tb.P 114 [(.agg [(.val (.int .i64 z25)), (.val (.int .i64 z26)), (.val (.int .i64 z27)), (.val (.int .i64 z28)), (.val (.int .i64 z29))]), (.agg [(.val (.int .i64 z31)), (.val (.int .i64 z32))])] M22 fun y33 M34 => ∃ (z35 : Int) (z36 : Int) (b37 : Bool), y33 =
  (.tup [(.agg [(.val (.int .i64 z35)), (.val (.int .i64 z36))]), (.val (.bool b37))]) ∧
  (bindO (eSt tb 30 (.ptr y10.2.next 0) (.agg [(.val (.int .i64 z35)), (.val (.int .i64 z36))]) M34) fun y38 => condB (b37) (∃ k39 : Nat, k39 < n17 ∧
  (J15  k39 y38.2)) (Q (.val (.int .i64 0)) y38.2))))) (bindO (eLd tb 30 (.ptr y10.2.next 0) M22) fun y40 => ∃ (z41 : Int) (z42 : Int), y40.1 =
  (.agg [(.val (.int .i64 z41)), (.val (.int .i64 z42))]) ∧
  (CallA tb.P 94 [a0, (.agg [(.val (.int .i64 z41)), (.val (.int .i64 z42))])] M22 fun y43 M44 => ∃ (x45 : AV) (z46 : Int) (z47 : Int) (z48 : Int) (z49 : Int) (z50 : Int) (z51 : Int), y43 =
  (.tup [x45, (.agg [(.val (.int .i64 z46)), (.val (.int .i64 z47)), (.val (.int .i64 z48)), (.val (.int .i64 z49))]), (.val (.int .i64 z50)), (.val (.int .i64 z51))]) ∧
  (bindO (eSt tb 76 (.ptr M.next 0) (.agg [(.val (.int .i64 z46)), (.val (.int .i64 z47)), (.val (.int .i64 z48)), (.val (.int .i64 z49))]) M44) fun y52 => condB (z51 !=
  (0 : Int)) (Q (.val (.int .i64 z51)) y52.2) (bindO (eLd tb 30 (.ptr y10.2.next 0) y52.2) fun y53 => ∃ (z54 : Int) (z55 : Int), y53.1 = (.agg [(.val (.int .i64 z54)), (.val (.int .i64 z55))]) ∧
  (bindO (eLd tb 76 (.ptr M.next 0) y52.2) fun y56 => ∃ (z57 : Int) (z58 : Int) (z59 : Int) (z60 : Int), y56.1 =
  (.agg [(.val (.int .i64 z57)), (.val (.int .i64 z58)), (.val (.int .i64 z59)), (.val (.int .i64 z60))]) ∧
  (eCall tb a1 [(.agg [(.val (.int .i64 z54)), (.val (.int .i64 z55))]), (.agg [(.val (.int .i64 z57)), (.val (.int .i64 z58)), (.val (.int .i64 z59)), (.val (.int .i64 z60))]), (.val (.int .i64 z50))] y52.2 fun y61 M62 => bindO (eLd tb 23 (.ptr M3.next 0) M62) fun y63 => ∃ (z64 : Int) (z65 : Int) (z66 : Int) (z67 : Int) (z68 : Int), y63.1 =
  (.agg [(.val (.int .i64 z64)), (.val (.int .i64 z65)), (.val (.int .i64 z66)), (.val (.int .i64 z67)), (.val (.int .i64 z68))]) ∧
  (bindO (eLd tb 30 (.ptr y10.2.next 0) M62) fun y69 => ∃ (z70 : Int) (z71 : Int), y69.1 = (.agg [(.val (.int .i64 z70)), (.val (.int .i64 z71))]) ∧
  (CallA tb.P 114 [(.agg [(.val (.int .i64 z64)), (.val (.int .i64 z65)), (.val (.int .i64 z66)), (.val (.int .i64 z67)), (.val (.int .i64 z68))]), (.agg [(.val (.int .i64 z70)), (.val (.int .i64 z71))])] M62 fun y72 M73 => ∃ (z74 : Int) (z75 : Int) (b76 : Bool), y72 =
  (.tup [(.agg [(.val (.int .i64 z74)), (.val (.int .i64 z75))]), (.val (.bool b76))]) ∧
  (bindO (eSt tb 30 (.ptr y10.2.next 0) (.agg [(.val (.int .i64 z74)), (.val (.int .i64 z75))]) M73) fun y77 => condB (b76) (∃ k78 : Nat, k78 < n17 ∧
  (J15  k78 y77.2)) (Q (.val (.int .i64 0)) y77.2)))))))))))))
def an91 : An := (.seq (.reg []) (.scp 1 0 (.seq (.reg []) (.seq (.reg []) (.seq (.reg [.non, .agg [.int .i64, .int .i64, .int .i64, .int .i64, .int .i64]]) (.seq (.reg []) (.seq (.seq (.reg [.non, .bool]) (.cnd (.seq (.reg []) .z) .z)) .z))))) [] [4, 6, 7, 8, 16, 17, 18, 19, 20, 21, 22, 23, 24, 25, 26, 27, 28, 29, 30, 31, 32, 33, 34, 35, 36, 37, 38, 39, 40, 41, 42] (.seq (.seq (.reg [.non, .ptr, .int .i64, .bool]) (.cnd .z .z)) (.seq (.reg [.non, .agg [.int .i64, .int .i64], .tup [.l .any, .a [.int .i64, .int .i64, .int .i64, .int .i64], .l (.int .i64), .l (.int .i64)], .non, .non, .non, .int .i64, .int .i64]) (.seq (.seq (.reg [.non, .bool]) (.cnd (.seq (.reg []) .z) .z)) (.seq (.reg [.non, .agg [.int .i64, .int .i64], .agg [.int .i64, .int .i64, .int .i64, .int .i64]]) (.seq .z (.seq (.reg [.agg [.int .i64, .int .i64, .int .i64, .int .i64, .int .i64], .agg [.int .i64, .int .i64], .tup [.a [.int .i64, .int .i64], .l .bool], .non, .non, .bool]) (.seq (.seq (.reg []) (.cnd .z .z)) (.seq (.reg []) .z)))))))) (.seq (.reg [.agg [.int .i64, .int .i64, .int .i64, .int .i64, .int .i64], .agg [.int .i64, .int .i64], .tup [.a [.int .i64, .int .i64], .l .bool], .non, .non, .bool]) (.seq (.seq (.reg []) (.cnd .z .z)) (.seq (.reg []) .z)))))
theorem fn91 : tb.fn.get 91 = some Try.f91 := by kernel_rfl
theorem an91_ok : anB tb Try.f91.ntmps an91 (bodyOf Try.f91) = true := by kernel_rfl
theorem F91_eq : (fun (a0 a1 : AV) (M : Mem) (Q : AV → Mem → Prop) => zCs [.l .any, .l .any] [a0, a1] fun args => wZ tb an91 (bodyOf Try.f91) (enterA Try.f91 args M) (retQ tb Try.f91 Q)) = fun (a0 a1 : AV) (M : Mem) (Q : AV → Mem → Prop) => F91 a0 a1 M Q := by kernel_rfl
theorem F91_ok {a0 a1 : AV} {M : Mem} {Q : AV → Mem → Prop} (h : F91 a0 a1 M Q) : CallA tb.P 91 [a0, a1] M Q :=
  calla_wZ tb_ok tb_mix fn91 (c := bodyOf Try.f91) rfl an91_ok (ks := [.l .any, .l .any]) (cast (congrFun (congrFun (congrFun (congrFun F91_eq a0) a1) M) Q).symm h)

def F92 (a0 a1 a2 a3 : AV) (M : Mem) (Q : AV → Mem → Prop) : Prop :=
  ∃ (z1 : Int) (z2 : Int), a0 = (.agg [(.val (.int .i64 z1)), (.val (.int .i64 z2))]) ∧ ∃ (z3 : Int) (z4 : Int) (z5 : Int) (z6 : Int), a1 =
  (.agg [(.val (.int .i64 z3)), (.val (.int .i64 z4)), (.val (.int .i64 z5)), (.val (.int .i64 z6))]) ∧
  zI .i64 a2 fun z7 => letP (M.new (.cells [(.val (.int .i64 z1)), (.val (.int .i64 z2))] true)) fun M8 => letP (M8.new (.cells [(.val (.int .i64 z3)), (.val (.int .i64 z4)), (.val (.int .i64 z5)), (.val (.int .i64 z6))] true)) fun M9 => bindO (eIA tb 134 a3 (.val (.int .i64 z7)) M9) fun y10 => zP y10.1 fun p11 o12 => bindO (eLd tb 3 (.ptr p11 o12) M9) fun y13 => zI .i64 y13.1 fun z14 => bindO (eIA tb 134 a3 (.val (.int .i64 z7)) M9) fun y15 => zP y15.1 fun p16 o17 => bindO (eSt tb 3 (.ptr p16 o17) (.val (.int .i64 (iAdd .i64 z14 1))) M9) fun y18 => Q (.tup []) y18.2
def an92 : An := (.seq (.reg []) (.reg [.non, .ptr, .int .i64, .int .i64, .ptr]))
theorem fn92 : tb.fn.get 92 = some Try.f92 := by kernel_rfl
theorem an92_ok : anB tb Try.f92.ntmps an92 (bodyOf Try.f92) = true := by kernel_rfl
theorem F92_eq : (fun (a0 a1 a2 a3 : AV) (M : Mem) (Q : AV → Mem → Prop) => zCs [.a [.int .i64, .int .i64], .a [.int .i64, .int .i64, .int .i64, .int .i64], .l (.int .i64), .l .any] [a0, a1, a2, a3] fun args => wZ tb an92 (bodyOf Try.f92) (enterA Try.f92 args M) (retQ tb Try.f92 Q)) = fun (a0 a1 a2 a3 : AV) (M : Mem) (Q : AV → Mem → Prop) => F92 a0 a1 a2 a3 M Q := by kernel_rfl
theorem F92_ok {a0 a1 a2 a3 : AV} {M : Mem} {Q : AV → Mem → Prop} (h : F92 a0 a1 a2 a3 M Q) : CallA tb.P 92 [a0, a1, a2, a3] M Q :=
  calla_wZ tb_ok tb_mix fn92 (c := bodyOf Try.f92) rfl an92_ok (ks := [.a [.int .i64, .int .i64], .a [.int .i64, .int .i64, .int .i64, .int .i64], .l (.int .i64), .l .any]) (cast (congrFun (congrFun (congrFun (congrFun (congrFun (congrFun F92_eq a0) a1) a2) a3) M) Q).symm h)

def F93 (a0 a1 a2 a3 : AV) (M : Mem) (Q : AV → Mem → Prop) : Prop :=
  ∃ (z1 : Int) (z2 : Int), a0 = (.agg [(.val (.int .i64 z1)), (.val (.int .i64 z2))]) ∧ ∃ (z3 : Int) (z4 : Int) (z5 : Int) (z6 : Int), a1 =
  (.agg [(.val (.int .i64 z3)), (.val (.int .i64 z4)), (.val (.int .i64 z5)), (.val (.int .i64 z6))]) ∧
  zI .i64 a2 fun z7 => letP (M.new (.cells [(.val (.int .i64 z1)), (.val (.int .i64 z2))] true)) fun M8 => letP (M8.new (.cells [(.val (.int .i64 z3)), (.val (.int .i64 z4)), (.val (.int .i64 z5)), (.val (.int .i64 z6))] true)) fun M9 => condB (z7 ==
  (1 : Int)) (bindO (eLd tb 70 a3 M9) fun y10 => bindO (eLd tb 30 (.ptr M.next 0) M9) fun y11 => ∃ (z12 : Int) (z13 : Int), y11.1 = (.agg [(.val (.int .i64 z12)), (.val (.int .i64 z13))]) ∧
  (bindO (eLd tb 76 (.ptr M8.next 0) M9) fun y14 => ∃ (z15 : Int) (z16 : Int) (z17 : Int) (z18 : Int), y14.1 =
  (.agg [(.val (.int .i64 z15)), (.val (.int .i64 z16)), (.val (.int .i64 z17)), (.val (.int .i64 z18))]) ∧
  (letP (M9.new (.cells [(.val (.int .i64 z12)), (.val (.int .i64 z13)), (.val (.int .i64 z15)), (.val (.int .i64 z16)), (.val (.int .i64 z17)), (.val (.int .i64 z18))] true)) fun M19 => bindO (evAppend tb 70 70 y10.1 (.sl M9.next 0 1 1 none) M19) fun y20 => bindO (eSt tb 70 a3 y20.1 y20.2) fun y21 => Q (.tup []) y21.2))) (Q (.tup []) M9)
def an93 : An := (.seq (.reg []) (.seq (.reg [.non, .bool]) (.cnd (.reg [.non, .agg [.int .i64, .int .i64], .agg [.int .i64, .int .i64, .int .i64, .int .i64]]) .z)))
theorem fn93 : tb.fn.get 93 = some Try.f93 := by kernel_rfl
theorem an93_ok : anB tb Try.f93.ntmps an93 (bodyOf Try.f93) = true := by kernel_rfl
theorem F93_eq : (fun (a0 a1 a2 a3 : AV) (M : Mem) (Q : AV → Mem → Prop) => zCs [.a [.int .i64, .int .i64], .a [.int .i64, .int .i64, .int .i64, .int .i64], .l (.int .i64), .l .any] [a0, a1, a2, a3] fun args => wZ tb an93 (bodyOf Try.f93) (enterA Try.f93 args M) (retQ tb Try.f93 Q)) = fun (a0 a1 a2 a3 : AV) (M : Mem) (Q : AV → Mem → Prop) => F93 a0 a1 a2 a3 M Q := by kernel_rfl
theorem F93_ok {a0 a1 a2 a3 : AV} {M : Mem} {Q : AV → Mem → Prop} (h : F93 a0 a1 a2 a3 M Q) : CallA tb.P 93 [a0, a1, a2, a3] M Q :=
  calla_wZ tb_ok tb_mix fn93 (c := bodyOf Try.f93) rfl an93_ok (ks := [.a [.int .i64, .int .i64], .a [.int .i64, .int .i64, .int .i64, .int .i64], .l (.int .i64), .l .any]) (cast (congrFun (congrFun (congrFun (congrFun (congrFun (congrFun F93_eq a0) a1) a2) a3) M) Q).symm h)

def F94 (a0 a1 : AV) (M : Mem) (Q : AV → Mem → Prop) : Prop :=
  ∃ (z1 : Int) (z2 : Int), a1 = (.agg [(.val (.int .i64 z1)), (.val (.int .i64 z2))]) ∧
  letP (M.new (.cells [(.val (.int .i64 z1)), (.val (.int .i64 z2))] true)) fun M3 => letP (M3.new (.cells [(.val (.int .i64 0)), (.val (.int .i64 0)), (.val (.int .i64 0)), (.val (.int .i64 0))] true)) fun M4 => bindO (eLd tb 30 (.ptr M.next 0) M4) fun y5 => ∃ (z6 : Int) (z7 : Int), y5.1 =
  (.agg [(.val (.int .i64 z6)), (.val (.int .i64 z7))]) ∧ (CallA tb.P 21 [a0, (.agg [(.val (.int .i64 z6)), (.val (.int .i64 z7))])] M4 fun y8 M9 => ∃ (x10 : AV) (z11 : Int), y8 =
  (.tup [x10, (.val (.int .i64 z11))]) ∧ (condB (z11 !=
  (0 : Int)) (bindO (eSt tb 76 (.ptr M3.next 0) (.agg [(.val (.int .i64 0)), (.val (.int .i64 0)), (.val (.int .i64 0)), (.val (.int .i64 0))]) M9) fun y12 => bindO (eRes tb [.v (.val (.slice none 0 0)), .c 76 (.ptr M3.next 0), .v (.val (.int .i64 0)), .v (.val (.int .i64 z11))] y12.2) fun x13 => Q x13 y12.2) (CallA tb.P 115 [x10] M9 fun y14 M15 => ∃ (x16 : AV) (z17 : Int) (z18 : Int) (z19 : Int) (z20 : Int) (z21 : Int), y14 =
  (.tup [x16, (.agg [(.val (.int .i64 z17)), (.val (.int .i64 z18)), (.val (.int .i64 z19)), (.val (.int .i64 z20))]), (.val (.int .i64 z21))]) ∧
  (letP (M15.new (.cells [(.val (.int .i64 0)), (.val (.int .i64 0)), (.val (.int .i64 0)), (.val (.int .i64 0))] true)) fun M22 => bindO (eSt tb 76 (.ptr M15.next 0) (.agg [(.val (.int .i64 z17)), (.val (.int .i64 z18)), (.val (.int .i64 z19)), (.val (.int .i64 z20))]) M22) fun y23 => bindO (eLd tb 76 (.ptr M15.next 0) y23.2) fun y24 => ∃ (z25 : Int) (z26 : Int) (z27 : Int) (z28 : Int), y24.1 =
  (.agg [(.val (.int .i64 z25)), (.val (.int .i64 z26)), (.val (.int .i64 z27)), (.val (.int .i64 z28))]) ∧
  (bindO (eSt tb 76 (.ptr M3.next 0) (.agg [(.val (.int .i64 z25)), (.val (.int .i64 z26)), (.val (.int .i64 z27)), (.val (.int .i64 z28))]) y23.2) fun y29 => bindO (eRes tb [.v x16, .c 76 (.ptr M3.next 0), .v (.val (.int .i64 z21)), .v (.val (.int .i64 0))] y29.2) fun x30 => Q x30 y29.2)))))
def an94 : An := (.seq (.reg []) (.seq (.reg [.non, .agg [.int .i64, .int .i64], .tup [.l .any, .l (.int .i64)], .non, .non, .int .i64]) (.seq (.seq (.reg [.non, .bool]) (.cnd (.seq (.reg []) .z) .z)) (.seq (.reg [.non, .tup [.l .any, .a [.int .i64, .int .i64, .int .i64, .int .i64], .l (.int .i64)], .non, .non, .non, .int .i64]) (.seq (.opn [(0, []), (2, []), (3, []), (1, []), (4, []), (5, []), (6, [])] [] [] 0 [.non, .non, .non, .agg [.int .i64, .int .i64, .int .i64, .int .i64], .non, .non, .non]) .z)))))
theorem fn94 : tb.fn.get 94 = some Try.f94 := by kernel_rfl
theorem an94_ok : anB tb Try.f94.ntmps an94 (bodyOf Try.f94) = true := by kernel_rfl
theorem F94_eq : (fun (a0 a1 : AV) (M : Mem) (Q : AV → Mem → Prop) => zCs [.l .any, .a [.int .i64, .int .i64]] [a0, a1] fun args => wZ tb an94 (bodyOf Try.f94) (enterA Try.f94 args M) (retQ tb Try.f94 Q)) = fun (a0 a1 : AV) (M : Mem) (Q : AV → Mem → Prop) => F94 a0 a1 M Q := by kernel_rfl
theorem F94_ok {a0 a1 : AV} {M : Mem} {Q : AV → Mem → Prop} (h : F94 a0 a1 M Q) : CallA tb.P 94 [a0, a1] M Q :=
  calla_wZ tb_ok tb_mix fn94 (c := bodyOf Try.f94) rfl an94_ok (ks := [.l .any, .a [.int .i64, .int .i64]]) (cast (congrFun (congrFun (congrFun (congrFun F94_eq a0) a1) M) Q).symm h)

def F105 (a0 : AV) (M : Mem) (Q : AV → Mem → Prop) : Prop :=
  ∃ (z1 : Int) (z2 : Int) (z3 : Int) (z4 : Int), a0 = (.agg [(.val (.int .i64 z1)), (.val (.int .i64 z2)), (.val (.int .i64 z3)), (.val (.int .i64 z4))]) ∧
  letP (M.new (.cells [(.val (.int .i64 z1)), (.val (.int .i64 z2)), (.val (.int .i64 z3)), (.val (.int .i64 z4))] true)) fun M5 => letP (fun (b34 : Bool) => Q (.val (.bool b34)) M5) fun K35 => bindO (eLd tb 3 (.ptr M.next 0) M5) fun y6 => zI .i64 y6.1 fun z7 => condB (decide (z7 ≥ (1 : Int))) (bindO (eLd tb 3 (.ptr M.next 0) M5) fun y8 => zI .i64 y8.1 fun z9 => condB (decide (z9 ≤ (3 : Int))) (bindO (eLd tb 3 (.ptr M.next 1) M5) fun y10 => zI .i64 y10.1 fun z11 => condB (decide (z11 ≥ (0 : Int))) (bindO (eLd tb 3 (.ptr M.next 1) M5) fun y12 => zI .i64 y12.1 fun z13 => condB (decide (z13 ≤ (65535 : Int))) (bindO (eLd tb 3 (.ptr M.next 0) M5) fun y14 => zI .i64 y14.1 fun z15 => condB (z15 !=
  (3 : Int)) (bindO (eLd tb 3 (.ptr M.next 2) M5) fun y16 => zI .i64 y16.1 fun z17 => condB (decide (z17 ≥ (0 : Int))) (bindO (eLd tb 3 (.ptr M.next 2) M5) fun y18 => zI .i64 y18.1 fun z19 => condB (decide (z19 ≤ (4294967295 : Int))) (bindO (eLd tb 3 (.ptr M.next 3) M5) fun y20 => zI .i64 y20.1 fun z21 => condB (decide (z21 ≥ (0 : Int))) (bindO (eLd tb 3 (.ptr M.next 3) M5) fun y22 => zI .i64 y22.1 fun z23 => K35 (decide (z23 ≤ (16777215 : Int)))) (K35 false)) (K35 false)) (K35 false)) (bindO (eLd tb 3 (.ptr M.next 1) M5) fun y24 => zI .i64 y24.1 fun z25 => condB (z25 ==
  (0 : Int)) (bindO (eLd tb 3 (.ptr M.next 2) M5) fun y26 => zI .i64 y26.1 fun z27 => condB (decide (z27 ≥ (0 : Int))) (bindO (eLd tb 3 (.ptr M.next 2) M5) fun y28 => zI .i64 y28.1 fun z29 => condB (decide (z29 ≤ (4294967295 : Int))) (bindO (eLd tb 3 (.ptr M.next 3) M5) fun y30 => zI .i64 y30.1 fun z31 => condB (decide (z31 ≥ (0 : Int))) (bindO (eLd tb 3 (.ptr M.next 3) M5) fun y32 => zI .i64 y32.1 fun z33 => K35 (decide (z33 ≤ (16777215 : Int)))) (K35 false)) (K35 false)) (K35 false)) (K35 false))) (K35 false)) (K35 false)) (K35 false)) (K35 false)
def an105 : An := (.seq (.reg []) (.seq (.reg [.ptr, .int .i64, .bool, .spl, .ptr, .int .i64, .bool, .non, .spl, .ptr, .int .i64, .bool, .non, .spl, .ptr, .int .i64, .bool, .non, .spl, .ptr, .int .i64, .bool, .spl, .ptr, .int .i64, .bool, .non, .non, .spl, .ptr, .int .i64, .bool, .non, .spl, .ptr, .int .i64, .bool, .non, .spl, .ptr, .int .i64, .bool, .non, .spl, .ptr, .int .i64, .bool]) .z))
theorem fn105 : tb.fn.get 105 = some Try.f105 := by kernel_rfl
theorem an105_ok : anB tb Try.f105.ntmps an105 (bodyOf Try.f105) = true := by kernel_rfl
theorem F105_eq : (fun (a0 : AV) (M : Mem) (Q : AV → Mem → Prop) => zCs [.a [.int .i64, .int .i64, .int .i64, .int .i64]] [a0] fun args => wZ tb an105 (bodyOf Try.f105) (enterA Try.f105 args M) (retQ tb Try.f105 Q)) = fun (a0 : AV) (M : Mem) (Q : AV → Mem → Prop) => F105 a0 M Q := by kernel_rfl
theorem F105_ok {a0 : AV} {M : Mem} {Q : AV → Mem → Prop} (h : F105 a0 M Q) : CallA tb.P 105 [a0] M Q :=
  calla_wZ tb_ok tb_mix fn105 (c := bodyOf Try.f105) rfl an105_ok (ks := [.a [.int .i64, .int .i64, .int .i64, .int .i64]]) (cast (congrFun (congrFun (congrFun F105_eq a0) M) Q).symm h)

def F106 (a0 a1 a2 : AV) (M : Mem) (Q : AV → Mem → Prop) : Prop :=
  zI .i64 a1 fun z1 => zI .i64 a2 fun z2 => ∃ J3 : AV → Int → Nat → Mem → Prop, (∃ n4 : Nat, J3 a0 (iSub .i64 z2 1) n4 M) ∧
  ∀ (_ : Nat → Option AV) (x5 : AV) (z6 : Int) (n7 : Nat) (M8 : Mem), J3 x5 z6 n7 M8 →
  (condB (decide (z6 ≥ (0 : Int))) (bindO (eBin tb .shr 3 (.tmp 15) (.tmp 17) (.val (.int .i64 z1)) (.val (.int .i64 (iMul .i64 8 z6))) M8) fun y9 => zI .i64 y9.1 fun z10 => letP (M8.new (.cells [(.val (.int .u8 (IntKind.wrap .u8 z10)))] true)) fun M11 => bindO (evAppend tb 33 33 x5 (.sl M8.next 0 1 1 none) M11) fun y12 => ∃ k13 : Nat, k13 < n7 ∧
  (J3 y12.1 (iSub .i64 z6 1) k13 y12.2)) (Q x5 M8))
def an106 : An := (.seq (.reg []) (.seq (.seq (.reg [.non, .int .i64]) (.blk (.lop [(0, .any), (7, .int .i64)] [10, 11, 12, 13, 14, 15, 16, 17, 18, 19, 20, 21] (.seq (.seq (.reg [.non, .bool]) (.cnd .z .z)) (.seq (.blk (.reg [.non, .non, .non, .int .i64, .int .i64, .int .u8])) (.reg [.non, .int .i64])))))) (.seq (.reg []) .z)))
theorem fn106 : tb.fn.get 106 = some Try.f106 := by kernel_rfl
theorem an106_ok : anB tb Try.f106.ntmps an106 (bodyOf Try.f106) = true := by kernel_rfl
theorem F106_eq : (fun (a0 a1 a2 : AV) (M : Mem) (Q : AV → Mem → Prop) => zCs [.l .any, .l (.int .i64), .l (.int .i64)] [a0, a1, a2] fun args => wZ tb an106 (bodyOf Try.f106) (enterA Try.f106 args M) (retQ tb Try.f106 Q)) = fun (a0 a1 a2 : AV) (M : Mem) (Q : AV → Mem → Prop) => F106 a0 a1 a2 M Q := by kernel_rfl
theorem F106_ok {a0 a1 a2 : AV} {M : Mem} {Q : AV → Mem → Prop} (h : F106 a0 a1 a2 M Q) : CallA tb.P 106 [a0, a1, a2] M Q :=
  calla_wZ tb_ok tb_mix fn106 (c := bodyOf Try.f106) rfl an106_ok (ks := [.l .any, .l (.int .i64), .l (.int .i64)]) (cast (congrFun (congrFun (congrFun (congrFun (congrFun F106_eq a0) a1) a2) M) Q).symm h)

def F107 (a0 : AV) (M : Mem) (Q : AV → Mem → Prop) : Prop :=
  CallA tb.P 122 [(.val (.int .u32 0)), a0] M fun y1 M2 => zI .u32 y1 fun z3 => Q (.val (.int .u32 z3)) M2
def an107 : An := (.seq (.reg []) (.seq (.reg [.non, .int .u32]) .z))
theorem fn107 : tb.fn.get 107 = some Try.f107 := by kernel_rfl
theorem an107_ok : anB tb Try.f107.ntmps an107 (bodyOf Try.f107) = true := by kernel_rfl
theorem F107_eq : (fun (a0 : AV) (M : Mem) (Q : AV → Mem → Prop) => zCs [.l .any] [a0] fun args => wZ tb an107 (bodyOf Try.f107) (enterA Try.f107 args M) (retQ tb Try.f107 Q)) = fun (a0 : AV) (M : Mem) (Q : AV → Mem → Prop) => F107 a0 M Q := by kernel_rfl
theorem F107_ok {a0 : AV} {M : Mem} {Q : AV → Mem → Prop} (h : F107 a0 M Q) : CallA tb.P 107 [a0] M Q :=
  calla_wZ tb_ok tb_mix fn107 (c := bodyOf Try.f107) rfl an107_ok (ks := [.l .any]) (cast (congrFun (congrFun (congrFun F107_eq a0) M) Q).symm h)

def F114 (a0 a1 : AV) (M : Mem) (Q : AV → Mem → Prop) : Prop :=
  ∃ (z1 : Int) (z2 : Int) (z3 : Int) (z4 : Int) (z5 : Int), a0 = (.agg [(.val (.int .i64 z1)), (.val (.int .i64 z2)), (.val (.int .i64 z3)), (.val (.int .i64 z4)), (.val (.int .i64 z5))]) ∧
  ∃ (z6 : Int) (z7 : Int), a1 = (.agg [(.val (.int .i64 z6)), (.val (.int .i64 z7))]) ∧
  letP (M.new (.cells [(.val (.int .i64 z1)), (.val (.int .i64 z2)), (.val (.int .i64 z3)), (.val (.int .i64 z4)), (.val (.int .i64 z5))] true)) fun M8 => letP (M8.new (.cells [(.val (.int .i64 z6)), (.val (.int .i64 z7))] true)) fun M9 => letP (M9.new (.cells [(.val (.int .i64 0)), (.val (.int .i64 0))] true)) fun M10 => bindO (eLd tb 23 (.ptr M.next 0) M10) fun y11 => ∃ (z12 : Int) (z13 : Int) (z14 : Int) (z15 : Int) (z16 : Int), y11.1 =
  (.agg [(.val (.int .i64 z12)), (.val (.int .i64 z13)), (.val (.int .i64 z14)), (.val (.int .i64 z15)), (.val (.int .i64 z16))]) ∧
  (bindO (eLd tb 30 (.ptr M8.next 0) M10) fun y17 => ∃ (z18 : Int) (z19 : Int), y17.1 = (.agg [(.val (.int .i64 z18)), (.val (.int .i64 z19))]) ∧
  (CallA tb.P 111 [(.agg [(.val (.int .i64 z12)), (.val (.int .i64 z13)), (.val (.int .i64 z14)), (.val (.int .i64 z15)), (.val (.int .i64 z16))]), (.agg [(.val (.int .i64 z18)), (.val (.int .i64 z19))])] M10 fun y20 M21 => zI .i64 y20 fun z22 => letP (fun (b36 : Bool) (M37 : Mem) => condB (b36) (bindO (eSt tb 30 (.ptr M9.next 0) (.agg [(.val (.int .i64 0)), (.val (.int .i64 0))]) M37) fun y39 => bindO (eRes tb [.c 30 (.ptr M9.next 0), .v (.val (.bool false))] y39.2) fun x40 => Q x40 y39.2) (bindO (eLd tb 3 (.ptr M.next 1) M37) fun y41 => zI .i64 y41.1 fun z42 => bindO (eBin tb .quo 3 (.tmp 28) (.tmp 30) (.val (.int .i64 (iAdd .i64 z22 1))) (.val (.int .i64 z42)) M37) fun y43 => zI .i64 y43.1 fun z44 => bindO (eLd tb 3 (.ptr M.next 1) M37) fun y45 => zI .i64 y45.1 fun z46 => bindO (eBin tb .rem 3 (.tmp 32) (.tmp 34) (.val (.int .i64 (iAdd .i64 z22 1))) (.val (.int .i64 z46)) M37) fun y47 => zI .i64 y47.1 fun z48 => bindO (eSt tb 30 (.ptr M9.next 0) (.agg [(.val (.int .i64 z44)), (.val (.int .i64 z48))]) M37) fun y49 => bindO (eRes tb [.c 30 (.ptr M9.next 0), .v (.val (.bool true))] y49.2) fun x50 => Q x50 y49.2)) fun K38 => bindO (eLd tb 23 (.ptr M.next 0) M21) fun y23 => ∃ (z24 : Int) (z25 : Int) (z26 : Int) (z27 : Int) (z28 : Int), y23.1 =
  (.agg [(.val (.int .i64 z24)), (.val (.int .i64 z25)), (.val (.int .i64 z26)), (.val (.int .i64 z27)), (.val (.int .i64 z28))]) ∧
  (CallA tb.P 102 [(.agg [(.val (.int .i64 z24)), (.val (.int .i64 z25)), (.val (.int .i64 z26)), (.val (.int .i64 z27)), (.val (.int .i64 z28))])] M21 fun y29 M30 => zB y29 fun b31 => condB (!b31) (K38 true M30) (condB ((iAdd .i64 z22 1) ==
  (0 : Int)) (K38 true M30) (bindO (eLd tb 3 (.ptr M.next 0) M30) fun y32 => zI .i64 y32.1 fun z33 => bindO (eLd tb 3 (.ptr M.next 1) M30) fun y34 => zI .i64 y34.1 fun z35 => K38 ((iAdd .i64 z22 1) ==
  (iMul .i64 z33 z35)) M30)))))
def an114 : An := (.seq (.reg []) (.seq (.reg [.agg [.int .i64, .int .i64, .int .i64, .int .i64, .int .i64], .agg [.int .i64, .int .i64], .int .i64, .int .i64]) (.seq (.seq (.reg [.agg [.int .i64, .int .i64, .int .i64, .int .i64, .int .i64], .bool, .bool, .spl, .non, .bool, .non, .spl, .non, .ptr, .int .i64, .ptr, .int .i64, .int .i64, .bool]) (.cnd (.seq (.reg []) .z) .z)) (.seq (.opn [(0, []), (1, []), (4, []), (5, []), (2, []), (3, []), (6, []), (7, []), (8, []), (9, []), (10, [])] [] [] 0 [.non, .ptr, .non, .ptr, .int .i64, .int .i64, .int .i64, .int .i64, .non, .non, .non]) .z))))
theorem fn114 : tb.fn.get 114 = some Try.f114 := by kernel_rfl
theorem an114_ok : anB tb Try.f114.ntmps an114 (bodyOf Try.f114) = true := by kernel_rfl
theorem F114_eq : (fun (a0 a1 : AV) (M : Mem) (Q : AV → Mem → Prop) => zCs [.a [.int .i64, .int .i64, .int .i64, .int .i64, .int .i64], .a [.int .i64, .int .i64]] [a0, a1] fun args => wZ tb an114 (bodyOf Try.f114) (enterA Try.f114 args M) (retQ tb Try.f114 Q)) = fun (a0 a1 : AV) (M : Mem) (Q : AV → Mem → Prop) => F114 a0 a1 M Q := by kernel_rfl
theorem F114_ok {a0 a1 : AV} {M : Mem} {Q : AV → Mem → Prop} (h : F114 a0 a1 M Q) : CallA tb.P 114 [a0, a1] M Q :=
  calla_wZ tb_ok tb_mix fn114 (c := bodyOf Try.f114) rfl an114_ok (ks := [.a [.int .i64, .int .i64, .int .i64, .int .i64, .int .i64], .a [.int .i64, .int .i64]]) (cast (congrFun (congrFun (congrFun (congrFun F114_eq a0) a1) M) Q).symm h)

def F115 (a0 : AV) (M : Mem) (Q : AV → Mem → Prop) : Prop :=
  letP (M.new (.cells [(.val (.int .i64 0)), (.val (.int .i64 0)), (.val (.int .i64 0)), (.val (.int .i64 0))] true)) fun M1 => bindO (eLen tb false 33 a0 M1) fun y2 => zI .i64 y2.1 fun z3 => CallA tb.P 128 [(.val (.int .i64 (iSub .i64 z3 16))), (.val (.int .i64 24)), (.val (.int .i64 64))] M1 fun y4 M5 => zB y4 fun b6 => condB (!b6) (bindO (eSt tb 76 (.ptr M.next 0) (.agg [(.val (.int .i64 0)), (.val (.int .i64 0)), (.val (.int .i64 0)), (.val (.int .i64 0))]) M5) fun y7 => bindO (eRes tb [.v (.val (.slice none 0 0)), .c 76 (.ptr M.next 0), .v (.val (.int .i64 2))] y7.2) fun x8 => Q x8 y7.2) (CallA tb.P 129 [a0, (.fn 130 [] [])] M5 fun y9 M10 => zB y9 fun b11 => condB (!b11) (bindO (eSt tb 76 (.ptr M.next 0) (.agg [(.val (.int .i64 0)), (.val (.int .i64 0)), (.val (.int .i64 0)), (.val (.int .i64 0))]) M10) fun y12 => bindO (eRes tb [.v (.val (.slice none 0 0)), .c 76 (.ptr M.next 0), .v (.val (.int .i64 0))] y12.2) fun x13 => Q x13 y12.2) (bindO (eSl tb 33 a0 (some (.val (.int .i64 (iSub .i64 z3 16)))) none none M10) fun y14 => letP (⟨M10.next + 1, M10.rows⟩ : Mem) fun M15 => bindO (eIA tb 33 y14.1 (.val (.int .i64 1)) M15) fun y16 => zP y16.1 fun p17 o18 => bindO (eSl tb 33 y14.1 (some (.val (.int .i64 2))) (some (.val (.int .i64 4))) none M15) fun y19 => bindO (eSl tb 33 y14.1 (some (.val (.int .i64 4))) (some (.val (.int .i64 8))) none M15) fun y20 => bindO (eSl tb 33 y14.1 (some (.val (.int .i64 8))) (some (.val (.int .i64 11))) none M15) fun y21 => bindO (eLd tb 5 (.ptr p17 o18) M15) fun y22 => zI .u8 y22.1 fun z23 => CallA tb.P 131 [y19.1] M15 fun y24 M25 => zI .i64 y24 fun z26 => (bindO (eLd tb 5 (.ptr p17 o18) M25) fun y27 => (some (.val (.int .u8 z23)) : Option AV) =
  some y27.1) ∧ (CallA tb.P 131 [y20.1] M25 fun y28 M29 => zI .i64 y28 fun z30 => (bindO (eLd tb 5 (.ptr p17 o18) M29) fun y31 => (some (.val (.int .u8 z23)) : Option AV) = some y31.1) ∧
  (CallA tb.P 131 [y21.1] M29 fun y32 M33 => zI .i64 y32 fun z34 => (bindO (eLd tb 5 (.ptr p17 o18) M33) fun y35 => (some (.val (.int .u8 z23)) : Option AV) = some y35.1) ∧
  (letP (M33.put M10.next (.cells [(.val (.int .i64 0)), (.val (.int .i64 0)), (.val (.int .i64 0)), (.val (.int .i64 0))] true)) fun M36 => bindO (eSt tb 76 (.ptr M10.next 0) (.agg [(.val (.int .i64 (IntKind.wrap .i64 z23))), (.val (.int .i64 z26)), (.val (.int .i64 z30)), (.val (.int .i64 z34))]) M36) fun y37 => letP (fun (b64 : Bool) (M65 : Mem) => condB (b64) (bindO (eSt tb 76 (.ptr M.next 0) (.agg [(.val (.int .i64 0)), (.val (.int .i64 0)), (.val (.int .i64 0)), (.val (.int .i64 0))]) M65) fun y67 => bindO (eRes tb [.v (.val (.slice none 0 0)), .c 76 (.ptr M.next 0), .v (.val (.int .i64 2))] y67.2) fun x68 => Q x68 y67.2) (bindO (eSl tb 33 a0 none (some (.val (.int .i64 (iSub .i64 z3 16)))) none M65) fun y69 => bindO (eLd tb 76 (.ptr M10.next 0) M65) fun y70 => ∃ (z71 : Int) (z72 : Int) (z73 : Int) (z74 : Int), y70.1 =
  (.agg [(.val (.int .i64 z71)), (.val (.int .i64 z72)), (.val (.int .i64 z73)), (.val (.int .i64 z74))]) ∧
  (CallA tb.P 72 [y69.1] M65 fun y75 M76 => (bindO (eLd tb 76 (.ptr M10.next 0) M76) fun y77 => (some (.agg [(.val (.int .i64 z71)), (.val (.int .i64 z72)), (.val (.int .i64 z73)), (.val (.int .i64 z74))]) : Option AV) =
  some y77.1) ∧
  (bindO (eSt tb 76 (.ptr M.next 0) (.agg [(.val (.int .i64 z71)), (.val (.int .i64 z72)), (.val (.int .i64 z73)), (.val (.int .i64 z74))]) M76) fun y78 => bindO (eRes tb [.v y75, .c 76 (.ptr M.next 0), .v (.val (.int .i64 1))] y78.2) fun x79 => Q x79 y78.2)))) fun K66 => bindO (eIA tb 33 y14.1 (.val (.int .i64 0)) y37.2) fun y38 => zP y38.1 fun p39 o40 => bindO (eLd tb 5 (.ptr p39 o40) y37.2) fun y41 => zI .u8 y41.1 fun z42 => condB (z42 !=
  (74 : Int)) (K66 true y37.2) (bindO (eIA tb 33 y14.1 (.val (.int .i64 15)) y37.2) fun y43 => zP y43.1 fun p44 o45 => bindO (eLd tb 5 (.ptr p44 o45) y37.2) fun y46 => zI .u8 y46.1 fun z47 => condB (z47 !=
  (0 : Int)) (K66 true y37.2) (bindO (eSl tb 33 y14.1 (some (.val (.int .i64 11))) (some (.val (.int .i64 15))) none y37.2) fun y48 => bindO (eSl tb 33 a0 none (some (.val (.int .i64 (iAdd .i64 (iSub .i64 z3 16) 11)))) none y37.2) fun y49 => CallA tb.P 131 [y48.1] y37.2 fun y50 M51 => zI .i64 y50 fun z52 => CallA tb.P 132 [y49.1] M51 fun y53 M54 => zI .u32 y53 fun z55 => condB (z52 !=
  (IntKind.wrap .i64 z55)) (K66 true M54) (bindO (eLd tb 76 (.ptr M10.next 0) M54) fun y56 => ∃ (z57 : Int) (z58 : Int) (z59 : Int) (z60 : Int), y56.1 =
  (.agg [(.val (.int .i64 z57)), (.val (.int .i64 z58)), (.val (.int .i64 z59)), (.val (.int .i64 z60))]) ∧
  (CallA tb.P 133 [(.agg [(.val (.int .i64 z57)), (.val (.int .i64 z58)), (.val (.int .i64 z59)), (.val (.int .i64 z60))])] M54 fun y61 M62 => zB y61 fun b63 => K66 (!b63) M62)))))))))
def an115 : An := (.seq (.reg []) (.seq (.reg [.non, .int .i64, .int .i64]) (.seq (.seq (.reg [.non, .bool, .bool]) (.cnd (.seq (.reg []) .z) .z)) (.seq (.seq (.reg [.non, .bool, .bool]) (.cnd (.seq (.reg []) .z) .z)) (.seq (.reg []) (.seq (.opn [(0, []), (1, []), (4, []), (5, []), (7, []), (8, []), (10, []), (11, []), (2, []), (3, []), (6, [2]), (9, [2]), (12, [2]), (13, []), (14, []), (15, [])] [0, 0, 0, 0, 0, 0, 0, 0, 0, 0, 0, 0, 0, 0, 0, 0] [[], [], [], [], [], [], [2], [], [], [2], [], [], [2]] 1 [.non, .ptr, .non, .non, .non, .non, .non, .non, .int .u8, .int .i64, .int .i64, .int .i64, .int .i64, .non, .non, .non]) (.seq (.seq (.opn [(0, []), (1, []), (2, []), (3, []), (4, []), (5, []), (6, []), (7, []), (8, []), (9, []), (10, []), (11, []), (12, []), (14, []), (15, []), (16, []), (17, []), (13, []), (18, []), (19, []), (20, []), (21, []), (22, []), (23, []), (24, []), (25, []), (26, [])] [] [] 0 [.non, .ptr, .int .u8, .bool, .spl, .non, .ptr, .int .u8, .bool, .non, .spl, .non, .non, .non, .non, .int .i64, .non, .int .i64, .int .u32, .int .i64, .bool, .non, .spl, .agg [.int .i64, .int .i64, .int .i64, .int .i64], .bool, .bool, .non]) (.cnd (.seq (.reg []) .z) .z)) (.seq (.opn [(0, []), (1, []), (2, []), (4, []), (3, [4]), (5, []), (6, []), (7, [])] [] [[], [], [], [4]] 0 [.non, .non, .non, .agg [.int .i64, .int .i64, .int .i64, .int .i64], .non, .non, .non, .non]) .z))))))))
theorem fn115 : tb.fn.get 115 = some Try.f115 := by kernel_rfl
theorem an115_ok : anB tb Try.f115.ntmps an115 (bodyOf Try.f115) = true := by kernel_rfl
theorem F115_eq : (fun (a0 : AV) (M : Mem) (Q : AV → Mem → Prop) => zCs [.l .any] [a0] fun args => wZ tb an115 (bodyOf Try.f115) (enterA Try.f115 args M) (retQ tb Try.f115 Q)) = fun (a0 : AV) (M : Mem) (Q : AV → Mem → Prop) => F115 a0 M Q := by kernel_rfl
theorem F115_ok {a0 : AV} {M : Mem} {Q : AV → Mem → Prop} (h : F115 a0 M Q) : CallA tb.P 115 [a0] M Q :=
  calla_wZ tb_ok tb_mix fn115 (c := bodyOf Try.f115) rfl an115_ok (ks := [.l .any]) (cast (congrFun (congrFun (congrFun F115_eq a0) M) Q).symm h)

def F122 (a0 a1 : AV) (M : Mem) (Q : AV → Mem → Prop) : Prop :=
  zI .u32 a0 fun z1 => bindO (eUn tb .xor (.val (.int .u32 z1)) M) fun y2 => zI .u32 y2.1 fun z3 => ∃ J4 : Int → Int → Nat → Mem → Prop, (∃ n5 : Nat, J4 z3 (0 : Int) n5 M) ∧
  ∀ (_ : Nat → Option AV) (z6 : Int) (z7 : Int) (n8 : Nat) (M9 : Mem), J4 z6 z7 n8 M9 →
  (bindO (eLen tb false 33 a1 M9) fun y10 => zI .i64 y10.1 fun z11 => condB (decide (z7 < z11)) (bindO (eIA tb 33 a1 (.val (.int .i64 z7)) M9) fun y12 => zP y12.1 fun p13 o14 => bindO (eLd tb 5 (.ptr p13 o14) M9) fun y15 => zI .u8 y15.1 fun z16 => ∃ J17 : Int → Int → Int → Nat → Mem → Prop, (∃ n18 : Nat, J17 z6 (IntKind.wrap .u32 z16) (0 : Int) n18 M9) ∧
  ∀ (_ : Nat → Option AV) (z19 : Int) (z20 : Int) (z21 : Int) (n22 : Nat) (M23 : Mem), J17 z19 z20 z21 n22 M23 → (condB (decide (z21 < (8 : Int))) (letP (fun (z24 : Int) => ∃ k26 : Nat, k26 < n22 ∧
  (J17 z24 (iShr .u32 z20 1) (iAdd .i64 z21 1) k26 M23)) fun K25 => condB ((iAnd .u32 (iXor .u32 z19 z20) 1) ==
  (1 : Int)) (K25 (iXor .u32 (iShr .u32 z19 1) 3988292384)) (K25 (iShr .u32 z19 1))) (∃ k27 : Nat, k27 < n8 ∧
  (J4 z19 (iAdd .i64 z7 1) k27 M23)))) (bindO (eUn tb .xor (.val (.int .u32 z6)) M9) fun y28 => zI .u32 y28.1 fun z29 => Q (.val (.int .u32 z29)) M9))
def an122 : An := (.seq (.reg []) (.seq (.reg [.non, .int .u32]) (.seq (.seq (.reg []) (.blk (.lop [(5, .int .u32), (6, .int .i64)] [7, 8, 9, 12, 13, 14, 15, 16, 17, 18, 19, 20, 21, 22, 23, 24, 25, 26, 27, 28, 29, 30, 31, 32, 33, 34, 35, 36, 37, 38] (.seq (.seq (.reg [.non, .non, .int .i64, .bool]) (.cnd .z .z)) (.seq (.blk (.seq (.reg [.non, .non, .ptr, .int .u8, .int .u32]) (.seq (.reg []) (.blk (.lop [(5, .int .u32), (7, .int .u32), (8, .int .i64)] [9, 23, 24, 25, 26, 27, 28, 29, 30, 31, 32, 33, 34, 35, 36, 37, 38] (.seq (.seq (.reg [.non, .bool]) (.cnd .z .z)) (.seq (.blk (.seq (.reg [.non, .non, .int .u32, .int .u32]) (.seq (.reg [.non, .int .u32]) (.seq (.reg [.non, .int .u32]) (.seq (.reg [.non, .bool]) (.cnd (.reg [.non, .int .u32]) .z)))))) (.reg [.non, .int .i64])))))))) (.reg [.non, .int .i64])))))) (.seq (.reg [.non, .int .u32]) .z))))
theorem fn122 : tb.fn.get 122 = some Try.f122 := by kernel_rfl
theorem an122_ok : anB tb Try.f122.ntmps an122 (bodyOf Try.f122) = true := by kernel_rfl
theorem F122_eq : (fun (a0 a1 : AV) (M : Mem) (Q : AV → Mem → Prop) => zCs [.l (.int .u32), .l .any] [a0, a1] fun args => wZ tb an122 (bodyOf Try.f122) (enterA Try.f122 args M) (retQ tb Try.f122 Q)) = fun (a0 a1 : AV) (M : Mem) (Q : AV → Mem → Prop) => F122 a0 a1 M Q := by kernel_rfl
theorem F122_ok {a0 a1 : AV} {M : Mem} {Q : AV → Mem → Prop} (h : F122 a0 a1 M Q) : CallA tb.P 122 [a0, a1] M Q :=
  calla_wZ tb_ok tb_mix fn122 (c := bodyOf Try.f122) rfl an122_ok (ks := [.l (.int .u32), .l .any]) (cast (congrFun (congrFun (congrFun (congrFun F122_eq a0) a1) M) Q).symm h)

def F128 (a0 a1 a2 : AV) (M : Mem) (Q : AV → Mem → Prop) : Prop :=
  zI .i64 a0 fun z1 => zI .i64 a1 fun z2 => zI .i64 a2 fun z3 => letP (fun (b4 : Bool) => Q (.val (.bool b4)) M) fun K5 => condB (decide (z1 ≥ z2)) (K5 (decide (z1 ≤ z3))) (K5 false)
def an128 : An := (.seq (.reg []) (.seq (.reg [.non, .non, .bool, .spl, .non, .non, .bool]) .z))
theorem fn128 : tb.fn.get 128 = some Try.f128 := by kernel_rfl
theorem an128_ok : anB tb Try.f128.ntmps an128 (bodyOf Try.f128) = true := by kernel_rfl
theorem F128_eq : (fun (a0 a1 a2 : AV) (M : Mem) (Q : AV → Mem → Prop) => zCs [.l (.int .i64), .l (.int .i64), .l (.int .i64)] [a0, a1, a2] fun args => wZ tb an128 (bodyOf Try.f128) (enterA Try.f128 args M) (retQ tb Try.f128 Q)) = fun (a0 a1 a2 : AV) (M : Mem) (Q : AV → Mem → Prop) => F128 a0 a1 a2 M Q := by kernel_rfl
theorem F128_ok {a0 a1 a2 : AV} {M : Mem} {Q : AV → Mem → Prop} (h : F128 a0 a1 a2 M Q) : CallA tb.P 128 [a0, a1, a2] M Q :=
  calla_wZ tb_ok tb_mix fn128 (c := bodyOf Try.f128) rfl an128_ok (ks := [.l (.int .i64), .l (.int .i64), .l (.int .i64)]) (cast (congrFun (congrFun (congrFun (congrFun (congrFun F128_eq a0) a1) a2) M) Q).symm h)

def F129 (a0 a1 : AV) (M : Mem) (Q : AV → Mem → Prop) : Prop :=
  CallA tb.P 137 [a0, a1] M fun y1 M2 => zI .i64 y1 fun z3 => Q (.val (.bool (decide (z3 ≥ (0 : Int))))) M2
def an129 : An := (.seq (.reg []) (.seq (.reg [.non, .non, .int .i64, .bool]) .z))
theorem fn129 : tb.fn.get 129 = some Try.f129 := by kernel_rfl
theorem an129_ok : anB tb Try.f129.ntmps an129 (bodyOf Try.f129) = true := by kernel_rfl
theorem F129_eq : (fun (a0 a1 : AV) (M : Mem) (Q : AV → Mem → Prop) => zCs [.l .any, .l .any] [a0, a1] fun args => wZ tb an129 (bodyOf Try.f129) (enterA Try.f129 args M) (retQ tb Try.f129 Q)) = fun (a0 a1 : AV) (M : Mem) (Q : AV → Mem → Prop) => F129 a0 a1 M Q := by kernel_rfl
theorem F129_ok {a0 a1 : AV} {M : Mem} {Q : AV → Mem → Prop} (h : F129 a0 a1 M Q) : CallA tb.P 129 [a0, a1] M Q :=
  calla_wZ tb_ok tb_mix fn129 (c := bodyOf Try.f129) rfl an129_ok (ks := [.l .any, .l .any]) (cast (congrFun (congrFun (congrFun (congrFun F129_eq a0) a1) M) Q).symm h)

def F130 (a0 : AV) (M : Mem) (Q : AV → Mem → Prop) : Prop :=
  zI .u8 a0 fun z1 => Q (.val (.bool (z1 != (255 : Int)))) M
def an130 : An := (.seq (.reg []) (.seq (.reg [.non, .bool]) .z))
theorem fn130 : tb.fn.get 130 = some Try.f130 := by kernel_rfl
theorem an130_ok : anB tb Try.f130.ntmps an130 (bodyOf Try.f130) = true := by kernel_rfl
theorem F130_eq : (fun (a0 : AV) (M : Mem) (Q : AV → Mem → Prop) => zCs [.l (.int .u8)] [a0] fun args => wZ tb an130 (bodyOf Try.f130) (enterA Try.f130 args M) (retQ tb Try.f130 Q)) = fun (a0 : AV) (M : Mem) (Q : AV → Mem → Prop) => F130 a0 M Q := by kernel_rfl
theorem F130_ok {a0 : AV} {M : Mem} {Q : AV → Mem → Prop} (h : F130 a0 M Q) : CallA tb.P 130 [a0] M Q :=
  calla_wZ tb_ok tb_mix fn130 (c := bodyOf Try.f130) rfl an130_ok (ks := [.l (.int .u8)]) (cast (congrFun (congrFun (congrFun F130_eq a0) M) Q).symm h)

def F131 (a0 : AV) (M : Mem) (Q : AV → Mem → Prop) : Prop :=
  bindO (eLen tb false 33 a0 M) fun y1 => zI .i64 y1.1 fun z2 => ∃ J3 : Int → Int → Nat → Mem → Prop, (∃ n4 : Nat, J3 (0 : Int) (0 : Int) n4 M) ∧
  ∀ (_ : Nat → Option AV) (z5 : Int) (z6 : Int) (n7 : Nat) (M8 : Mem), J3 z5 z6 n7 M8 →
  (condB (decide (z6 < z2)) (bindO (eIA tb 33 a0 (.val (.int .i64 z6)) M8) fun y9 => zP y9.1 fun p10 o11 => bindO (eLd tb 5 (.ptr p10 o11) M8) fun y12 => zI .u8 y12.1 fun z13 => ∃ k14 : Nat, k14 < n7 ∧
  (J3 (iOr .i64 (iShl .i64 z5 8) (IntKind.wrap .i64 z13)) (iAdd .i64 z6 1) k14 M8)) (Q (.val (.int .i64 z5)) M8))
def an131 : An := (.seq (.reg []) (.seq (.reg []) (.seq (.seq (.reg [.non, .int .i64]) (.blk (.lop [(3, .int .i64), (8, .int .i64)] [5, 9, 10, 11, 12, 13, 14, 15, 16, 17] (.seq (.reg []) (.seq (.cnd .z .z) (.seq (.blk (.seq (.reg [.ptr, .int .u8]) (.reg [.non, .int .i64, .non, .int .i64, .int .i64]))) (.reg [.int .i64]))))))) (.seq (.reg []) .z))))
theorem fn131 : tb.fn.get 131 = some Try.f131 := by kernel_rfl
theorem an131_ok : anB tb Try.f131.ntmps an131 (bodyOf Try.f131) = true := by kernel_rfl
theorem F131_eq : (fun (a0 : AV) (M : Mem) (Q : AV → Mem → Prop) => zCs [.l .any] [a0] fun args => wZ tb an131 (bodyOf Try.f131) (enterA Try.f131 args M) (retQ tb Try.f131 Q)) = fun (a0 : AV) (M : Mem) (Q : AV → Mem → Prop) => F131 a0 M Q := by kernel_rfl
theorem F131_ok {a0 : AV} {M : Mem} {Q : AV → Mem → Prop} (h : F131 a0 M Q) : CallA tb.P 131 [a0] M Q :=
  calla_wZ tb_ok tb_mix fn131 (c := bodyOf Try.f131) rfl an131_ok (ks := [.l .any]) (cast (congrFun (congrFun (congrFun F131_eq a0) M) Q).symm h)

def F132 (a0 : AV) (M : Mem) (Q : AV → Mem → Prop) : Prop :=
  CallA tb.P 138 [(.val (.int .u32 0)), a0] M fun y1 M2 => zI .u32 y1 fun z3 => Q (.val (.int .u32 z3)) M2
def an132 : An := (.seq (.reg []) (.seq (.reg [.non, .int .u32]) .z))
theorem fn132 : tb.fn.get 132 = some Try.f132 := by kernel_rfl
theorem an132_ok : anB tb Try.f132.ntmps an132 (bodyOf Try.f132) = true := by kernel_rfl
theorem F132_eq : (fun (a0 : AV) (M : Mem) (Q : AV → Mem → Prop) => zCs [.l .any] [a0] fun args => wZ tb an132 (bodyOf Try.f132) (enterA Try.f132 args M) (retQ tb Try.f132 Q)) = fun (a0 : AV) (M : Mem) (Q : AV → Mem → Prop) => F132 a0 M Q := by kernel_rfl
theorem F132_ok {a0 : AV} {M : Mem} {Q : AV → Mem → Prop} (h : F132 a0 M Q) : CallA tb.P 132 [a0] M Q :=
  calla_wZ tb_ok tb_mix fn132 (c := bodyOf Try.f132) rfl an132_ok (ks := [.l .any]) (cast (congrFun (congrFun (congrFun F132_eq a0) M) Q).symm h)

def F133 (a0 : AV) (M : Mem) (Q : AV → Mem → Prop) : Prop :=
  ∃ (z1 : Int) (z2 : Int) (z3 : Int) (z4 : Int), a0 = (.agg [(.val (.int .i64 z1)), (.val (.int .i64 z2)), (.val (.int .i64 z3)), (.val (.int .i64 z4))]) ∧
  letP (M.new (.cells [(.val (.int .i64 z1)), (.val (.int .i64 z2)), (.val (.int .i64 z3)), (.val (.int .i64 z4))] true)) fun M5 => letP (fun (b40 : Bool) (M41 : Mem) => Q (.val (.bool b40)) M41) fun K42 => bindO (eLd tb 3 (.ptr M.next 0) M5) fun y6 => zI .i64 y6.1 fun z7 => CallA tb.P 128 [(.val (.int .i64 z7)), (.val (.int .i64 1)), (.val (.int .i64 3))] M5 fun y8 M9 => zB y8 fun b10 => condB (b10) (bindO (eLd tb 3 (.ptr M.next 1) M9) fun y11 => zI .i64 y11.1 fun z12 => CallA tb.P 128 [(.val (.int .i64 z12)), (.val (.int .i64 0)), (.val (.int .i64 65535))] M9 fun y13 M14 => zB y13 fun b15 => condB (b15) (bindO (eLd tb 3 (.ptr M.next 0) M14) fun y16 => zI .i64 y16.1 fun z17 => condB (z17 !=
  (3 : Int)) (bindO (eLd tb 3 (.ptr M.next 2) M14) fun y18 => zI .i64 y18.1 fun z19 => CallA tb.P 128 [(.val (.int .i64 z19)), (.val (.int .i64 0)), (.val (.int .i64 4294967295))] M14 fun y20 M21 => zB y20 fun b22 => condB (b22) (bindO (eLd tb 3 (.ptr M.next 3) M21) fun y23 => zI .i64 y23.1 fun z24 => CallA tb.P 128 [(.val (.int .i64 z24)), (.val (.int .i64 0)), (.val (.int .i64 16777215))] M21 fun y25 M26 => zB y25 fun b27 => K42 b27 M26) (K42 false M21)) (bindO (eLd tb 3 (.ptr M.next 1) M14) fun y28 => zI .i64 y28.1 fun z29 => condB (z29 ==
  (0 : Int)) (bindO (eLd tb 3 (.ptr M.next 2) M14) fun y30 => zI .i64 y30.1 fun z31 => CallA tb.P 128 [(.val (.int .i64 z31)), (.val (.int .i64 0)), (.val (.int .i64 4294967295))] M14 fun y32 M33 => zB y32 fun b34 => condB (b34) (bindO (eLd tb 3 (.ptr M.next 3) M33) fun y35 => zI .i64 y35.1 fun z36 => CallA tb.P 128 [(.val (.int .i64 z36)), (.val (.int .i64 0)), (.val (.int .i64 16777215))] M33 fun y37 M38 => zB y37 fun b39 => K42 b39 M38) (K42 false M33)) (K42 false M14))) (K42 false M14)) (K42 false M9)
def an133 : An := (.seq (.reg []) (.seq (.reg [.ptr, .int .i64, .bool, .spl, .ptr, .int .i64, .bool, .non, .spl, .ptr, .int .i64, .bool, .spl, .ptr, .int .i64, .bool, .non, .non, .spl, .ptr, .int .i64, .bool, .non, .spl, .ptr, .int .i64, .bool]) .z))
theorem fn133 : tb.fn.get 133 = some Try.f133 := by kernel_rfl
theorem an133_ok : anB tb Try.f133.ntmps an133 (bodyOf Try.f133) = true := by kernel_rfl
theorem F133_eq : (fun (a0 : AV) (M : Mem) (Q : AV → Mem → Prop) => zCs [.a [.int .i64, .int .i64, .int .i64, .int .i64]] [a0] fun args => wZ tb an133 (bodyOf Try.f133) (enterA Try.f133 args M) (retQ tb Try.f133 Q)) = fun (a0 : AV) (M : Mem) (Q : AV → Mem → Prop) => F133 a0 M Q := by kernel_rfl
theorem F133_ok {a0 : AV} {M : Mem} {Q : AV → Mem → Prop} (h : F133 a0 M Q) : CallA tb.P 133 [a0] M Q :=
  calla_wZ tb_ok tb_mix fn133 (c := bodyOf Try.f133) rfl an133_ok (ks := [.a [.int .i64, .int .i64, .int .i64, .int .i64]]) (cast (congrFun (congrFun (congrFun F133_eq a0) M) Q).symm h)

def F137 (a0 a1 : AV) (M : Mem) (Q : AV → Mem → Prop) : Prop :=
  bindO (eLen tb false 33 a0 M) fun y1 => zI .i64 y1.1 fun z2 => ∃ J3 : Int → Nat → Mem → Prop, (∃ n4 : Nat, J3 (0 : Int) n4 M) ∧ ∀ (_ : Nat → Option AV) (z5 : Int) (n6 : Nat) (M7 : Mem), J3 z5 n6 M7 →
  (condB (decide (z5 < z2)) (bindO (eIA tb 33 a0 (.val (.int .i64 z5)) M7) fun y8 => zP y8.1 fun p9 o10 => bindO (eLd tb 5 (.ptr p9 o10) M7) fun y11 => zI .u8 y11.1 fun z12 => eCall tb a1 [(.val (.int .u8 z12))] M7 fun y13 M14 => zB y13 fun b15 => condB (b15) (Q (.val (.int .i64 z5)) M14) (∃ k16 : Nat, k16 < n6 ∧
  (J3 (iAdd .i64 z5 1) k16 M14))) (Q (.val (.int .i64 (-1))) M7))
def an137 : An := (.seq (.reg []) (.seq (.seq (.reg [.non, .int .i64]) (.blk (.lop [(8, .int .i64)] [4, 5, 9, 10, 11, 12, 13, 14, 15, 16, 17, 18] (.seq (.reg []) (.seq (.cnd .z .z) (.seq (.blk (.seq (.reg []) (.seq (.reg [.non, .non, .non, .ptr, .int .u8, .bool]) (.cnd (.seq (.reg []) .z) .z)))) (.reg [.int .i64]))))))) (.seq (.reg []) .z)))
theorem fn137 : tb.fn.get 137 = some Try.f137 := by kernel_rfl
theorem an137_ok : anB tb Try.f137.ntmps an137 (bodyOf Try.f137) = true := by kernel_rfl
theorem F137_eq : (fun (a0 a1 : AV) (M : Mem) (Q : AV → Mem → Prop) => zCs [.l .any, .l .any] [a0, a1] fun args => wZ tb an137 (bodyOf Try.f137) (enterA Try.f137 args M) (retQ tb Try.f137 Q)) = fun (a0 a1 : AV) (M : Mem) (Q : AV → Mem → Prop) => F137 a0 a1 M Q := by kernel_rfl
theorem F137_ok {a0 a1 : AV} {M : Mem} {Q : AV → Mem → Prop} (h : F137 a0 a1 M Q) : CallA tb.P 137 [a0, a1] M Q :=
  calla_wZ tb_ok tb_mix fn137 (c := bodyOf Try.f137) rfl an137_ok (ks := [.l .any, .l .any]) (cast (congrFun (congrFun (congrFun (congrFun F137_eq a0) a1) M) Q).symm h)

def F138 (a0 a1 : AV) (M : Mem) (Q : AV → Mem → Prop) : Prop :=
  zI .u32 a0 fun z1 => bindO (eUn tb .xor (.val (.int .u32 z1)) M) fun y2 => zI .u32 y2.1 fun z3 => bindO (eLen tb false 33 a1 M) fun y4 => zI .i64 y4.1 fun z5 => ∃ J6 : Int → Int → Nat → Mem → Prop, (∃ n7 : Nat, J6 z3 (0 : Int) n7 M) ∧
  ∀ (_ : Nat → Option AV) (z8 : Int) (z9 : Int) (n10 : Nat) (M11 : Mem), J6 z8 z9 n10 M11 →
  (condB (decide (z9 < z5)) (bindO (eIA tb 33 a1 (.val (.int .i64 z9)) M11) fun y12 => zP y12.1 fun p13 o14 => bindO (eLd tb 5 (.ptr p13 o14) M11) fun y15 => zI .u8 y15.1 fun z16 => ∃ J17 : Int → Int → Nat → Mem → Prop, (∃ n18 : Nat, J17 (iXor .u32 z8 (IntKind.wrap .u32 z16)) (0 : Int) n18 M11) ∧
  ∀ (_ : Nat → Option AV) (z19 : Int) (z20 : Int) (n21 : Nat) (M22 : Mem), J17 z19 z20 n21 M22 → (condB (decide (z20 < (8 : Int))) (letP (fun (z23 : Int) => ∃ k25 : Nat, k25 < n21 ∧
  (J17 z23 (iAdd .i64 z20 1) k25 M22)) fun K24 => condB ((iAnd .u32 z19 1) == (1 : Int)) (K24 (iXor .u32 (iShr .u32 z19 1) 3988292384)) (K24 (iShr .u32 z19 1))) (∃ k26 : Nat, k26 < n10 ∧
  (J6 z19 (iAdd .i64 z9 1) k26 M22)))) (bindO (eUn tb .xor (.val (.int .u32 z8)) M11) fun y27 => zI .u32 y27.1 fun z28 => Q (.val (.int .u32 z28)) M11))
def an138 : An := (.seq (.reg []) (.seq (.reg [.non, .int .u32]) (.seq (.seq (.reg [.non, .int .i64]) (.blk (.lop [(5, .int .u32), (13, .int .i64)] [7, 8, 14, 15, 16, 17, 18, 19, 20, 21, 22, 23, 24, 25, 26, 27, 28, 29, 30, 31, 32] (.seq (.reg []) (.seq (.cnd .z .z) (.seq (.blk (.seq (.reg [.ptr, .int .u8]) (.seq (.reg [.non, .non, .int .u32, .int .u32]) (.seq (.reg []) (.blk (.lop [(5, .int .u32), (21, .int .i64)] [8, 22, 23, 24, 25, 26, 27, 28, 29, 30, 31] (.seq (.reg [.bool]) (.seq (.cnd .z .z) (.seq (.blk (.seq (.reg [.non, .int .u32]) (.seq (.reg [.non, .int .u32]) (.seq (.reg [.non, .bool]) (.cnd (.reg [.non, .int .u32]) .z))))) (.reg [.int .i64])))))))))) (.reg [.int .i64]))))))) (.seq (.reg [.non, .int .u32]) .z))))
theorem fn138 : tb.fn.get 138 = some Try.f138 := by kernel_rfl
theorem an138_ok : anB tb Try.f138.ntmps an138 (bodyOf Try.f138) = true := by kernel_rfl
theorem F138_eq : (fun (a0 a1 : AV) (M : Mem) (Q : AV → Mem → Prop) => zCs [.l (.int .u32), .l .any] [a0, a1] fun args => wZ tb an138 (bodyOf Try.f138) (enterA Try.f138 args M) (retQ tb Try.f138 Q)) = fun (a0 a1 : AV) (M : Mem) (Q : AV → Mem → Prop) => F138 a0 a1 M Q := by kernel_rfl
theorem F138_ok {a0 a1 : AV} {M : Mem} {Q : AV → Mem → Prop} (h : F138 a0 a1 M Q) : CallA tb.P 138 [a0, a1] M Q :=
  calla_wZ tb_ok tb_mix fn138 (c := bodyOf Try.f138) rfl an138_ok (ks := [.l (.int .u32), .l .any]) (cast (congrFun (congrFun (congrFun (congrFun F138_eq a0) a1) M) Q).symm h)

end Go.Proofs.Ytjffimbigamadaa
