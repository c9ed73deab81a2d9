import Derived.Test.YtfkkmhadipfobaaGreatA37
import Derived.Test.YtfkkmhadipfobaaGreatK0
set_option linter.unusedSimpArgs false
set_option linter.unusedVariables false
set_option linter.unusedSectionVars false
/- Functions as what has to be shown. (Printed by pr.py.) -/
namespace Go.Proofs.YtfkkmhadipfobaaGreat
open Go.AM
set_option maxRecDepth 100000
def F5 (a0 a1 : AV) (M : Mem) (Q : AV → Mem → Prop) : Prop :=
  zI .i64 a1 fun z1 => CallA tb.P 23 [a0, (.val (.int .i64 z1))] M fun y2 M3 => zI .i64 y2 fun z4 => condB (z4 !=
  (0 : Int)) (Q (.tup [(.val (.slice none 0 0)), (.val (.int .i64 z4))]) M3) (CallA tb.P 24 [a0, (.val (.int .i64 z1))] M3 fun y5 M6 => ∃ (x7 : AV) (b8 : Bool), y5 = (.tup [x7, (.val (.bool b8))]) ∧
  (condB (!b8) (Q (.tup [(.val (.slice none 0 0)), (.val (.int .i64 4))]) M6) (CallA tb.P 25 [x7] M6 fun y9 M10 => Q (.tup [y9, (.val (.int .i64 0))]) M10)))
def an5 : An := (.seq (.reg []) (.seq (.seq (.reg [.non, .non, .int .i64]) (.seq (.reg [.non, .bool]) (.cnd (.seq (.reg []) .z) .z))) (.seq (.reg [.non, .non, .tup [.l .any, .l .bool], .non, .non, .bool]) (.seq (.seq (.reg [.non, .bool]) (.cnd (.seq (.reg []) .z) .z)) (.seq (.reg []) .z)))))
theorem fn5 : tb.fn.get 5 = some Tryz.f5 := by kernel_rfl
theorem an5_ok : anB tb Tryz.f5.ntmps an5 (bodyOf Tryz.f5) = true := by kernel_rfl
theorem F5_eq : (fun (a0 a1 : AV) (M : Mem) (Q : AV → Mem → Prop) => zCs [.l .any, .l (.int .i64)] [a0, a1] fun args => wZ tb an5 (bodyOf Tryz.f5) (enterA Tryz.f5 args M) (retQ tb Tryz.f5 Q)) = fun (a0 a1 : AV) (M : Mem) (Q : AV → Mem → Prop) => F5 a0 a1 M Q := by kernel_rfl
theorem F5_ok {a0 a1 : AV} {M : Mem} {Q : AV → Mem → Prop} (h : F5 a0 a1 M Q) : CallA tb.P 5 [a0, a1] M Q :=
  calla_wZ tb_ok tb_mix fn5 (c := bodyOf Tryz.f5) rfl an5_ok (ks := [.l .any, .l (.int .i64)]) (cast (congrFun (congrFun (congrFun (congrFun F5_eq a0) a1) M) Q).symm h)

def F6 (a0 : AV) (M : Mem) (Q : AV → Mem → Prop) : Prop :=
  bindO (eBin tb .eql 33 (.tmp 15) (.const (.pointer none)) a0 (.val (.pointer none)) M) fun y1 => zB y1.1 fun b2 => condB (b2) (Q (.tup [(.val (.pointer none)), (.val (.int .i64 1))]) M) (CallA tb.P 26 [a0] M fun y3 M4 => zB y3 fun b5 => condB (!b5) (Q (.tup [(.val (.pointer none)), (.val (.int .i64 9))]) M4) (CallA tb.P 27 [a0] M4 fun y6 M7 => ∃ (z8 : Int) (z9 : Int) (z10 : Int) (z11 : Int) (z12 : Int), y6 =
  (.agg [(.val (.int .i64 z8)), (.val (.int .i64 z9)), (.val (.int .i64 z10)), (.val (.int .i64 z11)), (.val (.int .i64 z12))]) ∧
  (letP (M7.new (.map [])) fun M13 => letP (M13.new (.map [])) fun M14 => letP (M14.new (.map [])) fun M15 => letP (M15.new (.map [])) fun M16 => bindO (eBd tb 60 [(0, a0), (1, (.agg [(.val (.int .i64 z8)), (.val (.int .i64 z9)), (.val (.int .i64 z10)), (.val (.int .i64 z11)), (.val (.int .i64 z12))])), (2, (.map M7.next)), (3, (.map M13.next)), (4, (.map M14.next)), (5, (.map M15.next))] M16) fun y17 => ∃ (x18 : AV) (z19 : Int) (z20 : Int) (z21 : Int) (z22 : Int) (z23 : Int) (x24 : AV) (x25 : AV) (x26 : AV) (x27 : AV) (z28 : Int) (z29 : Int) (z30 : Int) (b31 : Bool), y17.1 =
  (.agg [x18, (.val (.int .i64 z19)), (.val (.int .i64 z20)), (.val (.int .i64 z21)), (.val (.int .i64 z22)), (.val (.int .i64 z23)), x24, x25, x26, x27, (.val (.int .i64 z28)), (.val (.int .i64 z29)), (.val (.int .i64 z30)), (.val (.bool b31))]) ∧
  (letP (M16.new (.cells [x18, (.val (.int .i64 z19)), (.val (.int .i64 z20)), (.val (.int .i64 z21)), (.val (.int .i64 z22)), (.val (.int .i64 z23)), x24, x25, x26, x27, (.val (.int .i64 z28)), (.val (.int .i64 z29)), (.val (.int .i64 z30)), (.val (.bool b31))] true)) fun M32 => letP (M32.new (.cells [(.val (.int .i64 0)), (.val (.int .i64 0))] true)) fun M33 => bindO (eSt tb 50 (.ptr M32.next 0) (.agg [(.val (.int .i64 0)), (.val (.int .i64 0))]) M33) fun y34 => ∃ J35 : AV → Bool → Nat → Mem → Prop, (∃ n36 : Nat, J35 (.ptr M32.next 0) true n36 y34.2) ∧
  ∀ (_ : Nat → Option AV) (x37 : AV) (b38 : Bool) (n39 : Nat) (M40 : Mem), J35 x37 b38 n39 M40 →
  (condB (b38) (letP (fun (M95 : Mem) => bindO (eLd tb 50 x37 M95) fun y97 => ∃ (z98 : Int) (z99 : Int), y97.1 = (.agg [(.val (.int .i64 z98)), (.val (.int .i64 z99))]) ∧
  (letP (M95.new (.cells [(.val (.int .i64 0)), (.val (.int .i64 0))] true)) fun M100 => bindO (eSt tb 50 (.ptr M95.next 0) (.agg [(.val (.int .i64 z98)), (.val (.int .i64 z99))]) M100) fun y101 => bindO (eLd tb 40 (.ptr M16.next 1) y101.2) fun y102 => ∃ (z103 : Int) (z104 : Int) (z105 : Int) (z106 : Int) (z107 : Int), y102.1 =
  (.agg [(.val (.int .i64 z103)), (.val (.int .i64 z104)), (.val (.int .i64 z105)), (.val (.int .i64 z106)), (.val (.int .i64 z107))]) ∧
  (bindO (eLd tb 50 (.ptr M95.next 0) y101.2) fun y108 => ∃ (z109 : Int) (z110 : Int), y108.1 = (.agg [(.val (.int .i64 z109)), (.val (.int .i64 z110))]) ∧
  (CallA tb.P 28 [(.agg [(.val (.int .i64 z103)), (.val (.int .i64 z104)), (.val (.int .i64 z105)), (.val (.int .i64 z106)), (.val (.int .i64 z107))]), (.agg [(.val (.int .i64 z109)), (.val (.int .i64 z110))])] y101.2 fun y111 M112 => ∃ (z113 : Int) (z114 : Int) (b115 : Bool), y111 =
  (.tup [(.agg [(.val (.int .i64 z113)), (.val (.int .i64 z114))]), (.val (.bool b115))]) ∧
  (bindO (eSt tb 50 (.ptr M95.next 0) (.agg [(.val (.int .i64 z113)), (.val (.int .i64 z114))]) M112) fun y116 => ∃ k117 : Nat, k117 < n39 ∧
  (J35 (.ptr M95.next 0) b115 k117 y116.2)))))) fun K96 => bindO (eFA tb 50 x37 0 M40) fun y41 => zP y41.1 fun p42 o43 => bindO (eLd tb 3 (.ptr p42 o43) M40) fun y44 => zI .i64 y44.1 fun z45 => CallA tb.P 29 [a0, (.val (.int .i64 z45))] M40 fun y46 M47 => zB y46 fun b48 => condB (b48) (K96 M47) (bindO (eLd tb 50 x37 M47) fun y49 => ∃ (z50 : Int) (z51 : Int), y49.1 =
  (.agg [(.val (.int .i64 z50)), (.val (.int .i64 z51))]) ∧
  (CallA tb.P 30 [a0, (.agg [(.val (.int .i64 z50)), (.val (.int .i64 z51))])] M47 fun y52 M53 => ∃ (x54 : AV) (z55 : Int) (z56 : Int) (z57 : Int) (z58 : Int) (z59 : Int), y52 =
  (.tup [x54, (.agg [(.val (.int .i64 z55)), (.val (.int .i64 z56)), (.val (.int .i64 z57)), (.val (.int .i64 z58))]), (.val (.int .i64 z59))]) ∧
  (letP (M53.new (.cells [(.val (.int .i64 0)), (.val (.int .i64 0)), (.val (.int .i64 0)), (.val (.int .i64 0))] true)) fun M60 => bindO (eSt tb 64 (.ptr M53.next 0) (.agg [(.val (.int .i64 z55)), (.val (.int .i64 z56)), (.val (.int .i64 z57)), (.val (.int .i64 z58))]) M60) fun y61 => letP (fun (M93 : Mem) => K96 M93) fun K94 => condB (z59 ==
  (0 : Int)) (bindO (eLd tb 56 (.ptr M16.next 6) y61.2) fun y62 => bindO (eLd tb 50 x37 y61.2) fun y63 => ∃ (z64 : Int) (z65 : Int), y63.1 = (.agg [(.val (.int .i64 z64)), (.val (.int .i64 z65))]) ∧
  (bindO (eLd tb 64 (.ptr M53.next 0) y61.2) fun y66 => ∃ (z67 : Int) (z68 : Int) (z69 : Int) (z70 : Int), y66.1 =
  (.agg [(.val (.int .i64 z67)), (.val (.int .i64 z68)), (.val (.int .i64 z69)), (.val (.int .i64 z70))]) ∧
  (bindO (eBd tb 68 [(0, (.agg [(.val (.int .i64 z67)), (.val (.int .i64 z68)), (.val (.int .i64 z69)), (.val (.int .i64 z70))])), (1, x54)] y61.2) fun y71 => ∃ (z72 : Int) (z73 : Int) (z74 : Int) (z75 : Int) (x76 : AV), y71.1 =
  (.agg [(.val (.int .i64 z72)), (.val (.int .i64 z73)), (.val (.int .i64 z74)), (.val (.int .i64 z75)), x76]) ∧
  (bindO (eMU tb 56 y62.1 (.agg [(.val (.int .i64 z64)), (.val (.int .i64 z65))]) (.agg [(.val (.int .i64 z72)), (.val (.int .i64 z73)), (.val (.int .i64 z74)), (.val (.int .i64 z75)), x76]) y61.2) fun y77 => bindO (eLd tb 3 (.ptr M16.next 10) y77.2) fun y78 => zI .i64 y78.1 fun z79 => bindO (eLd tb 3 (.ptr M53.next 2) y77.2) fun y80 => zI .i64 y80.1 fun z81 => bindO (eMax tb #[3, 3] 3 [.int .i64 z79, .int .i64 z81] y77.2) fun y82 => zI .i64 y82.1 fun z83 => bindO (eLd tb 3 (.ptr M16.next 11) y77.2) fun y84 => zI .i64 y84.1 fun z85 => bindO (eLd tb 3 (.ptr M53.next 3) y77.2) fun y86 => zI .i64 y86.1 fun z87 => bindO (eMax tb #[3, 3] 3 [.int .i64 z85, .int .i64 z87] y77.2) fun y88 => zI .i64 y88.1 fun z89 => bindO (eSt tb 3 (.ptr M16.next 10) (.val (.int .i64 z83)) y77.2) fun y90 => (bindO (eLd tb 3 (.ptr M53.next 3) y90.2) fun y91 => (some (.val (.int .i64 z87)) : Option AV) =
  some y91.1) ∧ (bindO (eSt tb 3 (.ptr M16.next 11) (.val (.int .i64 z89)) y90.2) fun y92 => K94 y92.2))))) (condB (z59 ==
  (5 : Int)) (K94 y61.2) (Q (.tup [(.val (.pointer none)), (.val (.int .i64 z59))]) y61.2)))))) (CallA tb.P 32 [(.ptr M16.next 0), (.val (.int .i64 (-1)))] M40 fun y118 M119 => CallA tb.P 31 [y118] M119 fun y120 M121 => bindO (eLen tb false 69 y120 M121) fun y122 => zI .i64 y122.1 fun z123 => ∃ J124 : Int → Nat → Mem → Prop, (∃ n125 : Nat, J124 (0 : Int) n125 M121) ∧
  ∀ (_ : Nat → Option AV) (z126 : Int) (n127 : Nat) (M128 : Mem), J124 z126 n127 M128 →
  (condB (decide (z126 < z123)) (bindO (eIA tb 69 y120 (.val (.int .i64 z126)) M128) fun y129 => zP y129.1 fun p130 o131 => bindO (eLd tb 73 (.ptr p130 o131) M128) fun y132 => ∃ (z133 : Int) (z134 : Int) (z135 : Int) (z136 : Int) (z137 : Int) (z138 : Int), y132.1 =
  (.agg [(.val (.int .i64 z133)), (.val (.int .i64 z134)), (.val (.int .i64 z135)), (.val (.int .i64 z136)), (.val (.int .i64 z137)), (.val (.int .i64 z138))]) ∧
  (letP (M128.new (.cells [(.val (.int .i64 0)), (.val (.int .i64 0)), (.val (.int .i64 0)), (.val (.int .i64 0)), (.val (.int .i64 0)), (.val (.int .i64 0))] true)) fun M139 => bindO (eSt tb 73 (.ptr M128.next 0) (.agg [(.val (.int .i64 z133)), (.val (.int .i64 z134)), (.val (.int .i64 z135)), (.val (.int .i64 z136)), (.val (.int .i64 z137)), (.val (.int .i64 z138))]) M139) fun y140 => bindO (eLd tb 57 (.ptr M16.next 7) y140.2) fun y141 => bindO (eLd tb 3 (.ptr M128.next 3) y140.2) fun y142 => zI .i64 y142.1 fun z143 => bindO (eLd tb 56 (.ptr M16.next 6) y140.2) fun y144 => bindO (eLd tb 50 (.ptr M128.next 0) y140.2) fun y145 => ∃ (z146 : Int) (z147 : Int), y145.1 =
  (.agg [(.val (.int .i64 z146)), (.val (.int .i64 z147))]) ∧
  (bindO (eLk tb 56 y144.1 (.agg [(.val (.int .i64 z146)), (.val (.int .i64 z147))]) false y140.2) fun y148 => ∃ (z149 : Int) (z150 : Int) (z151 : Int) (z152 : Int) (x153 : AV), y148.1 =
  (.agg [(.val (.int .i64 z149)), (.val (.int .i64 z150)), (.val (.int .i64 z151)), (.val (.int .i64 z152)), x153]) ∧
  (bindO (eMU tb 57 y141.1 (.val (.int .i64 z143)) x153 y140.2) fun y154 => ∃ k155 : Nat, k155 < n127 ∧
  (J124 (iAdd .i64 z126 1) k155 y154.2))))) (CallA tb.P 32 [(.ptr M16.next 0), (.val (.int .i64 (-1)))] M128 fun y156 M157 => CallA tb.P 33 [y156] M157 fun y158 M159 => bindO (eLen tb false 69 y158 M159) fun y160 => zI .i64 y160.1 fun z161 => ∃ J162 : Int → Nat → Mem → Prop, (∃ n163 : Nat, J162 (0 : Int) n163 M159) ∧
  ∀ (_ : Nat → Option AV) (z164 : Int) (n165 : Nat) (M166 : Mem), J162 z164 n165 M166 → (condB (decide (z164 < z161)) (letP (fun (M185 : Mem) => ∃ k187 : Nat, k187 < n165 ∧
  (J162 (iAdd .i64 z164 1) k187 M185)) fun K186 => bindO (eIA tb 69 y158 (.val (.int .i64 z164)) M166) fun y167 => zP y167.1 fun p168 o169 => bindO (eLd tb 73 (.ptr p168 o169) M166) fun y170 => ∃ (z171 : Int) (z172 : Int) (z173 : Int) (z174 : Int) (z175 : Int) (z176 : Int), y170.1 =
  (.agg [(.val (.int .i64 z171)), (.val (.int .i64 z172)), (.val (.int .i64 z173)), (.val (.int .i64 z174)), (.val (.int .i64 z175)), (.val (.int .i64 z176))]) ∧
  (letP (M166.new (.cells [(.val (.int .i64 0)), (.val (.int .i64 0)), (.val (.int .i64 0)), (.val (.int .i64 0)), (.val (.int .i64 0)), (.val (.int .i64 0))] true)) fun M177 => bindO (eSt tb 73 (.ptr M166.next 0) (.agg [(.val (.int .i64 z171)), (.val (.int .i64 z172)), (.val (.int .i64 z173)), (.val (.int .i64 z174)), (.val (.int .i64 z175)), (.val (.int .i64 z176))]) M177) fun y178 => bindO (eLd tb 3 (.ptr M166.next 2) y178.2) fun y179 => zI .i64 y179.1 fun z180 => condB (z180 !=
  (3 : Int)) (bindO (eLd tb 58 (.ptr M16.next 9) y178.2) fun y181 => bindO (eLd tb 3 (.ptr M166.next 3) y178.2) fun y182 => zI .i64 y182.1 fun z183 => bindO (eMU tb 58 y181.1 (.val (.int .i64 z183)) (.val (.bool true)) y178.2) fun y184 => K186 y184.2) (K186 y178.2))) (CallA tb.P 34 [(.ptr M16.next 0)] M166 fun y188 M189 => zI .i64 y188 fun z190 => Q (.tup [(.ptr M16.next 0), (.val (.int .i64 0))]) M189))))))))))
def an6 : An := (.seq (.reg []) (.seq (.blk (.seq (.reg [.non, .bool]) (.cnd (.seq (.reg []) .z) (.seq (.reg [.non, .bool, .bool]) (.cnd (.seq (.reg []) .z) .z))))) (.seq (.reg [.non, .non, .agg [.int .i64, .int .i64, .int .i64, .int .i64, .int .i64], .non, .non, .non, .non, .agg [.any, .int .i64, .int .i64, .int .i64, .int .i64, .int .i64, .any, .any, .any, .any, .int .i64, .int .i64, .int .i64, .bool]]) (.seq (.seq (.reg []) (.blk (.lop [(5, .any), (6, .bool)] [2, 3, 7, 8, 9, 31, 32, 33, 34, 35, 36, 37, 38, 39, 40, 41, 42, 43, 44, 45, 46, 47, 48, 49, 50, 51, 52, 53, 54, 55, 56, 57, 58, 59, 60, 61, 62, 63, 64, 65, 66, 67, 68, 69, 70, 71, 72, 73, 74, 75, 76, 77, 78, 79, 80, 81, 82, 83, 84, 85, 86] (.seq (.seq (.reg []) (.cnd .z .z)) (.seq (.blk (.seq (.seq (.reg [.non, .ptr, .int .i64, .bool]) (.cnd .z .z)) (.seq (.reg [.non, .agg [.int .i64, .int .i64], .tup [.l .any, .a [.int .i64, .int .i64, .int .i64, .int .i64], .l (.int .i64)], .non, .non, .non, .int .i64]) (.seq (.reg []) (.blk (.seq (.reg [.bool]) (.cnd (.seq (.opn [(0, []), (1, []), (2, []), (6, []), (3, []), (4, []), (5, []), (7, []), (8, [])] [] [] 0 [.non, .non, .ptr, .non, .non, .agg [.int .i64, .int .i64], .agg [.int .i64, .int .i64, .int .i64, .int .i64], .agg [.int .i64, .int .i64, .int .i64, .int .i64, .any], .non]) (.opn [(0, []), (1, []), (2, []), (3, []), (4, []), (6, []), (9, []), (10, []), (11, []), (13, []), (5, []), (7, []), (8, []), (12, []), (16, []), (17, []), (14, []), (15, []), (18, [14]), (19, []), (20, []), (21, [])] [] [[], [], [], [], [], [], [], [], [], [], [], [], [], [], [], [], [], [], [14]] 0 [.non, .non, .non, .non, .ptr, .ptr, .non, .non, .ptr, .ptr, .int .i64, .int .i64, .int .i64, .int .i64, .non, .ptr, .int .i64, .int .i64, .non, .non, .ptr, .non])) (.seq (.reg [.bool]) (.cnd .z (.seq (.reg []) .z)))))))))) (.seq (.seq (.reg [.agg [.int .i64, .int .i64]]) (.reg [])) (.opn [(0, []), (1, []), (2, []), (3, []), (4, []), (5, []), (6, []), (7, []), (8, []), (9, []), (10, [])] [] [] 0 [.non, .non, .ptr, .agg [.int .i64, .int .i64, .int .i64, .int .i64, .int .i64], .agg [.int .i64, .int .i64], .tup [.a [.int .i64, .int .i64], .l .bool], .non, .non, .bool, .non, .non]))))))) (.seq (.seq (.reg [.non, .non, .non, .int .i64]) (.blk (.lop [(91, .int .i64)] [11, 92, 93, 94, 95, 96, 97, 98, 99, 100, 101, 102, 103, 104, 105, 106, 107, 108, 109, 110] (.seq (.reg []) (.seq (.cnd .z .z) (.seq (.blk (.seq (.reg [.ptr, .agg [.int .i64, .int .i64, .int .i64, .int .i64, .int .i64, .int .i64]]) (.opn [(0, []), (1, []), (2, []), (4, []), (5, []), (7, []), (8, []), (9, []), (11, []), (3, []), (6, []), (10, []), (12, []), (13, []), (14, []), (15, [])] [] [] 0 [.non, .non, .ptr, .ptr, .ptr, .non, .non, .ptr, .ptr, .non, .int .i64, .non, .agg [.int .i64, .int .i64], .agg [.int .i64, .int .i64, .int .i64, .int .i64, .any], .non, .non]))) (.reg [.int .i64]))))))) (.seq (.seq (.reg [.non, .non, .non, .int .i64]) (.blk (.lop [(115, .int .i64)] [13, 116, 117, 118, 119, 120, 121, 122, 123, 124, 125, 126, 127, 128, 129, 130] (.seq (.reg []) (.seq (.cnd .z .z) (.seq (.blk (.seq (.reg [.ptr, .agg [.int .i64, .int .i64, .int .i64, .int .i64, .int .i64, .int .i64]]) (.seq (.reg [.ptr, .ptr, .int .i64, .bool]) (.cnd (.opn [(0, []), (1, []), (2, []), (4, []), (5, []), (3, []), (6, []), (7, [])] [] [] 0 [.non, .non, .ptr, .ptr, .ptr, .non, .int .i64, .non]) .z)))) (.reg [.int .i64]))))))) (.seq (.reg [.non, .int .i64]) (.seq (.reg []) .z))))))))
theorem fn6 : tb.fn.get 6 = some Tryz.f6 := by kernel_rfl
theorem an6_ok : anB tb Tryz.f6.ntmps an6 (bodyOf Tryz.f6) = true := by kernel_rfl
theorem F6_eq : (fun (a0 : AV) (M : Mem) (Q : AV → Mem → Prop) => zCs [.l .any] [a0] fun args => wZ tb an6 (bodyOf Tryz.f6) (enterA Tryz.f6 args M) (retQ tb Tryz.f6 Q)) = fun (a0 : AV) (M : Mem) (Q : AV → Mem → Prop) => F6 a0 M Q := by kernel_rfl
theorem F6_ok {a0 : AV} {M : Mem} {Q : AV → Mem → Prop} (h : F6 a0 M Q) : CallA tb.P 6 [a0] M Q :=
  calla_wZ tb_ok tb_mix fn6 (c := bodyOf Tryz.f6) rfl an6_ok (ks := [.l .any]) (cast (congrFun (congrFun (congrFun F6_eq a0) M) Q).symm h)

def F7 (a0 a1 a2 : AV) (M : Mem) (Q : AV → Mem → Prop) : Prop :=
  zI .i64 a1 fun z1 => CallA tb.P 23 [a0, (.val (.int .i64 z1))] M fun y2 M3 => zI .i64 y2 fun z4 => condB (z4 !=
  (0 : Int)) (Q (.val (.int .i64 z4)) M3) (bindO (eLen tb false 23 a2 M3) fun y5 => zI .i64 y5.1 fun z6 => bindO (eNil a0 M3) fun y7 => bindO (eFA tb 60 y7.1 1 M3) fun y8 => zP y8.1 fun p9 o10 => bindO (eLd tb 3 (.ptr p9 (o10 + 2)) M3) fun y11 => zI .i64 y11.1 fun z12 => condB (z6 !=
  z12) (Q (.val (.int .i64 2)) M3) (bindO (eNil a0 M3) fun y13 => bindO (eFA tb 60 y13.1 9 M3) fun y14 => zP y14.1 fun p15 o16 => bindO (eLd tb 4 (.ptr p15 o16) M3) fun y17 => zB y17.1 fun b18 => condB (b18) (Q (.val (.int .i64 13)) M3) (bindO (eNil a0 M3) fun y19 => bindO (eFA tb 60 y19.1 4 M3) fun y20 => zP y20.1 fun p21 o22 => bindO (eLd tb 57 (.ptr p21 o22) M3) fun y23 => CallA tb.P 25 [a2] M3 fun y24 M25 => (bindO (eLd tb 57 (.ptr p21 o22) M25) fun y26 => (some y23.1 : Option AV) =
  some y26.1) ∧ (bindO (eMU tb 57 y23.1 (.val (.int .i64 z1)) y24 M25) fun y27 => Q (.val (.int .i64 0)) y27.2))))
def an7 : An := (.seq (.reg []) (.seq (.reg [.non, .non, .int .i64]) (.seq (.blk (.seq (.reg [.non, .bool]) (.cnd (.seq (.reg []) .z) (.seq (.reg [.non, .int .i64, .non, .non, .ptr, .ptr, .int .i64, .bool]) (.cnd (.seq (.reg []) .z) (.seq (.reg [.non, .non, .ptr, .bool]) (.cnd (.seq (.reg []) .z) .z))))))) (.seq (.opn [(0, []), (1, []), (2, []), (4, []), (5, []), (3, []), (6, [3]), (7, [])] [] [[], [], [], [], [], [], [3]] 0 [.non, .non, .ptr, .non, .non, .non, .non, .non]) (.seq (.reg []) .z)))))
theorem fn7 : tb.fn.get 7 = some Tryz.f7 := by kernel_rfl
theorem an7_ok : anB tb Tryz.f7.ntmps an7 (bodyOf Tryz.f7) = true := by kernel_rfl
theorem F7_eq : (fun (a0 a1 a2 : AV) (M : Mem) (Q : AV → Mem → Prop) => zCs [.l .any, .l (.int .i64), .l .any] [a0, a1, a2] fun args => wZ tb an7 (bodyOf Tryz.f7) (enterA Tryz.f7 args M) (retQ tb Tryz.f7 Q)) = fun (a0 a1 a2 : AV) (M : Mem) (Q : AV → Mem → Prop) => F7 a0 a1 a2 M Q := by kernel_rfl
theorem F7_ok {a0 a1 a2 : AV} {M : Mem} {Q : AV → Mem → Prop} (h : F7 a0 a1 a2 M Q) : CallA tb.P 7 [a0, a1, a2] M Q :=
  calla_wZ tb_ok tb_mix fn7 (c := bodyOf Tryz.f7) rfl an7_ok (ks := [.l .any, .l (.int .i64), .l .any]) (cast (congrFun (congrFun (congrFun (congrFun (congrFun F7_eq a0) a1) a2) M) Q).symm h)

def F8 (a0 a1 : AV) (M : Mem) (Q : AV → Mem → Prop) : Prop :=
  zI .i64 a1 fun z1 => CallA tb.P 23 [a0, (.val (.int .i64 z1))] M fun y2 M3 => zI .i64 y2 fun z4 => condB (z4 !=
  (0 : Int)) (Q (.val (.int .i64 z4)) M3) (bindO (eNil a0 M3) fun y5 => bindO (eFA tb 60 y5.1 9 M3) fun y6 => zP y6.1 fun p7 o8 => bindO (eLd tb 4 (.ptr p7 o8) M3) fun y9 => zB y9.1 fun b10 => condB (b10) (Q (.val (.int .i64 13)) M3) (CallA tb.P 24 [a0, (.val (.int .i64 z1))] M3 fun y11 M12 => ∃ (x13 : AV) (b14 : Bool), y11 =
  (.tup [x13, (.val (.bool b14))]) ∧
  (condB (!b14) (Q (.val (.int .i64 4)) M12) (bindO (eNil a0 M12) fun y15 => bindO (eFA tb 60 y15.1 4 M12) fun y16 => zP y16.1 fun p17 o18 => bindO (eLd tb 57 (.ptr p17 o18) M12) fun y19 => bindO (eMU tb 57 y19.1 (.val (.int .i64 z1)) (.val (.slice none 0 0)) M12) fun y20 => Q (.val (.int .i64 0)) y20.2))))
def an8 : An := (.seq (.reg []) (.seq (.reg [.non, .non, .int .i64]) (.seq (.blk (.seq (.reg [.non, .bool]) (.cnd (.seq (.reg []) .z) (.seq (.reg [.non, .non, .ptr, .bool]) (.cnd (.seq (.reg []) .z) .z))))) (.seq (.seq (.reg [.non, .non, .tup [.l .any, .l .bool], .non, .non, .bool]) (.seq (.reg [.non, .bool]) (.cnd (.seq (.reg []) .z) .z))) (.seq (.reg [.non, .non, .ptr]) (.seq (.reg []) .z))))))
theorem fn8 : tb.fn.get 8 = some Tryz.f8 := by kernel_rfl
theorem an8_ok : anB tb Tryz.f8.ntmps an8 (bodyOf Tryz.f8) = true := by kernel_rfl
theorem F8_eq : (fun (a0 a1 : AV) (M : Mem) (Q : AV → Mem → Prop) => zCs [.l .any, .l (.int .i64)] [a0, a1] fun args => wZ tb an8 (bodyOf Tryz.f8) (enterA Tryz.f8 args M) (retQ tb Tryz.f8 Q)) = fun (a0 a1 : AV) (M : Mem) (Q : AV → Mem → Prop) => F8 a0 a1 M Q := by kernel_rfl
theorem F8_ok {a0 a1 : AV} {M : Mem} {Q : AV → Mem → Prop} (h : F8 a0 a1 M Q) : CallA tb.P 8 [a0, a1] M Q :=
  calla_wZ tb_ok tb_mix fn8 (c := bodyOf Tryz.f8) rfl an8_ok (ks := [.l .any, .l (.int .i64)]) (cast (congrFun (congrFun (congrFun (congrFun F8_eq a0) a1) M) Q).symm h)

def F9 (a0 : AV) (M : Mem) (Q : AV → Mem → Prop) : Prop :=
  bindO (eBin tb .eql 22 (.tmp 9) (.const (.pointer none)) a0 (.val (.pointer none)) M) fun y1 => zB y1.1 fun b2 => condB (b2) (Q (.val (.int .i64 1)) M) (bindO (eNil a0 M) fun y3 => bindO (eFA tb 60 y3.1 0 M) fun y4 => zP y4.1 fun p5 o6 => bindO (eLd tb 33 (.ptr p5 o6) M) fun y7 => CallA tb.P 26 [y7.1] M fun y8 M9 => zB y8 fun b10 => condB (!b10) (Q (.val (.int .i64 9)) M9) (bindO (eNil a0 M9) fun y11 => bindO (eFA tb 60 y11.1 9 M9) fun y12 => zP y12.1 fun p13 o14 => bindO (eLd tb 4 (.ptr p13 o14) M9) fun y15 => zB y15.1 fun b16 => condB (b16) (Q (.val (.int .i64 13)) M9) (CallA tb.P 34 [a0] M9 fun y17 M18 => zI .i64 y17 fun z19 => letP (fun (b27 : Bool) => condB (b27) (Q (.val (.int .i64 z19)) M18) (CallA tb.P 35 [a0] M18 fun y29 M30 => zI .i64 y29 fun z31 => condB (z31 !=
  (0 : Int)) (Q (.val (.int .i64 z31)) M30) (bindO (eNil a0 M30) fun y32 => bindO (eFA tb 60 y32.1 7 M30) fun y33 => zP y33.1 fun p34 o35 => bindO (eLd tb 3 (.ptr p34 o35) M30) fun y36 => zI .i64 y36.1 fun z37 => bindO (eNil a0 M30) fun y38 => bindO (eFA tb 60 y38.1 7 M30) fun y39 => zP y39.1 fun p40 o41 => bindO (eSt tb 3 (.ptr p40 o41) (.val (.int .i64 (iAdd .i64 z37 1))) M30) fun y42 => bindO (eNil a0 y42.2) fun y43 => bindO (eFA tb 60 y43.1 7 y42.2) fun y44 => zP y44.1 fun p45 o46 => bindO (eLd tb 3 (.ptr p45 o46) y42.2) fun y47 => zI .i64 y47.1 fun z48 => bindO (eNil a0 y42.2) fun y49 => bindO (eFA tb 60 y49.1 8 y42.2) fun y50 => zP y50.1 fun p51 o52 => bindO (eSt tb 3 (.ptr p51 o52) (.val (.int .i64 z48)) y42.2) fun y53 => CallA tb.P 36 [a0] y53.2 fun y54 M55 => zI .i64 y54 fun z56 => bindO (eNil a0 M55) fun y57 => bindO (eFA tb 60 y57.1 8 M55) fun y58 => zP y58.1 fun p59 o60 => bindO (eSt tb 3 (.ptr p59 o60) (.val (.int .i64 0)) M55) fun y61 => condB (z56 !=
  (0 : Int)) (Q (.val (.int .i64 z56)) y61.2) (bindO (eNil a0 y61.2) fun y62 => bindO (eFA tb 60 y62.1 4 y61.2) fun y63 => zP y63.1 fun p64 o65 => bindO (eLd tb 57 (.ptr p64 o65) y61.2) fun y66 => bindO (entsB y61.2 y66.1) fun g67 => ∃ J68 : List (AV × AV) → Nat → Mem → Prop, (J68 g67.2  0 (hideM y61.2 g67.1)) ∧
  ∀ (_ : Nat → Option AV)  (r69 : List (AV × AV)) (M70 : Mem), J68 r69  0 M70 → ((r69 = [] →
  (bindO (eNil a0 (showM M70 g67)) fun y89 => bindO (eFA tb 60 y89.1 4 (showM M70 g67)) fun y90 => zP y90.1 fun p91 o92 => bindO (eLd tb 57 (.ptr p91 o92) (showM M70 g67)) fun y93 => bindO (eClr tb 57 y93.1 (showM M70 g67)) fun y94 => bindO (eNil a0 y94.2) fun y95 => bindO (eFA tb 60 y95.1 5 y94.2) fun y96 => zP y96.1 fun p97 o98 => bindO (eLd tb 58 (.ptr p97 o98) y94.2) fun y99 => bindO (eClr tb 58 y99.1 y94.2) fun y100 => CallA tb.P 37 [a0] y100.2 fun y101 M102 => zI .i64 y101 fun z103 => Q (.val (.int .i64 z103)) M102)) ∧
  ∀ (i71 : Nat) (x72 x73 : AV), r69[i71]? = some (x72, x73) →
  (zI .i64 x72 fun z74 => bindO (eNil a0 M70) fun y75 => bindO (eFA tb 60 y75.1 3 M70) fun y76 => zP y76.1 fun p77 o78 => bindO (eLd tb 57 (.ptr p77 o78) M70) fun y79 => bindO (eMU tb 57 y79.1 (.val (.int .i64 z74)) x73 M70) fun y80 => bindO (eBin tb .eql 23 (.tmp 79) (.const (.slice none 0 0)) x73 (.val (.slice none 0 0)) y80.2) fun y81 => zB y81.1 fun b82 => condB (b82) (bindO (eNil a0 y80.2) fun y83 => bindO (eFA tb 60 y83.1 3 y80.2) fun y84 => zP y84.1 fun p85 o86 => bindO (eLd tb 57 (.ptr p85 o86) y80.2) fun y87 => bindO (eDel tb 57 y87.1 (.val (.int .i64 z74)) y80.2) fun y88 => J68 (r69.eraseIdx i71)  0 y88.2) (J68 (r69.eraseIdx i71)  0 y80.2))))))) fun K28 => condB (z19 !=
  (0 : Int)) (K28 true) (bindO (eNil a0 M18) fun y20 => bindO (eFA tb 60 y20.1 4 M18) fun y21 => zP y21.1 fun p22 o23 => bindO (eLd tb 57 (.ptr p22 o23) M18) fun y24 => bindO (eLen tb false 57 y24.1 M18) fun y25 => zI .i64 y25.1 fun z26 => K28 (z26 ==
  (0 : Int))))))
def an9 : An := (.seq (.reg []) (.seq (.blk (.seq (.reg [.non, .bool]) (.cnd (.seq (.reg []) .z) (.seq (.reg [.non, .non, .ptr, .non, .bool, .bool]) (.cnd (.seq (.reg []) .z) (.seq (.reg [.non, .non, .ptr, .bool]) (.cnd (.seq (.reg []) .z) .z))))))) (.seq (.seq (.reg [.non, .int .i64]) (.seq (.reg [.non, .bool, .spl, .non, .non, .ptr, .non, .int .i64, .bool]) (.cnd (.seq (.reg []) .z) .z))) (.seq (.seq (.reg [.non, .int .i64]) (.seq (.reg [.non, .bool]) (.cnd (.seq (.reg []) .z) .z))) (.seq (.reg [.non, .non, .ptr, .int .i64, .int .i64, .non, .ptr]) (.seq (.reg [.non, .non, .non, .ptr, .int .i64, .non, .ptr]) (.seq (.reg [.non, .int .i64]) (.seq (.reg [.non, .non, .ptr]) (.seq (.seq (.reg [.non, .bool]) (.cnd (.seq (.reg []) .z) .z)) (.seq (.mlp [.non, .non, .ptr] [] [6, 7, 67, 68, 69, 70, 71, 72, 73, 74, 75, 76, 77, 78, 79, 80, 81, 82, 83, 84, 85] [.int .i64] (.seq (.reg [.non, .non, .ptr]) (.seq (.reg [.non, .bool]) (.cnd (.reg [.non, .non, .ptr]) .z)))) (.seq (.reg [.non, .non, .ptr]) (.seq (.reg [.non, .non, .ptr]) (.seq (.reg [.non, .int .i64]) .z)))))))))))))
theorem fn9 : tb.fn.get 9 = some Tryz.f9 := by kernel_rfl
theorem an9_ok : anB tb Tryz.f9.ntmps an9 (bodyOf Tryz.f9) = true := by kernel_rfl
theorem F9_eq : (fun (a0 : AV) (M : Mem) (Q : AV → Mem → Prop) => zCs [.l .any] [a0] fun args => wZ tb an9 (bodyOf Tryz.f9) (enterA Tryz.f9 args M) (retQ tb Tryz.f9 Q)) = fun (a0 : AV) (M : Mem) (Q : AV → Mem → Prop) => F9 a0 M Q := by kernel_rfl
theorem F9_ok {a0 : AV} {M : Mem} {Q : AV → Mem → Prop} (h : F9 a0 M Q) : CallA tb.P 9 [a0] M Q :=
  calla_wZ tb_ok tb_mix fn9 (c := bodyOf Tryz.f9) rfl an9_ok (ks := [.l .any]) (cast (congrFun (congrFun (congrFun F9_eq a0) M) Q).symm h)

def F12 (a0 : AV) (M : Mem) (Q : AV → Mem → Prop) : Prop :=
  bindO (eBin tb .eql 22 (.tmp 3) (.const (.pointer none)) a0 (.val (.pointer none)) M) fun y1 => zB y1.1 fun b2 => condB (b2) (Q (.val (.int .i64 0)) M) (bindO (eNil a0 M) fun y3 => bindO (eFA tb 60 y3.1 1 M) fun y4 => zP y4.1 fun p5 o6 => bindO (eLd tb 40 (.ptr p5 o6) M) fun y7 => ∃ (z8 : Int) (z9 : Int) (z10 : Int) (z11 : Int) (z12 : Int), y7.1 =
  (.agg [(.val (.int .i64 z8)), (.val (.int .i64 z9)), (.val (.int .i64 z10)), (.val (.int .i64 z11)), (.val (.int .i64 z12))]) ∧
  (CallA tb.P 38 [(.agg [(.val (.int .i64 z8)), (.val (.int .i64 z9)), (.val (.int .i64 z10)), (.val (.int .i64 z11)), (.val (.int .i64 z12))])] M fun y13 M14 => zI .i64 y13 fun z15 => Q (.val (.int .i64 z15)) M14))
def an12 : An := (.seq (.reg []) (.seq (.seq (.reg [.non, .bool]) (.cnd (.seq (.reg []) .z) .z)) (.seq (.reg [.non, .non, .ptr, .agg [.int .i64, .int .i64, .int .i64, .int .i64, .int .i64], .int .i64]) .z)))
theorem fn12 : tb.fn.get 12 = some Tryz.f12 := by kernel_rfl
theorem an12_ok : anB tb Tryz.f12.ntmps an12 (bodyOf Tryz.f12) = true := by kernel_rfl
theorem F12_eq : (fun (a0 : AV) (M : Mem) (Q : AV → Mem → Prop) => zCs [.l .any] [a0] fun args => wZ tb an12 (bodyOf Tryz.f12) (enterA Tryz.f12 args M) (retQ tb Tryz.f12 Q)) = fun (a0 : AV) (M : Mem) (Q : AV → Mem → Prop) => F12 a0 M Q := by kernel_rfl
theorem F12_ok {a0 : AV} {M : Mem} {Q : AV → Mem → Prop} (h : F12 a0 M Q) : CallA tb.P 12 [a0] M Q :=
  calla_wZ tb_ok tb_mix fn12 (c := bodyOf Tryz.f12) rfl an12_ok (ks := [.l .any]) (cast (congrFun (congrFun (congrFun F12_eq a0) M) Q).symm h)

def F15 (a0 a1 : AV) (M : Mem) (Q : AV → Mem → Prop) : Prop :=
  ∃ (z1 : Int) (z2 : Int) (z3 : Int) (z4 : Int) (z5 : Int), a0 = (.agg [(.val (.int .i64 z1)), (.val (.int .i64 z2)), (.val (.int .i64 z3)), (.val (.int .i64 z4)), (.val (.int .i64 z5))]) ∧
  letP (M.new (.cells [(.val (.int .i64 z1)), (.val (.int .i64 z2)), (.val (.int .i64 z3)), (.val (.int .i64 z4)), (.val (.int .i64 z5))] true)) fun M6 => bindO (eLd tb 40 (.ptr M.next 0) M6) fun y7 => ∃ (z8 : Int) (z9 : Int) (z10 : Int) (z11 : Int) (z12 : Int), y7.1 =
  (.agg [(.val (.int .i64 z8)), (.val (.int .i64 z9)), (.val (.int .i64 z10)), (.val (.int .i64 z11)), (.val (.int .i64 z12))]) ∧
  (CallA tb.P 41 [(.agg [(.val (.int .i64 z8)), (.val (.int .i64 z9)), (.val (.int .i64 z10)), (.val (.int .i64 z11)), (.val (.int .i64 z12))]), a1] M6 fun y13 M14 => zB y13 fun b15 => condB (!b15) (Q (.val (.pointer none)) M14) (letP (⟨M14.next + 1, M14.rows⟩ : Mem) fun M16 => bindO (eLd tb 40 (.ptr M.next 0) M16) fun y17 => ∃ (z18 : Int) (z19 : Int) (z20 : Int) (z21 : Int) (z22 : Int), y17.1 =
  (.agg [(.val (.int .i64 z18)), (.val (.int .i64 z19)), (.val (.int .i64 z20)), (.val (.int .i64 z21)), (.val (.int .i64 z22))]) ∧
  (CallA tb.P 42 [a1] M16 fun y23 M24 => (bindO (eLd tb 40 (.ptr M.next 0) M24) fun y25 => (some (.agg [(.val (.int .i64 z18)), (.val (.int .i64 z19)), (.val (.int .i64 z20)), (.val (.int .i64 z21)), (.val (.int .i64 z22))]) : Option AV) =
  some y25.1) ∧
  (bindO (eBd tb 83 [(0, (.agg [(.val (.int .i64 z18)), (.val (.int .i64 z19)), (.val (.int .i64 z20)), (.val (.int .i64 z21)), (.val (.int .i64 z22))])), (1, y23)] M24) fun y26 => ∃ (z27 : Int) (z28 : Int) (z29 : Int) (z30 : Int) (z31 : Int) (x32 : AV) (x33 : AV) (b34 : Bool) (z35 : Int) (z36 : Int) (z37 : Int) (z38 : Int) (z39 : Int) (z40 : Int), y26.1 =
  (.agg [(.val (.int .i64 z27)), (.val (.int .i64 z28)), (.val (.int .i64 z29)), (.val (.int .i64 z30)), (.val (.int .i64 z31)), x32, x33, (.val (.bool b34)), (.val (.int .i64 z35)), (.val (.int .i64 z36)), (.val (.int .i64 z37)), (.val (.int .i64 z38)), (.val (.int .u8 z39)), (.val (.int .i64 z40))]) ∧
  (letP (M24.put M14.next (.cells [(.val (.int .i64 z27)), (.val (.int .i64 z28)), (.val (.int .i64 z29)), (.val (.int .i64 z30)), (.val (.int .i64 z31)), x32, x33, (.val (.bool b34)), (.val (.int .i64 z35)), (.val (.int .i64 z36)), (.val (.int .i64 z37)), (.val (.int .i64 z38)), (.val (.int .u8 z39)), (.val (.int .i64 z40))] true)) fun M41 => bindO (eLd tb 3 (.ptr M.next 0) M41) fun y42 => zI .i64 y42.1 fun z43 => ∃ J44 : Int → Nat → Mem → Prop, (∃ n45 : Nat, J44 (0 : Int) n45 M41) ∧
  ∀ (_ : Nat → Option AV) (z46 : Int) (n47 : Nat) (M48 : Mem), J44 z46 n47 M48 →
  (condB (decide (z46 < z43)) (letP (⟨M48.next + 2, M48.rows⟩ : Mem) fun M49 => bindO (eLd tb 81 (.ptr M14.next 6) M49) fun y50 => bindO (eLd tb 3 (.ptr M.next 1) M49) fun y51 => zI .i64 y51.1 fun z52 => bindO (eLd tb 40 (.ptr M.next 0) M49) fun y53 => ∃ (z54 : Int) (z55 : Int) (z56 : Int) (z57 : Int) (z58 : Int), y53.1 =
  (.agg [(.val (.int .i64 z54)), (.val (.int .i64 z55)), (.val (.int .i64 z56)), (.val (.int .i64 z57)), (.val (.int .i64 z58))]) ∧
  (CallA tb.P 44 [(.agg [(.val (.int .i64 z54)), (.val (.int .i64 z55)), (.val (.int .i64 z56)), (.val (.int .i64 z57)), (.val (.int .i64 z58))])] M49 fun y59 M60 => zI .i64 y59 fun z61 => (bindO (eLd tb 81 (.ptr M14.next 6) M60) fun y62 => (some y50.1 : Option AV) =
  some y62.1) ∧ (bindO (eLd tb 3 (.ptr M.next 1) M60) fun y63 => (some (.val (.int .i64 z52)) : Option AV) = some y63.1) ∧
  (letP (M60.put M48.next (.cells [(.val (.int .u8 255))] true)) fun M64 => CallA tb.P 43 [(.sl M48.next 0 1 1 none), (.val (.int .i64 (iMul .i64 z52 z61)))] M64 fun y65 M66 => (bindO (eLd tb 81 (.ptr M14.next 6) M66) fun y67 => (some y50.1 : Option AV) =
  some y67.1) ∧ (bindO (eBd tb 86 [(0, y65)] M66) fun y68 => ∃ (x69 : AV) (z70 : Int) (z71 : Int) (z72 : Int), y68.1 =
  (.agg [x69, (.val (.int .i64 z70)), (.val (.int .i64 z71)), (.val (.int .i64 z72))]) ∧
  (letP (M66.put (M48.next + 1) (.cells [x69, (.val (.int .i64 z70)), (.val (.int .i64 z71)), (.val (.int .i64 z72))] true)) fun M73 => bindO (evAppend tb 81 81 y50.1 (.sl (M48.next + 1) 0 1 1 none) M73) fun y74 => bindO (eSt tb 81 (.ptr M14.next 6) y74.1 y74.2) fun y75 => ∃ k76 : Nat, k76 < n47 ∧
  (J44 (iAdd .i64 z46 1) k76 y75.2)))))) (Q (.ptr M14.next 0) M48)))))))
def an15 : An := (.seq (.reg []) (.seq (.seq (.reg [.agg [.int .i64, .int .i64, .int .i64, .int .i64, .int .i64], .non, .bool, .bool]) (.cnd (.seq (.reg []) .z) .z)) (.seq (.opn [(1, []), (0, []), (2, [0]), (3, []), (4, []), (5, [])] [0, 0, 0, 0, 0, 0] [[], [], [0]] 1 [.non, .agg [.int .i64, .int .i64, .int .i64, .int .i64, .int .i64], .non, .agg [.int .i64, .int .i64, .int .i64, .int .i64, .int .i64, .any, .any, .bool, .int .i64, .int .i64, .int .i64, .int .i64, .int .u8, .int .i64], .non, .non]) (.seq (.seq (.reg [.ptr, .int .i64]) (.blk (.lop [(17, .int .i64)] [18, 19, 20, 21, 22, 23, 24, 25, 26, 27, 28, 29, 30, 31, 32, 33, 34, 35, 36] (.seq (.reg [.bool]) (.seq (.cnd .z .z) (.seq (.blk (.opn [(0, []), (1, []), (2, []), (3, []), (6, []), (4, []), (7, []), (8, []), (9, [4, 7]), (10, []), (5, []), (11, [4]), (12, []), (13, []), (14, []), (15, []), (16, []), (17, [])] [0, 0, 0, 0, 0, 0, 0, 0, 0, 0, 0, 0, 0, 1, 0, 0, 0, 0] [[], [], [], [], [], [], [], [], [], [4, 7], [], [4]] 2 [.non, .non, .non, .ptr, .ptr, .non, .int .i64, .agg [.int .i64, .int .i64, .int .i64, .int .i64, .int .i64], .int .i64, .int .i64, .non, .non, .agg [.any, .int .i64, .int .i64, .int .i64], .non, .non, .non, .ptr, .non])) (.reg [.int .i64]))))))) (.seq (.reg []) .z)))))
theorem fn15 : tb.fn.get 15 = some Tryz.f15 := by kernel_rfl
theorem an15_ok : anB tb Tryz.f15.ntmps an15 (bodyOf Tryz.f15) = true := by kernel_rfl
theorem F15_eq : (fun (a0 a1 : AV) (M : Mem) (Q : AV → Mem → Prop) => zCs [.a [.int .i64, .int .i64, .int .i64, .int .i64, .int .i64], .l .any] [a0, a1] fun args => wZ tb an15 (bodyOf Tryz.f15) (enterA Tryz.f15 args M) (retQ tb Tryz.f15 Q)) = fun (a0 a1 : AV) (M : Mem) (Q : AV → Mem → Prop) => F15 a0 a1 M Q := by kernel_rfl
theorem F15_ok {a0 a1 : AV} {M : Mem} {Q : AV → Mem → Prop} (h : F15 a0 a1 M Q) : CallA tb.P 15 [a0, a1] M Q :=
  calla_wZ tb_ok tb_mix fn15 (c := bodyOf Tryz.f15) rfl an15_ok (ks := [.a [.int .i64, .int .i64, .int .i64, .int .i64, .int .i64], .l .any]) (cast (congrFun (congrFun (congrFun (congrFun F15_eq a0) a1) M) Q).symm h)

def F16 (a0 : AV) (M : Mem) (Q : AV → Mem → Prop) : Prop :=
  bindO (eLen tb false 23 a0 M) fun y1 => zI .i64 y1.1 fun z2 => bindO (evMakeSlice tb 23 (.val (.int .i64 0)) (.val (.int .i64 (iAdd .i64 z2 3))) M) fun y3 => bindO (evAppend tb 23 23 y3.1 a0 y3.2) fun y4 => bindO (eLen tb false 23 a0 y4.2) fun y5 => zI .i64 y5.1 fun z6 => bindO (eLen tb false 23 a0 y4.2) fun y7 => zI .i64 y7.1 fun z8 => bindO (eSl tb 23 y4.1 (some (.val (.int .i64 z6))) (some (.val (.int .i64 (iAdd .i64 z8 3)))) none y4.2) fun y9 => ∃ J10 : Int → Nat → Mem → Prop, (∃ n11 : Nat, J10 (0 : Int) n11 y4.2) ∧
  ∀ (_ : Nat → Option AV) (z12 : Int) (n13 : Nat) (M14 : Mem), J10 z12 n13 M14 →
  (condB (decide (z12 < (3 : Int))) (bindO (eIA tb 23 y9.1 (.val (.int .i64 z12)) M14) fun y15 => zP y15.1 fun p16 o17 => bindO (eSt tb 5 (.ptr p16 o17) (.val (.int .u8 119)) M14) fun y18 => ∃ k19 : Nat, k19 < n13 ∧
  (J10 (iAdd .i64 z12 1) k19 y18.2)) (Q y4.1 M14))
def an16 : An := (.seq (.reg []) (.seq (.reg [.non, .int .i64, .int .i64]) (.seq (.reg []) (.seq (.reg [.non, .non, .int .i64, .non, .int .i64, .int .i64]) (.seq (.seq (.reg []) (.blk (.lop [(5, .int .i64)] [20, 21, 22, 23, 24, 25, 26] (.seq (.seq (.reg [.non, .bool]) (.cnd .z .z)) (.seq (.blk (.reg [.non, .non, .ptr])) (.reg [.non, .int .i64])))))) (.seq (.reg []) .z))))))
theorem fn16 : tb.fn.get 16 = some Tryz.f16 := by kernel_rfl
theorem an16_ok : anB tb Tryz.f16.ntmps an16 (bodyOf Tryz.f16) = true := by kernel_rfl
theorem F16_eq : (fun (a0 : AV) (M : Mem) (Q : AV → Mem → Prop) => zCs [.l .any] [a0] fun args => wZ tb an16 (bodyOf Tryz.f16) (enterA Tryz.f16 args M) (retQ tb Tryz.f16 Q)) = fun (a0 : AV) (M : Mem) (Q : AV → Mem → Prop) => F16 a0 M Q := by kernel_rfl
theorem F16_ok {a0 : AV} {M : Mem} {Q : AV → Mem → Prop} (h : F16 a0 M Q) : CallA tb.P 16 [a0] M Q :=
  calla_wZ tb_ok tb_mix fn16 (c := bodyOf Tryz.f16) rfl an16_ok (ks := [.l .any]) (cast (congrFun (congrFun (congrFun F16_eq a0) M) Q).symm h)

def F17 (a0 a1 : AV) (M : Mem) (Q : AV → Mem → Prop) : Prop :=
  bindO (eLen tb false 23 a0 M) fun y1 => zI .i64 y1.1 fun z2 => bindO (eLen tb false 23 a0 M) fun y3 => zI .i64 y3.1 fun z4 => bindO (eSl tb 23 a0 (some (.val (.int .i64 z2))) (some (.val (.int .i64 (iAdd .i64 z4 3)))) none M) fun y5 => ∃ J6 : Int → Nat → Mem → Prop, (∃ n7 : Nat, J6 (0 : Int) n7 M) ∧
  ∀ (_ : Nat → Option AV) (z8 : Int) (n9 : Nat) (M10 : Mem), J6 z8 n9 M10 →
  (condB (decide (z8 < (3 : Int))) (bindO (eIA tb 23 y5.1 (.val (.int .i64 z8)) M10) fun y11 => zP y11.1 fun p12 o13 => bindO (eLd tb 5 (.ptr p12 o13) M10) fun y14 => zI .u8 y14.1 fun z15 => condB (z15 !=
  (119 : Int)) (Q (.val (.bool false)) M10) (∃ k16 : Nat, k16 < n9 ∧ (J6 (iAdd .i64 z8 1) k16 M10))) (CallA tb.P 19 [a0, a1] M10 fun y17 M18 => zB y17 fun b19 => Q (.val (.bool b19)) M18))
def an17 : An := (.seq (.reg []) (.seq (.reg [.non, .non, .int .i64, .non, .int .i64, .int .i64]) (.seq (.seq (.reg []) (.blk (.lop [(6, .int .i64)] [4, 14, 15, 16, 17, 18, 19, 20, 21, 22] (.seq (.seq (.reg [.non, .bool]) (.cnd .z .z)) (.seq (.blk (.seq (.reg [.non, .non, .ptr, .int .u8, .bool]) (.cnd (.seq (.reg []) .z) .z))) (.reg [.non, .int .i64])))))) (.seq (.reg [.non, .non, .bool]) .z))))
theorem fn17 : tb.fn.get 17 = some Tryz.f17 := by kernel_rfl
theorem an17_ok : anB tb Tryz.f17.ntmps an17 (bodyOf Tryz.f17) = true := by kernel_rfl
theorem F17_eq : (fun (a0 a1 : AV) (M : Mem) (Q : AV → Mem → Prop) => zCs [.l .any, .l .any] [a0, a1] fun args => wZ tb an17 (bodyOf Tryz.f17) (enterA Tryz.f17 args M) (retQ tb Tryz.f17 Q)) = fun (a0 a1 : AV) (M : Mem) (Q : AV → Mem → Prop) => F17 a0 a1 M Q := by kernel_rfl
theorem F17_ok {a0 a1 : AV} {M : Mem} {Q : AV → Mem → Prop} (h : F17 a0 a1 M Q) : CallA tb.P 17 [a0, a1] M Q :=
  calla_wZ tb_ok tb_mix fn17 (c := bodyOf Tryz.f17) rfl an17_ok (ks := [.l .any, .l .any]) (cast (congrFun (congrFun (congrFun (congrFun F17_eq a0) a1) M) Q).symm h)

def F18 (a0 : AV) (M : Mem) (Q : AV → Mem → Prop) : Prop :=
  ∃ J1 : Int → Nat → Mem → Prop, (∃ n2 : Nat, J1 (0 : Int) n2 M) ∧ ∀ (_ : Nat → Option AV) (z3 : Int) (n4 : Nat) (M5 : Mem), J1 z3 n4 M5 →
  (bindO (eLen tb false 23 a0 M5) fun y6 => zI .i64 y6.1 fun z7 => condB (decide (z3 < z7)) (bindO (eIA tb 23 a0 (.val (.int .i64 z3)) M5) fun y8 => zP y8.1 fun p9 o10 => bindO (eSt tb 5 (.ptr p9 o10) (.val (.int .u8 238)) M5) fun y11 => ∃ k12 : Nat, k12 < n4 ∧
  (J1 (iAdd .i64 z3 1) k12 y11.2)) (letP (M5.new (.cells [(.val (.int .u8 238))] true)) fun M13 => bindO (evAppend tb 23 23 a0 (.sl M5.next 0 1 1 none) M13) fun y14 => Q (.tup []) y14.2))
def an18 : An := (.seq (.seq (.reg []) (.blk (.lop [(2, .int .i64)] [3, 4, 5, 6, 7, 8, 9, 10, 11] (.seq (.seq (.reg [.non, .non, .int .i64, .bool]) (.cnd .z .z)) (.seq (.blk (.reg [.non, .non, .ptr])) (.reg [.non, .int .i64])))))) (.reg []))
theorem fn18 : tb.fn.get 18 = some Tryz.f18 := by kernel_rfl
theorem an18_ok : anB tb Tryz.f18.ntmps an18 (bodyOf Tryz.f18) = true := by kernel_rfl
theorem F18_eq : (fun (a0 : AV) (M : Mem) (Q : AV → Mem → Prop) => zCs [.l .any] [a0] fun args => wZ tb an18 (bodyOf Tryz.f18) (enterA Tryz.f18 args M) (retQ tb Tryz.f18 Q)) = fun (a0 : AV) (M : Mem) (Q : AV → Mem → Prop) => F18 a0 M Q := by kernel_rfl
theorem F18_ok {a0 : AV} {M : Mem} {Q : AV → Mem → Prop} (h : F18 a0 M Q) : CallA tb.P 18 [a0] M Q :=
  calla_wZ tb_ok tb_mix fn18 (c := bodyOf Tryz.f18) rfl an18_ok (ks := [.l .any]) (cast (congrFun (congrFun (congrFun F18_eq a0) M) Q).symm h)

def F19 (a0 a1 : AV) (M : Mem) (Q : AV → Mem → Prop) : Prop :=
  bindO (eLen tb false 23 a0 M) fun y1 => zI .i64 y1.1 fun z2 => bindO (eLen tb false 23 a1 M) fun y3 => zI .i64 y3.1 fun z4 => condB (z2 !=
  z4) (Q (.val (.bool false)) M) (∃ J5 : Int → Nat → Mem → Prop, (∃ n6 : Nat, J5 (0 : Int) n6 M) ∧ ∀ (_ : Nat → Option AV) (z7 : Int) (n8 : Nat) (M9 : Mem), J5 z7 n8 M9 →
  (bindO (eLen tb false 23 a0 M9) fun y10 => zI .i64 y10.1 fun z11 => condB (decide (z7 < z11)) (bindO (eIA tb 23 a0 (.val (.int .i64 z7)) M9) fun y12 => zP y12.1 fun p13 o14 => bindO (eIA tb 23 a1 (.val (.int .i64 z7)) M9) fun y15 => zP y15.1 fun p16 o17 => bindO (eLd tb 5 (.ptr p13 o14) M9) fun y18 => zI .u8 y18.1 fun z19 => bindO (eLd tb 5 (.ptr p16 o17) M9) fun y20 => zI .u8 y20.1 fun z21 => condB (z19 !=
  z21) (Q (.val (.bool false)) M9) (∃ k22 : Nat, k22 < n8 ∧ (J5 (iAdd .i64 z7 1) k22 M9))) (Q (.val (.bool true)) M9)))
def an19 : An := (.seq (.reg []) (.seq (.seq (.reg [.non, .int .i64, .non, .int .i64, .bool]) (.cnd (.seq (.reg []) .z) .z)) (.seq (.seq (.reg []) (.blk (.lop [(5, .int .i64)] [4, 11, 12, 13, 14, 15, 16, 17, 18, 19, 20, 21, 22, 23, 24, 25] (.seq (.seq (.reg [.non, .non, .int .i64, .bool]) (.cnd .z .z)) (.seq (.blk (.seq (.opn [(0, []), (1, []), (2, []), (4, []), (5, []), (6, []), (3, []), (7, []), (8, [])] [] [] 0 [.non, .non, .ptr, .non, .non, .ptr, .int .u8, .int .u8, .bool]) (.cnd (.seq (.reg []) .z) .z))) (.reg [.non, .int .i64])))))) (.seq (.reg []) .z))))
theorem fn19 : tb.fn.get 19 = some Tryz.f19 := by kernel_rfl
theorem an19_ok : anB tb Tryz.f19.ntmps an19 (bodyOf Tryz.f19) = true := by kernel_rfl
theorem F19_eq : (fun (a0 a1 : AV) (M : Mem) (Q : AV → Mem → Prop) => zCs [.l .any, .l .any] [a0, a1] fun args => wZ tb an19 (bodyOf Tryz.f19) (enterA Tryz.f19 args M) (retQ tb Tryz.f19 Q)) = fun (a0 a1 : AV) (M : Mem) (Q : AV → Mem → Prop) => F19 a0 a1 M Q := by kernel_rfl
theorem F19_ok {a0 a1 : AV} {M : Mem} {Q : AV → Mem → Prop} (h : F19 a0 a1 M Q) : CallA tb.P 19 [a0, a1] M Q :=
  calla_wZ tb_ok tb_mix fn19 (c := bodyOf Tryz.f19) rfl an19_ok (ks := [.l .any, .l .any]) (cast (congrFun (congrFun (congrFun (congrFun F19_eq a0) a1) M) Q).symm h)

def F20 (a0 a1 : AV) (M : Mem) (Q : AV → Mem → Prop) : Prop :=
  ∃ (z1 : Int) (z2 : Int) (z3 : Int), a1 = (.agg [(.val (.int .i64 z1)), (.val (.int .i64 z2)), (.val (.int .u8 z3))]) ∧
  letP (M.new (.cells [(.val (.int .i64 z1)), (.val (.int .i64 z2)), (.val (.int .u8 z3))] true)) fun M4 => bindO (eBin tb .eql 33 (.tmp 6) (.const (.pointer none)) a0 (.val (.pointer none)) M4) fun y5 => zB y5.1 fun b6 => condB (b6) (Q (.val (.int .i64 1)) M4) (bindO (eNil a0 M4) fun y7 => bindO (eFA tb 83 y7.1 3 M4) fun y8 => zP y8.1 fun p9 o10 => bindO (eLd tb 4 (.ptr p9 o10) M4) fun y11 => zB y11.1 fun b12 => condB (b12) (Q (.val (.int .i64 9)) M4) (letP (fun (b21 : Bool) => condB (b21) (Q (.val (.int .i64 2)) M4) (bindO (eNil a0 M4) fun y23 => bindO (eFA tb 83 y23.1 4 M4) fun y24 => zP y24.1 fun p25 o26 => bindO (eLd tb 47 (.ptr M.next 0) M4) fun y27 => ∃ (z28 : Int) (z29 : Int) (z30 : Int), y27.1 =
  (.agg [(.val (.int .i64 z28)), (.val (.int .i64 z29)), (.val (.int .u8 z30))]) ∧
  (bindO (eLd tb 3 (.ptr p25 o26) M4) fun y31 => zI .i64 y31.1 fun z32 => bindO (eNil a0 M4) fun y33 => bindO (eFA tb 83 y33.1 6 M4) fun y34 => zP y34.1 fun p35 o36 => bindO (eLd tb 3 (.ptr M.next 0) M4) fun y37 => zI .i64 y37.1 fun z38 => bindO (eSt tb 47 (.ptr p35 o36) (.agg [(.val (.int .i64 z28)), (.val (.int .i64 z29)), (.val (.int .u8 z30))]) M4) fun y39 => (bindO (eLd tb 3 (.ptr M.next 0) y39.2) fun y40 => (some (.val (.int .i64 z38)) : Option AV) =
  some y40.1) ∧
  (bindO (eNil a0 y39.2) fun y41 => bindO (eFA tb 83 y41.1 7 y39.2) fun y42 => zP y42.1 fun p43 o44 => bindO (eSt tb 3 (.ptr p43 o44) (.val (.int .i64 (iAdd .i64 z32 z38))) y39.2) fun y45 => Q (.val (.int .i64 0)) y45.2)))) fun K22 => bindO (eLd tb 3 (.ptr M.next 0) M4) fun y13 => zI .i64 y13.1 fun z14 => condB (decide (z14 < (1 : Int))) (K22 true) (bindO (eLd tb 3 (.ptr M.next 0) M4) fun y15 => zI .i64 y15.1 fun z16 => condB (decide (z16 > (1073741824 : Int))) (K22 true) (bindO (eLd tb 3 (.ptr M.next 1) M4) fun y17 => zI .i64 y17.1 fun z18 => condB (decide (z18 < (0 : Int))) (K22 true) (bindO (eLd tb 3 (.ptr M.next 1) M4) fun y19 => zI .i64 y19.1 fun z20 => K22 (decide (z20 > (1073741824 : Int))))))))
def an20 : An := (.seq (.reg []) (.seq (.blk (.seq (.reg [.non, .bool]) (.cnd (.seq (.reg []) .z) (.seq (.reg [.non, .non, .ptr, .bool]) (.cnd (.seq (.reg []) .z) (.seq (.reg [.ptr, .int .i64, .bool, .spl, .ptr, .int .i64, .bool, .non, .spl, .ptr, .int .i64, .bool, .non, .spl, .ptr, .int .i64, .bool]) (.cnd (.seq (.reg []) .z) .z))))))) (.seq (.opn [(0, []), (1, []), (3, []), (4, []), (5, []), (7, []), (2, []), (6, []), (10, []), (11, []), (8, []), (9, []), (12, [8]), (13, []), (14, []), (15, [])] [] [[], [], [], [], [], [], [], [], [], [], [], [], [8]] 0 [.non, .non, .non, .non, .ptr, .ptr, .agg [.int .i64, .int .i64, .int .u8], .int .i64, .non, .ptr, .int .i64, .int .i64, .non, .non, .ptr, .non]) (.seq (.reg []) .z))))
theorem fn20 : tb.fn.get 20 = some Tryz.f20 := by kernel_rfl
theorem an20_ok : anB tb Tryz.f20.ntmps an20 (bodyOf Tryz.f20) = true := by kernel_rfl
theorem F20_eq : (fun (a0 a1 : AV) (M : Mem) (Q : AV → Mem → Prop) => zCs [.l .any, .a [.int .i64, .int .i64, .int .u8]] [a0, a1] fun args => wZ tb an20 (bodyOf Tryz.f20) (enterA Tryz.f20 args M) (retQ tb Tryz.f20 Q)) = fun (a0 a1 : AV) (M : Mem) (Q : AV → Mem → Prop) => F20 a0 a1 M Q := by kernel_rfl
theorem F20_ok {a0 a1 : AV} {M : Mem} {Q : AV → Mem → Prop} (h : F20 a0 a1 M Q) : CallA tb.P 20 [a0, a1] M Q :=
  calla_wZ tb_ok tb_mix fn20 (c := bodyOf Tryz.f20) rfl an20_ok (ks := [.l .any, .a [.int .i64, .int .i64, .int .u8]]) (cast (congrFun (congrFun (congrFun (congrFun F20_eq a0) a1) M) Q).symm h)

def F21 (a0 a1 : AV) (M : Mem) (Q : AV → Mem → Prop) : Prop :=
  ∃ (z1 : Int) (z2 : Int), a1 = (.agg [(.val (.int .i64 z1)), (.val (.int .i64 z2))]) ∧
  letP (M.new (.cells [(.val (.int .i64 z1)), (.val (.int .i64 z2))] true)) fun M3 => bindO (eLd tb 50 (.ptr M.next 0) M3) fun y4 => ∃ (z5 : Int) (z6 : Int), y4.1 =
  (.agg [(.val (.int .i64 z5)), (.val (.int .i64 z6))]) ∧ (CallA tb.P 45 [a0, (.agg [(.val (.int .i64 z5)), (.val (.int .i64 z6))])] M3 fun y7 M8 => zI .i64 y7 fun z9 => condB (z9 !=
  (0 : Int)) (Q (.tup [(.val (.slice none 0 0)), (.val (.int .i64 z9))]) M8) (CallA tb.P 46 [a0] M8 fun y10 M11 => zB y10 fun b12 => condB (b12) (Q (.tup [(.val (.slice none 0 0)), (.val (.int .i64 9))]) M11) (bindO (eLd tb 50 (.ptr M.next 0) M11) fun y13 => ∃ (z14 : Int) (z15 : Int), y13.1 =
  (.agg [(.val (.int .i64 z14)), (.val (.int .i64 z15))]) ∧
  (CallA tb.P 47 [a0, (.agg [(.val (.int .i64 z14)), (.val (.int .i64 z15))])] M11 fun y16 M17 => CallA tb.P 25 [y16] M17 fun y18 M19 => Q (.tup [y18, (.val (.int .i64 0))]) M19))))
def an21 : An := (.seq (.reg []) (.seq (.seq (.reg [.non, .agg [.int .i64, .int .i64], .int .i64]) (.seq (.reg [.non, .bool]) (.cnd (.seq (.reg []) .z) .z))) (.seq (.seq (.reg [.non, .bool]) (.cnd (.seq (.reg []) .z) .z)) (.seq (.reg [.non, .agg [.int .i64, .int .i64]]) .z))))
theorem fn21 : tb.fn.get 21 = some Tryz.f21 := by kernel_rfl
theorem an21_ok : anB tb Tryz.f21.ntmps an21 (bodyOf Tryz.f21) = true := by kernel_rfl
theorem F21_eq : (fun (a0 a1 : AV) (M : Mem) (Q : AV → Mem → Prop) => zCs [.l .any, .a [.int .i64, .int .i64]] [a0, a1] fun args => wZ tb an21 (bodyOf Tryz.f21) (enterA Tryz.f21 args M) (retQ tb Tryz.f21 Q)) = fun (a0 a1 : AV) (M : Mem) (Q : AV → Mem → Prop) => F21 a0 a1 M Q := by kernel_rfl
theorem F21_ok {a0 a1 : AV} {M : Mem} {Q : AV → Mem → Prop} (h : F21 a0 a1 M Q) : CallA tb.P 21 [a0, a1] M Q :=
  calla_wZ tb_ok tb_mix fn21 (c := bodyOf Tryz.f21) rfl an21_ok (ks := [.l .any, .a [.int .i64, .int .i64]]) (cast (congrFun (congrFun (congrFun (congrFun F21_eq a0) a1) M) Q).symm h)

def F22 (a0 a1 : AV) (M : Mem) (Q : AV → Mem → Prop) : Prop :=
  zI .u8 a0 fun z1 => zI .i64 a1 fun z2 => bindO (evMakeSlice tb 23 (.val (.int .i64 z2)) (.val (.int .i64 z2)) M) fun y3 => ∃ J4 : Int → Nat → Mem → Prop, (∃ n5 : Nat, J4 (0 : Int) n5 y3.2) ∧
  ∀ (_ : Nat → Option AV) (z6 : Int) (n7 : Nat) (M8 : Mem), J4 z6 n7 M8 →
  (condB (decide (z6 < z2)) (bindO (eIA tb 23 y3.1 (.val (.int .i64 z6)) M8) fun y9 => zP y9.1 fun p10 o11 => bindO (eSt tb 5 (.ptr p10 o11) (.val (.int .u8 (iAdd .u8 z1 (IntKind.wrap .u8 z6)))) M8) fun y12 => ∃ k13 : Nat, k13 < n7 ∧
  (J4 (iAdd .i64 z6 1) k13 y12.2)) (Q y3.1 M8))
def an22 : An := (.seq (.reg []) (.seq (.reg []) (.seq (.seq (.reg []) (.blk (.lop [(6, .int .i64)] [9, 10, 11, 12, 13, 14, 15, 16, 17, 18, 19, 20] (.seq (.seq (.reg [.non, .non, .bool]) (.cnd .z .z)) (.seq (.blk (.reg [.non, .non, .non, .non, .int .u8, .int .u8, .ptr])) (.reg [.non, .int .i64])))))) (.seq (.reg []) .z))))
theorem fn22 : tb.fn.get 22 = some Tryz.f22 := by kernel_rfl
theorem an22_ok : anB tb Tryz.f22.ntmps an22 (bodyOf Tryz.f22) = true := by kernel_rfl
theorem F22_eq : (fun (a0 a1 : AV) (M : Mem) (Q : AV → Mem → Prop) => zCs [.l (.int .u8), .l (.int .i64)] [a0, a1] fun args => wZ tb an22 (bodyOf Tryz.f22) (enterA Tryz.f22 args M) (retQ tb Tryz.f22 Q)) = fun (a0 a1 : AV) (M : Mem) (Q : AV → Mem → Prop) => F22 a0 a1 M Q := by kernel_rfl
theorem F22_ok {a0 a1 : AV} {M : Mem} {Q : AV → Mem → Prop} (h : F22 a0 a1 M Q) : CallA tb.P 22 [a0, a1] M Q :=
  calla_wZ tb_ok tb_mix fn22 (c := bodyOf Tryz.f22) rfl an22_ok (ks := [.l (.int .u8), .l (.int .i64)]) (cast (congrFun (congrFun (congrFun (congrFun F22_eq a0) a1) M) Q).symm h)

def F23 (a0 a1 : AV) (M : Mem) (Q : AV → Mem → Prop) : Prop :=
  zI .i64 a1 fun z1 => bindO (eBin tb .eql 22 (.tmp 6) (.const (.pointer none)) a0 (.val (.pointer none)) M) fun y2 => zB y2.1 fun b3 => condB (b3) (Q (.val (.int .i64 1)) M) (bindO (eNil a0 M) fun y4 => bindO (eFA tb 60 y4.1 0 M) fun y5 => zP y5.1 fun p6 o7 => bindO (eLd tb 33 (.ptr p6 o7) M) fun y8 => CallA tb.P 26 [y8.1] M fun y9 M10 => zB y9 fun b11 => condB (!b11) (Q (.val (.int .i64 9)) M10) (letP (fun (b25 : Bool) (M26 : Mem) => condB (b25) (Q (.val (.int .i64 2)) M26) (Q (.val (.int .i64 0)) M26)) fun K27 => condB (decide (z1 < (0 : Int))) (K27 true M10) (bindO (eNil a0 M10) fun y12 => bindO (eFA tb 60 y12.1 1 M10) fun y13 => zP y13.1 fun p14 o15 => bindO (eLd tb 40 (.ptr p14 o15) M10) fun y16 => ∃ (z17 : Int) (z18 : Int) (z19 : Int) (z20 : Int) (z21 : Int), y16.1 =
  (.agg [(.val (.int .i64 z17)), (.val (.int .i64 z18)), (.val (.int .i64 z19)), (.val (.int .i64 z20)), (.val (.int .i64 z21))]) ∧
  (CallA tb.P 38 [(.agg [(.val (.int .i64 z17)), (.val (.int .i64 z18)), (.val (.int .i64 z19)), (.val (.int .i64 z20)), (.val (.int .i64 z21))])] M10 fun y22 M23 => zI .i64 y22 fun z24 => K27 (decide (z1 ≥ z24)) M23))))
def an23 : An := (.seq (.reg []) (.seq (.blk (.seq (.reg [.non, .bool]) (.cnd (.seq (.reg []) .z) (.seq (.reg [.non, .non, .ptr, .non, .bool, .bool]) (.cnd (.seq (.reg []) .z) (.seq (.reg [.non, .bool, .spl, .non, .non, .non, .ptr, .agg [.int .i64, .int .i64, .int .i64, .int .i64, .int .i64], .int .i64, .bool]) (.cnd (.seq (.reg []) .z) .z))))))) (.seq (.reg []) .z)))
theorem fn23 : tb.fn.get 23 = some Tryz.f23 := by kernel_rfl
theorem an23_ok : anB tb Tryz.f23.ntmps an23 (bodyOf Tryz.f23) = true := by kernel_rfl
theorem F23_eq : (fun (a0 a1 : AV) (M : Mem) (Q : AV → Mem → Prop) => zCs [.l .any, .l (.int .i64)] [a0, a1] fun args => wZ tb an23 (bodyOf Tryz.f23) (enterA Tryz.f23 args M) (retQ tb Tryz.f23 Q)) = fun (a0 a1 : AV) (M : Mem) (Q : AV → Mem → Prop) => F23 a0 a1 M Q := by kernel_rfl
theorem F23_ok {a0 a1 : AV} {M : Mem} {Q : AV → Mem → Prop} (h : F23 a0 a1 M Q) : CallA tb.P 23 [a0, a1] M Q :=
  calla_wZ tb_ok tb_mix fn23 (c := bodyOf Tryz.f23) rfl an23_ok (ks := [.l .any, .l (.int .i64)]) (cast (congrFun (congrFun (congrFun (congrFun F23_eq a0) a1) M) Q).symm h)

def F24 (a0 a1 : AV) (M : Mem) (Q : AV → Mem → Prop) : Prop :=
  zI .i64 a1 fun z1 => bindO (eNil a0 M) fun y2 => bindO (eFA tb 60 y2.1 4 M) fun y3 => zP y3.1 fun p4 o5 => bindO (eLd tb 57 (.ptr p4 o5) M) fun y6 => bindO (eLk tb 57 y6.1 (.val (.int .i64 z1)) true M) fun y7 => ∃ (x8 : AV) (b9 : Bool), y7.1 =
  (.tup [x8, (.val (.bool b9))]) ∧
  (condB (b9) (bindO (eBin tb .neq 23 (.tmp 21) (.const (.slice none 0 0)) x8 (.val (.slice none 0 0)) M) fun y10 => zB y10.1 fun b11 => Q (.tup [x8, (.val (.bool b11))]) M) (bindO (eNil a0 M) fun y12 => bindO (eFA tb 60 y12.1 3 M) fun y13 => zP y13.1 fun p14 o15 => bindO (eLd tb 57 (.ptr p14 o15) M) fun y16 => bindO (eLk tb 57 y16.1 (.val (.int .i64 z1)) true M) fun y17 => ∃ (x18 : AV) (b19 : Bool), y17.1 =
  (.tup [x18, (.val (.bool b19))]) ∧ (Q (.tup [x18, (.val (.bool b19))]) M)))
def an24 : An := (.seq (.reg []) (.seq (.seq (.reg [.non, .non, .ptr, .non, .non, .tup [.l .any, .l .bool], .non, .non, .bool]) (.seq (.reg []) (.cnd (.seq (.reg [.non, .non, .bool]) .z) .z))) (.seq (.reg [.non, .non, .ptr, .non, .non, .tup [.l .any, .l .bool], .non, .non, .bool]) (.seq (.reg []) .z))))
theorem fn24 : tb.fn.get 24 = some Tryz.f24 := by kernel_rfl
theorem an24_ok : anB tb Tryz.f24.ntmps an24 (bodyOf Tryz.f24) = true := by kernel_rfl
theorem F24_eq : (fun (a0 a1 : AV) (M : Mem) (Q : AV → Mem → Prop) => zCs [.l .any, .l (.int .i64)] [a0, a1] fun args => wZ tb an24 (bodyOf Tryz.f24) (enterA Tryz.f24 args M) (retQ tb Tryz.f24 Q)) = fun (a0 a1 : AV) (M : Mem) (Q : AV → Mem → Prop) => F24 a0 a1 M Q := by kernel_rfl
theorem F24_ok {a0 a1 : AV} {M : Mem} {Q : AV → Mem → Prop} (h : F24 a0 a1 M Q) : CallA tb.P 24 [a0, a1] M Q :=
  calla_wZ tb_ok tb_mix fn24 (c := bodyOf Tryz.f24) rfl an24_ok (ks := [.l .any, .l (.int .i64)]) (cast (congrFun (congrFun (congrFun (congrFun F24_eq a0) a1) M) Q).symm h)

def F25 (a0 : AV) (M : Mem) (Q : AV → Mem → Prop) : Prop :=
  bindO (eBin tb .eql 23 (.tmp 3) (.const (.slice none 0 0)) a0 (.val (.slice none 0 0)) M) fun y1 => zB y1.1 fun b2 => condB (b2) (Q (.val (.slice none 0 0)) M) (letP (M.new (.cells [] true)) fun M3 => bindO (evAppend tb 23 23 (.sl M.next 0 0 0 none) a0 M3) fun y4 => Q y4.1 y4.2)
def an25 : An := (.seq (.reg []) (.seq (.seq (.reg [.non, .bool]) (.cnd (.seq (.reg []) .z) .z)) (.seq (.reg []) .z)))
theorem fn25 : tb.fn.get 25 = some Tryz.f25 := by kernel_rfl
theorem an25_ok : anB tb Tryz.f25.ntmps an25 (bodyOf Tryz.f25) = true := by kernel_rfl
theorem F25_eq : (fun (a0 : AV) (M : Mem) (Q : AV → Mem → Prop) => zCs [.l .any] [a0] fun args => wZ tb an25 (bodyOf Tryz.f25) (enterA Tryz.f25 args M) (retQ tb Tryz.f25 Q)) = fun (a0 : AV) (M : Mem) (Q : AV → Mem → Prop) => F25 a0 M Q := by kernel_rfl
theorem F25_ok {a0 : AV} {M : Mem} {Q : AV → Mem → Prop} (h : F25 a0 M Q) : CallA tb.P 25 [a0] M Q :=
  calla_wZ tb_ok tb_mix fn25 (c := bodyOf Tryz.f25) rfl an25_ok (ks := [.l .any]) (cast (congrFun (congrFun (congrFun F25_eq a0) M) Q).symm h)

def F26 (a0 : AV) (M : Mem) (Q : AV → Mem → Prop) : Prop :=
  letP (fun (b9 : Bool) => Q (.val (.bool b9)) M) fun K10 => bindO (eBin tb .neq 33 (.tmp 3) (.const (.pointer none)) a0 (.val (.pointer none)) M) fun y1 => zB y1.1 fun b2 => condB (b2) (bindO (eNil a0 M) fun y3 => bindO (eFA tb 83 y3.1 3 M) fun y4 => zP y4.1 fun p5 o6 => bindO (eLd tb 4 (.ptr p5 o6) M) fun y7 => zB y7.1 fun b8 => K10 (!b8)) (K10 false)
def an26 : An := (.seq (.reg []) (.seq (.reg [.non, .bool, .spl, .non, .non, .ptr, .bool, .bool]) .z))
theorem fn26 : tb.fn.get 26 = some Tryz.f26 := by kernel_rfl
theorem an26_ok : anB tb Tryz.f26.ntmps an26 (bodyOf Tryz.f26) = true := by kernel_rfl
theorem F26_eq : (fun (a0 : AV) (M : Mem) (Q : AV → Mem → Prop) => zCs [.l .any] [a0] fun args => wZ tb an26 (bodyOf Tryz.f26) (enterA Tryz.f26 args M) (retQ tb Tryz.f26 Q)) = fun (a0 : AV) (M : Mem) (Q : AV → Mem → Prop) => F26 a0 M Q := by kernel_rfl
theorem F26_ok {a0 : AV} {M : Mem} {Q : AV → Mem → Prop} (h : F26 a0 M Q) : CallA tb.P 26 [a0] M Q :=
  calla_wZ tb_ok tb_mix fn26 (c := bodyOf Tryz.f26) rfl an26_ok (ks := [.l .any]) (cast (congrFun (congrFun (congrFun F26_eq a0) M) Q).symm h)

def F27 (a0 : AV) (M : Mem) (Q : AV → Mem → Prop) : Prop :=
  letP (M.new (.cells [(.val (.int .i64 0)), (.val (.int .i64 0)), (.val (.int .i64 0)), (.val (.int .i64 0)), (.val (.int .i64 0))] true)) fun M1 => bindO (eBin tb .eql 33 (.tmp 3) (.const (.pointer none)) a0 (.val (.pointer none)) M1) fun y2 => zB y2.1 fun b3 => condB (b3) (bindO (eSt tb 40 (.ptr M.next 0) (.agg [(.val (.int .i64 0)), (.val (.int .i64 0)), (.val (.int .i64 0)), (.val (.int .i64 0)), (.val (.int .i64 0))]) M1) fun y4 => bindO (eRes tb [.c 40 (.ptr M.next 0)] y4.2) fun x5 => Q x5 y4.2) (bindO (eNil a0 M1) fun y6 => bindO (eFA tb 83 y6.1 0 M1) fun y7 => zP y7.1 fun p8 o9 => bindO (eLd tb 40 (.ptr p8 o9) M1) fun y10 => ∃ (z11 : Int) (z12 : Int) (z13 : Int) (z14 : Int) (z15 : Int), y10.1 =
  (.agg [(.val (.int .i64 z11)), (.val (.int .i64 z12)), (.val (.int .i64 z13)), (.val (.int .i64 z14)), (.val (.int .i64 z15))]) ∧
  (bindO (eSt tb 40 (.ptr M.next 0) (.agg [(.val (.int .i64 z11)), (.val (.int .i64 z12)), (.val (.int .i64 z13)), (.val (.int .i64 z14)), (.val (.int .i64 z15))]) M1) fun y16 => bindO (eRes tb [.c 40 (.ptr M.next 0)] y16.2) fun x17 => Q x17 y16.2))
def an27 : An := (.seq (.reg []) (.seq (.seq (.reg [.non, .bool]) (.cnd (.seq (.reg []) .z) .z)) (.seq (.reg [.non, .non, .ptr, .agg [.int .i64, .int .i64, .int .i64, .int .i64, .int .i64]]) .z)))
theorem fn27 : tb.fn.get 27 = some Tryz.f27 := by kernel_rfl
theorem an27_ok : anB tb Tryz.f27.ntmps an27 (bodyOf Tryz.f27) = true := by kernel_rfl
theorem F27_eq : (fun (a0 : AV) (M : Mem) (Q : AV → Mem → Prop) => zCs [.l .any] [a0] fun args => wZ tb an27 (bodyOf Tryz.f27) (enterA Tryz.f27 args M) (retQ tb Tryz.f27 Q)) = fun (a0 : AV) (M : Mem) (Q : AV → Mem → Prop) => F27 a0 M Q := by kernel_rfl
theorem F27_ok {a0 : AV} {M : Mem} {Q : AV → Mem → Prop} (h : F27 a0 M Q) : CallA tb.P 27 [a0] M Q :=
  calla_wZ tb_ok tb_mix fn27 (c := bodyOf Tryz.f27) rfl an27_ok (ks := [.l .any]) (cast (congrFun (congrFun (congrFun F27_eq a0) M) Q).symm h)

def F28 (a0 a1 : AV) (M : Mem) (Q : AV → Mem → Prop) : Prop :=
  ∃ (z1 : Int) (z2 : Int) (z3 : Int) (z4 : Int) (z5 : Int), a0 = (.agg [(.val (.int .i64 z1)), (.val (.int .i64 z2)), (.val (.int .i64 z3)), (.val (.int .i64 z4)), (.val (.int .i64 z5))]) ∧
  ∃ (z6 : Int) (z7 : Int), a1 = (.agg [(.val (.int .i64 z6)), (.val (.int .i64 z7))]) ∧
  letP (M.new (.cells [(.val (.int .i64 z1)), (.val (.int .i64 z2)), (.val (.int .i64 z3)), (.val (.int .i64 z4)), (.val (.int .i64 z5))] true)) fun M8 => letP (M8.new (.cells [(.val (.int .i64 z6)), (.val (.int .i64 z7))] true)) fun M9 => letP (M9.new (.cells [(.val (.int .i64 0)), (.val (.int .i64 0))] true)) fun M10 => bindO (eLd tb 40 (.ptr M.next 0) M10) fun y11 => ∃ (z12 : Int) (z13 : Int) (z14 : Int) (z15 : Int) (z16 : Int), y11.1 =
  (.agg [(.val (.int .i64 z12)), (.val (.int .i64 z13)), (.val (.int .i64 z14)), (.val (.int .i64 z15)), (.val (.int .i64 z16))]) ∧
  (bindO (eLd tb 50 (.ptr M8.next 0) M10) fun y17 => ∃ (z18 : Int) (z19 : Int), y17.1 = (.agg [(.val (.int .i64 z18)), (.val (.int .i64 z19))]) ∧
  (CallA tb.P 48 [(.agg [(.val (.int .i64 z12)), (.val (.int .i64 z13)), (.val (.int .i64 z14)), (.val (.int .i64 z15)), (.val (.int .i64 z16))]), (.agg [(.val (.int .i64 z18)), (.val (.int .i64 z19))])] M10 fun y20 M21 => zI .i64 y20 fun z22 => letP (fun (b36 : Bool) (M37 : Mem) => condB (b36) (bindO (eSt tb 50 (.ptr M9.next 0) (.agg [(.val (.int .i64 0)), (.val (.int .i64 0))]) M37) fun y39 => bindO (eRes tb [.c 50 (.ptr M9.next 0), .v (.val (.bool false))] y39.2) fun x40 => Q x40 y39.2) (bindO (eLd tb 3 (.ptr M.next 1) M37) fun y41 => zI .i64 y41.1 fun z42 => bindO (eBin tb .quo 3 (.tmp 28) (.tmp 30) (.val (.int .i64 (iAdd .i64 z22 1))) (.val (.int .i64 z42)) M37) fun y43 => zI .i64 y43.1 fun z44 => bindO (eLd tb 3 (.ptr M.next 1) M37) fun y45 => zI .i64 y45.1 fun z46 => bindO (eBin tb .rem 3 (.tmp 32) (.tmp 34) (.val (.int .i64 (iAdd .i64 z22 1))) (.val (.int .i64 z46)) M37) fun y47 => zI .i64 y47.1 fun z48 => bindO (eSt tb 50 (.ptr M9.next 0) (.agg [(.val (.int .i64 z44)), (.val (.int .i64 z48))]) M37) fun y49 => bindO (eRes tb [.c 50 (.ptr M9.next 0), .v (.val (.bool true))] y49.2) fun x50 => Q x50 y49.2)) fun K38 => bindO (eLd tb 40 (.ptr M.next 0) M21) fun y23 => ∃ (z24 : Int) (z25 : Int) (z26 : Int) (z27 : Int) (z28 : Int), y23.1 =
  (.agg [(.val (.int .i64 z24)), (.val (.int .i64 z25)), (.val (.int .i64 z26)), (.val (.int .i64 z27)), (.val (.int .i64 z28))]) ∧
  (CallA tb.P 49 [(.agg [(.val (.int .i64 z24)), (.val (.int .i64 z25)), (.val (.int .i64 z26)), (.val (.int .i64 z27)), (.val (.int .i64 z28))])] M21 fun y29 M30 => zB y29 fun b31 => condB (!b31) (K38 true M30) (condB ((iAdd .i64 z22 1) ==
  (0 : Int)) (K38 true M30) (bindO (eLd tb 3 (.ptr M.next 0) M30) fun y32 => zI .i64 y32.1 fun z33 => bindO (eLd tb 3 (.ptr M.next 1) M30) fun y34 => zI .i64 y34.1 fun z35 => K38 ((iAdd .i64 z22 1) ==
  (iMul .i64 z33 z35)) M30)))))
def an28 : An := (.seq (.reg []) (.seq (.reg [.agg [.int .i64, .int .i64, .int .i64, .int .i64, .int .i64], .agg [.int .i64, .int .i64], .int .i64, .int .i64]) (.seq (.seq (.reg [.agg [.int .i64, .int .i64, .int .i64, .int .i64, .int .i64], .bool, .bool, .spl, .non, .bool, .non, .spl, .non, .ptr, .int .i64, .ptr, .int .i64, .int .i64, .bool]) (.cnd (.seq (.reg []) .z) .z)) (.seq (.opn [(0, []), (1, []), (4, []), (5, []), (2, []), (3, []), (6, []), (7, []), (8, []), (9, []), (10, [])] [] [] 0 [.non, .ptr, .non, .ptr, .int .i64, .int .i64, .int .i64, .int .i64, .non, .non, .non]) .z))))
theorem fn28 : tb.fn.get 28 = some Tryz.f28 := by kernel_rfl
theorem an28_ok : anB tb Tryz.f28.ntmps an28 (bodyOf Tryz.f28) = true := by kernel_rfl
theorem F28_eq : (fun (a0 a1 : AV) (M : Mem) (Q : AV → Mem → Prop) => zCs [.a [.int .i64, .int .i64, .int .i64, .int .i64, .int .i64], .a [.int .i64, .int .i64]] [a0, a1] fun args => wZ tb an28 (bodyOf Tryz.f28) (enterA Tryz.f28 args M) (retQ tb Tryz.f28 Q)) = fun (a0 a1 : AV) (M : Mem) (Q : AV → Mem → Prop) => F28 a0 a1 M Q := by kernel_rfl
theorem F28_ok {a0 a1 : AV} {M : Mem} {Q : AV → Mem → Prop} (h : F28 a0 a1 M Q) : CallA tb.P 28 [a0, a1] M Q :=
  calla_wZ tb_ok tb_mix fn28 (c := bodyOf Tryz.f28) rfl an28_ok (ks := [.a [.int .i64, .int .i64, .int .i64, .int .i64, .int .i64], .a [.int .i64, .int .i64]]) (cast (congrFun (congrFun (congrFun (congrFun F28_eq a0) a1) M) Q).symm h)

def F29 (a0 a1 : AV) (M : Mem) (Q : AV → Mem → Prop) : Prop :=
  zI .i64 a1 fun z1 => letP (fun (b12 : Bool) (M13 : Mem) => Q (.val (.bool b12)) M13) fun K14 => bindO (eBin tb .neq 33 (.tmp 5) (.const (.pointer none)) a0 (.val (.pointer none)) M) fun y2 => zB y2.1 fun b3 => condB (b3) (bindO (eNil a0 M) fun y4 => bindO (eFA tb 83 y4.1 1 M) fun y5 => zP y5.1 fun p6 o7 => bindO (eLd tb 76 (.ptr p6 o7) M) fun y8 => CallA tb.P 50 [y8.1, (.val (.int .i64 z1))] M fun y9 M10 => zB y9 fun b11 => K14 b11 M10) (K14 false M)
def an29 : An := (.seq (.reg []) (.seq (.reg [.non, .bool, .spl, .non, .non, .ptr, .non, .non, .bool]) .z))
theorem fn29 : tb.fn.get 29 = some Tryz.f29 := by kernel_rfl
theorem an29_ok : anB tb Tryz.f29.ntmps an29 (bodyOf Tryz.f29) = true := by kernel_rfl
theorem F29_eq : (fun (a0 a1 : AV) (M : Mem) (Q : AV → Mem → Prop) => zCs [.l .any, .l (.int .i64)] [a0, a1] fun args => wZ tb an29 (bodyOf Tryz.f29) (enterA Tryz.f29 args M) (retQ tb Tryz.f29 Q)) = fun (a0 a1 : AV) (M : Mem) (Q : AV → Mem → Prop) => F29 a0 a1 M Q := by kernel_rfl
theorem F29_ok {a0 a1 : AV} {M : Mem} {Q : AV → Mem → Prop} (h : F29 a0 a1 M Q) : CallA tb.P 29 [a0, a1] M Q :=
  calla_wZ tb_ok tb_mix fn29 (c := bodyOf Tryz.f29) rfl an29_ok (ks := [.l .any, .l (.int .i64)]) (cast (congrFun (congrFun (congrFun (congrFun F29_eq a0) a1) M) Q).symm h)

def F30 (a0 a1 : AV) (M : Mem) (Q : AV → Mem → Prop) : Prop :=
  ∃ (z1 : Int) (z2 : Int), a1 = (.agg [(.val (.int .i64 z1)), (.val (.int .i64 z2))]) ∧
  letP (M.new (.cells [(.val (.int .i64 z1)), (.val (.int .i64 z2))] true)) fun M3 => letP (M3.new (.cells [(.val (.int .i64 0)), (.val (.int .i64 0)), (.val (.int .i64 0)), (.val (.int .i64 0))] true)) fun M4 => bindO (eLd tb 50 (.ptr M.next 0) M4) fun y5 => ∃ (z6 : Int) (z7 : Int), y5.1 =
  (.agg [(.val (.int .i64 z6)), (.val (.int .i64 z7))]) ∧
  (CallA tb.P 51 [a0, (.agg [(.val (.int .i64 z6)), (.val (.int .i64 z7))])] M4 fun y8 M9 => ∃ (x10 : AV) (z11 : Int) (z12 : Int) (z13 : Int) (z14 : Int) (z15 : Int) (z16 : Int), y8 =
  (.tup [x10, (.agg [(.val (.int .i64 z11)), (.val (.int .i64 z12)), (.val (.int .i64 z13)), (.val (.int .i64 z14))]), (.val (.int .i64 z15)), (.val (.int .i64 z16))]) ∧
  (letP (M9.new (.cells [(.val (.int .i64 0)), (.val (.int .i64 0)), (.val (.int .i64 0)), (.val (.int .i64 0))] true)) fun M17 => bindO (eSt tb 64 (.ptr M9.next 0) (.agg [(.val (.int .i64 z11)), (.val (.int .i64 z12)), (.val (.int .i64 z13)), (.val (.int .i64 z14))]) M17) fun y18 => condB (z16 !=
  (0 : Int)) (bindO (eSt tb 64 (.ptr M3.next 0) (.agg [(.val (.int .i64 0)), (.val (.int .i64 0)), (.val (.int .i64 0)), (.val (.int .i64 0))]) y18.2) fun y19 => bindO (eRes tb [.v (.val (.slice none 0 0)), .c 64 (.ptr M3.next 0), .v (.val (.int .i64 z16))] y19.2) fun x20 => Q x20 y19.2) (condB (z15 !=
  (1 : Int)) (bindO (eSt tb 64 (.ptr M3.next 0) (.agg [(.val (.int .i64 0)), (.val (.int .i64 0)), (.val (.int .i64 0)), (.val (.int .i64 0))]) y18.2) fun y21 => bindO (eRes tb [.v (.val (.slice none 0 0)), .c 64 (.ptr M3.next 0), .v (.val (.int .i64 5))] y21.2) fun x22 => Q x22 y21.2) (bindO (eLd tb 64 (.ptr M9.next 0) y18.2) fun y23 => ∃ (z24 : Int) (z25 : Int) (z26 : Int) (z27 : Int), y23.1 =
  (.agg [(.val (.int .i64 z24)), (.val (.int .i64 z25)), (.val (.int .i64 z26)), (.val (.int .i64 z27))]) ∧
  (bindO (eSt tb 64 (.ptr M3.next 0) (.agg [(.val (.int .i64 z24)), (.val (.int .i64 z25)), (.val (.int .i64 z26)), (.val (.int .i64 z27))]) y18.2) fun y28 => bindO (eRes tb [.v x10, .c 64 (.ptr M3.next 0), .v (.val (.int .i64 0))] y28.2) fun x29 => Q x29 y28.2)))))
def an30 : An := (.seq (.reg []) (.seq (.reg [.non, .agg [.int .i64, .int .i64], .tup [.l .any, .a [.int .i64, .int .i64, .int .i64, .int .i64], .l (.int .i64), .l (.int .i64)], .non, .non, .non, .int .i64, .int .i64]) (.seq (.blk (.seq (.reg [.non, .bool]) (.cnd (.seq (.reg []) .z) (.seq (.reg [.non, .bool]) (.cnd (.seq (.reg []) .z) .z))))) (.seq (.opn [(0, []), (2, []), (1, []), (3, []), (4, [])] [] [] 0 [.non, .non, .agg [.int .i64, .int .i64, .int .i64, .int .i64], .non, .non]) .z))))
theorem fn30 : tb.fn.get 30 = some Tryz.f30 := by kernel_rfl
theorem an30_ok : anB tb Tryz.f30.ntmps an30 (bodyOf Tryz.f30) = true := by kernel_rfl
theorem F30_eq : (fun (a0 a1 : AV) (M : Mem) (Q : AV → Mem → Prop) => zCs [.l .any, .a [.int .i64, .int .i64]] [a0, a1] fun args => wZ tb an30 (bodyOf Tryz.f30) (enterA Tryz.f30 args M) (retQ tb Tryz.f30 Q)) = fun (a0 a1 : AV) (M : Mem) (Q : AV → Mem → Prop) => F30 a0 a1 M Q := by kernel_rfl
theorem F30_ok {a0 a1 : AV} {M : Mem} {Q : AV → Mem → Prop} (h : F30 a0 a1 M Q) : CallA tb.P 30 [a0, a1] M Q :=
  calla_wZ tb_ok tb_mix fn30 (c := bodyOf Tryz.f30) rfl an30_ok (ks := [.l .any, .a [.int .i64, .int .i64]]) (cast (congrFun (congrFun (congrFun (congrFun F30_eq a0) a1) M) Q).symm h)

def F31 (a0 : AV) (M : Mem) (Q : AV → Mem → Prop) : Prop :=
  CallA tb.P 52 [a0] M fun y1 M2 => CallA tb.P 54 [y1] M2 fun y3 M4 => CallA tb.P 53 [y3] M4 fun y5 M6 => bindO (eLen tb false 36 y5 M6) fun y7 => zI .i64 y7.1 fun z8 => ∃ J9 : AV → Int → Nat → Mem → Prop, (∃ n10 : Nat, J9 (.val (.slice none 0 0)) (0 : Int) n10 M6) ∧
  ∀ (_ : Nat → Option AV) (x11 : AV) (z12 : Int) (n13 : Nat) (M14 : Mem), J9 x11 z12 n13 M14 → (condB (decide (z12 < z8)) (letP (fun (x36 : AV) (M37 : Mem) => ∃ k39 : Nat, k39 < n13 ∧
  (J9 x36 (iAdd .i64 z12 1) k39 M37)) fun K38 => bindO (eIA tb 36 y5 (.val (.int .i64 z12)) M14) fun y15 => zP y15.1 fun p16 o17 => bindO (eLd tb 3 (.ptr p16 o17) M14) fun y18 => zI .i64 y18.1 fun z19 => bindO (eLk tb 94 y1 (.val (.int .i64 z19)) false M14) fun y20 => ∃ (z21 : Int) (z22 : Int) (z23 : Int) (z24 : Int) (z25 : Int) (z26 : Int), y20.1 =
  (.agg [(.val (.int .i64 z21)), (.val (.int .i64 z22)), (.val (.int .i64 z23)), (.val (.int .i64 z24)), (.val (.int .i64 z25)), (.val (.int .i64 z26))]) ∧ (condB (z23 ==
  (1 : Int)) (bindO (eLk tb 94 y1 (.val (.int .i64 z19)) false M14) fun y27 => ∃ (z28 : Int) (z29 : Int) (z30 : Int) (z31 : Int) (z32 : Int) (z33 : Int), y27.1 =
  (.agg [(.val (.int .i64 z28)), (.val (.int .i64 z29)), (.val (.int .i64 z30)), (.val (.int .i64 z31)), (.val (.int .i64 z32)), (.val (.int .i64 z33))]) ∧
  (letP (M14.new (.cells [(.val (.int .i64 z28)), (.val (.int .i64 z29)), (.val (.int .i64 z30)), (.val (.int .i64 z31)), (.val (.int .i64 z32)), (.val (.int .i64 z33))] true)) fun M34 => bindO (evAppend tb 69 69 x11 (.sl M14.next 0 1 1 none) M34) fun y35 => K38 y35.1 y35.2)) (K38 x11 M14))) (Q x11 M14))
def an31 : An := (.seq (.reg []) (.seq (.reg []) (.seq (.reg []) (.seq (.seq (.reg [.non, .non, .non, .int .i64]) (.blk (.lop [(4, .any), (13, .int .i64)] [6, 14, 15, 16, 17, 18, 19, 20, 21, 22, 23, 24, 25, 26, 27, 28, 29] (.seq (.reg []) (.seq (.cnd .z .z) (.seq (.blk (.seq (.reg [.ptr, .int .i64]) (.seq (.reg [.non, .non, .agg [.int .i64, .int .i64, .int .i64, .int .i64, .int .i64, .int .i64], .non, .int .i64, .bool]) (.cnd (.reg [.non, .non, .non, .agg [.int .i64, .int .i64, .int .i64, .int .i64, .int .i64, .int .i64]]) .z)))) (.reg [.int .i64]))))))) (.seq (.reg []) .z)))))
theorem fn31 : tb.fn.get 31 = some Tryz.f31 := by kernel_rfl
theorem an31_ok : anB tb Tryz.f31.ntmps an31 (bodyOf Tryz.f31) = true := by kernel_rfl
theorem F31_eq : (fun (a0 : AV) (M : Mem) (Q : AV → Mem → Prop) => zCs [.l .any] [a0] fun args => wZ tb an31 (bodyOf Tryz.f31) (enterA Tryz.f31 args M) (retQ tb Tryz.f31 Q)) = fun (a0 : AV) (M : Mem) (Q : AV → Mem → Prop) => F31 a0 M Q := by kernel_rfl
theorem F31_ok {a0 : AV} {M : Mem} {Q : AV → Mem → Prop} (h : F31 a0 M Q) : CallA tb.P 31 [a0] M Q :=
  calla_wZ tb_ok tb_mix fn31 (c := bodyOf Tryz.f31) rfl an31_ok (ks := [.l .any]) (cast (congrFun (congrFun (congrFun F31_eq a0) M) Q).symm h)

def F32 (a0 a1 : AV) (M : Mem) (Q : AV → Mem → Prop) : Prop :=
  zI .i64 a1 fun z1 => letP (M.new (.cells (AV.cells a0) true)) fun M2 => bindO (eLd tb 22 (.ptr M.next 0) M2) fun y3 => bindO (eNil y3.1 M2) fun y4 => bindO (eFA tb 60 y4.1 2 M2) fun y5 => zP y5.1 fun p6 o7 => bindO (eLd tb 56 (.ptr p6 o7) M2) fun y8 => bindO (entsB M2 y8.1) fun g9 => ∃ J10 : List (AV × AV) → AV → Nat → Mem → Prop, (J10 g9.2 (.val (.slice none 0 0)) 0 (hideM M2 g9.1)) ∧
  ∀ (_ : Nat → Option AV) (x11 : AV) (r12 : List (AV × AV)) (M13 : Mem), J10 r12 x11 0 M13 → ((r12 = [] →
  (CallA tb.P 55 [x11, (.fn 56 [] [(.ptr M.next 0)])] (showM M13 g9) fun y33 M34 => Q x11 M34)) ∧ ∀ (i14 : Nat) (x15 x16 : AV), r12[i14]? = some (x15, x16) →
  (letP (M13.new (.cells [(.val (.int .i64 0)), (.val (.int .i64 0))] true)) fun M17 => letP (M17.new (.cells [(.val (.int .i64 0)), (.val (.int .i64 0)), (.val (.int .i64 0)), (.val (.int .i64 0)), (.val (.slice none 0 0))] true)) fun M18 => bindO (eSt tb 50 (.ptr M13.next 0) x15 M18) fun y19 => bindO (eSt tb 68 (.ptr M17.next 0) x16 y19.2) fun y20 => bindO (eLd tb 3 (.ptr M13.next 0) y20.2) fun y21 => zI .i64 y21.1 fun z22 => condB (z22 !=
  z1) (bindO (eLd tb 50 (.ptr M13.next 0) y20.2) fun y23 => ∃ (z24 : Int) (z25 : Int), y23.1 = (.agg [(.val (.int .i64 z24)), (.val (.int .i64 z25))]) ∧
  (bindO (eLd tb 64 (.ptr M17.next 0) y20.2) fun y26 => ∃ (z27 : Int) (z28 : Int) (z29 : Int) (z30 : Int), y26.1 =
  (.agg [(.val (.int .i64 z27)), (.val (.int .i64 z28)), (.val (.int .i64 z29)), (.val (.int .i64 z30))]) ∧
  (letP (y20.2.new (.cells [(.val (.int .i64 z24)), (.val (.int .i64 z25)), (.val (.int .i64 z27)), (.val (.int .i64 z28)), (.val (.int .i64 z29)), (.val (.int .i64 z30))] true)) fun M31 => bindO (evAppend tb 69 69 x11 (.sl y20.2.next 0 1 1 none) M31) fun y32 => J10 (r12.eraseIdx i14) y32.1 0 y32.2))) (J10 (r12.eraseIdx i14) x11 0 y20.2)))
def an32 : An := (.seq (.reg []) (.seq (.reg []) (.seq (.mlp [.non, .non, .ptr] [(5, .any)] [6, 7, 12, 13, 14, 15, 16, 17, 18, 19, 20, 21, 22, 23, 24, 25, 26, 27, 28] [] (.seq (.reg [.ptr, .int .i64, .non, .bool]) (.cnd (.reg [.non, .agg [.int .i64, .int .i64], .ptr, .agg [.int .i64, .int .i64, .int .i64, .int .i64]]) .z))) (.seq (.reg []) (.seq (.reg []) .z)))))
theorem fn32 : tb.fn.get 32 = some Tryz.f32 := by kernel_rfl
theorem an32_ok : anB tb Tryz.f32.ntmps an32 (bodyOf Tryz.f32) = true := by kernel_rfl
theorem F32_eq : (fun (a0 a1 : AV) (M : Mem) (Q : AV → Mem → Prop) => zCs [.l .any, .l (.int .i64)] [a0, a1] fun args => wZ tb an32 (bodyOf Tryz.f32) (enterA Tryz.f32 args M) (retQ tb Tryz.f32 Q)) = fun (a0 a1 : AV) (M : Mem) (Q : AV → Mem → Prop) => F32 a0 a1 M Q := by kernel_rfl
theorem F32_ok {a0 a1 : AV} {M : Mem} {Q : AV → Mem → Prop} (h : F32 a0 a1 M Q) : CallA tb.P 32 [a0, a1] M Q :=
  calla_wZ tb_ok tb_mix fn32 (c := bodyOf Tryz.f32) rfl an32_ok (ks := [.l .any, .l (.int .i64)]) (cast (congrFun (congrFun (congrFun (congrFun F32_eq a0) a1) M) Q).symm h)

def F33 (a0 : AV) (M : Mem) (Q : AV → Mem → Prop) : Prop :=
  CallA tb.P 58 [a0] M fun y1 M2 => zI .i64 y1 fun z3 => bindO (eLen tb false 69 a0 M2) fun y4 => zI .i64 y4.1 fun z5 => ∃ J6 : AV → Int → Nat → Mem → Prop, (∃ n7 : Nat, J6 (.val (.slice none 0 0)) (0 : Int) n7 M2) ∧
  ∀ (_ : Nat → Option AV) (x8 : AV) (z9 : Int) (n10 : Nat) (M11 : Mem), J6 x8 z9 n10 M11 → (condB (decide (z9 < z5)) (letP (fun (x35 : AV) (M36 : Mem) => ∃ k38 : Nat, k38 < n10 ∧
  (J6 x35 (iAdd .i64 z9 1) k38 M36)) fun K37 => bindO (eIA tb 69 a0 (.val (.int .i64 z9)) M11) fun y12 => zP y12.1 fun p13 o14 => bindO (eLd tb 73 (.ptr p13 o14) M11) fun y15 => ∃ (z16 : Int) (z17 : Int) (z18 : Int) (z19 : Int) (z20 : Int) (z21 : Int), y15.1 =
  (.agg [(.val (.int .i64 z16)), (.val (.int .i64 z17)), (.val (.int .i64 z18)), (.val (.int .i64 z19)), (.val (.int .i64 z20)), (.val (.int .i64 z21))]) ∧
  (letP (M11.new (.cells [(.val (.int .i64 0)), (.val (.int .i64 0)), (.val (.int .i64 0)), (.val (.int .i64 0)), (.val (.int .i64 0)), (.val (.int .i64 0))] true)) fun M22 => bindO (eSt tb 73 (.ptr M11.next 0) (.agg [(.val (.int .i64 z16)), (.val (.int .i64 z17)), (.val (.int .i64 z18)), (.val (.int .i64 z19)), (.val (.int .i64 z20)), (.val (.int .i64 z21))]) M22) fun y23 => bindO (eLd tb 3 (.ptr M11.next 5) y23.2) fun y24 => zI .i64 y24.1 fun z25 => condB (decide (z25 > z3)) (bindO (eLd tb 73 (.ptr M11.next 0) y23.2) fun y26 => ∃ (z27 : Int) (z28 : Int) (z29 : Int) (z30 : Int) (z31 : Int) (z32 : Int), y26.1 =
  (.agg [(.val (.int .i64 z27)), (.val (.int .i64 z28)), (.val (.int .i64 z29)), (.val (.int .i64 z30)), (.val (.int .i64 z31)), (.val (.int .i64 z32))]) ∧
  (letP (y23.2.new (.cells [(.val (.int .i64 z27)), (.val (.int .i64 z28)), (.val (.int .i64 z29)), (.val (.int .i64 z30)), (.val (.int .i64 z31)), (.val (.int .i64 z32))] true)) fun M33 => bindO (evAppend tb 69 69 x8 (.sl y23.2.next 0 1 1 none) M33) fun y34 => K37 y34.1 y34.2)) (K37 x8 y23.2))) (Q x8 M11))
def an33 : An := (.seq (.reg []) (.seq (.reg [.non, .int .i64]) (.seq (.reg []) (.seq (.seq (.reg [.non, .int .i64]) (.blk (.lop [(4, .any), (11, .int .i64)] [6, 12, 13, 14, 15, 16, 17, 18, 19, 20, 21, 22, 23, 24] (.seq (.reg []) (.seq (.cnd .z .z) (.seq (.blk (.seq (.reg [.ptr, .agg [.int .i64, .int .i64, .int .i64, .int .i64, .int .i64, .int .i64]]) (.seq (.reg [.ptr, .ptr, .int .i64, .non, .bool]) (.cnd (.reg [.non, .agg [.int .i64, .int .i64, .int .i64, .int .i64, .int .i64, .int .i64]]) .z)))) (.reg [.int .i64]))))))) (.seq (.reg []) .z)))))
theorem fn33 : tb.fn.get 33 = some Tryz.f33 := by kernel_rfl
theorem an33_ok : anB tb Tryz.f33.ntmps an33 (bodyOf Tryz.f33) = true := by kernel_rfl
theorem F33_eq : (fun (a0 : AV) (M : Mem) (Q : AV → Mem → Prop) => zCs [.l .any] [a0] fun args => wZ tb an33 (bodyOf Tryz.f33) (enterA Tryz.f33 args M) (retQ tb Tryz.f33 Q)) = fun (a0 : AV) (M : Mem) (Q : AV → Mem → Prop) => F33 a0 M Q := by kernel_rfl
theorem F33_ok {a0 : AV} {M : Mem} {Q : AV → Mem → Prop} (h : F33 a0 M Q) : CallA tb.P 33 [a0] M Q :=
  calla_wZ tb_ok tb_mix fn33 (c := bodyOf Tryz.f33) rfl an33_ok (ks := [.l .any]) (cast (congrFun (congrFun (congrFun F33_eq a0) M) Q).symm h)

def F34 (a0 : AV) (M : Mem) (Q : AV → Mem → Prop) : Prop :=
  bindO (eNil a0 M) fun y1 => bindO (eFA tb 60 y1.1 1 M) fun y2 => zP y2.1 fun p3 o4 => bindO (eLd tb 3 (.ptr p3 (o4 + 3)) M) fun y5 => zI .i64 y5.1 fun z6 => CallA tb.P 59 [a0] M fun y7 M8 => zI .i64 y7 fun z9 => (bindO (eLd tb 3 (.ptr p3 (o4 + 3)) M8) fun y10 => (some (.val (.int .i64 z6)) : Option AV) =
  some y10.1) ∧
  (condB (decide (z9 ≤ z6)) (Q (.val (.int .i64 0)) M8) (bindO (eNil a0 M8) fun y11 => bindO (eFA tb 60 y11.1 9 M8) fun y12 => zP y12.1 fun p13 o14 => bindO (eSt tb 4 (.ptr p13 o14) (.val (.bool true)) M8) fun y15 => Q (.val (.int .i64 12)) y15.2))
def an34 : An := (.seq (.reg []) (.seq (.seq (.opn [(0, []), (2, []), (3, []), (4, []), (5, []), (6, []), (1, [6]), (7, [])] [] [[], [6]] 0 [.non, .non, .non, .ptr, .ptr, .int .i64, .int .i64, .bool]) (.cnd (.seq (.reg []) .z) .z)) (.seq (.reg [.non, .non, .ptr]) (.seq (.reg []) .z))))
theorem fn34 : tb.fn.get 34 = some Tryz.f34 := by kernel_rfl
theorem an34_ok : anB tb Tryz.f34.ntmps an34 (bodyOf Tryz.f34) = true := by kernel_rfl
theorem F34_eq : (fun (a0 : AV) (M : Mem) (Q : AV → Mem → Prop) => zCs [.l .any] [a0] fun args => wZ tb an34 (bodyOf Tryz.f34) (enterA Tryz.f34 args M) (retQ tb Tryz.f34 Q)) = fun (a0 : AV) (M : Mem) (Q : AV → Mem → Prop) => F34 a0 M Q := by kernel_rfl
theorem F34_ok {a0 : AV} {M : Mem} {Q : AV → Mem → Prop} (h : F34 a0 M Q) : CallA tb.P 34 [a0] M Q :=
  calla_wZ tb_ok tb_mix fn34 (c := bodyOf Tryz.f34) rfl an34_ok (ks := [.l .any]) (cast (congrFun (congrFun (congrFun F34_eq a0) M) Q).symm h)

def F38 (a0 : AV) (M : Mem) (Q : AV → Mem → Prop) : Prop :=
  ∃ (z1 : Int) (z2 : Int) (z3 : Int) (z4 : Int) (z5 : Int), a0 = (.agg [(.val (.int .i64 z1)), (.val (.int .i64 z2)), (.val (.int .i64 z3)), (.val (.int .i64 z4)), (.val (.int .i64 z5))]) ∧
  letP (M.new (.cells [(.val (.int .i64 z1)), (.val (.int .i64 z2)), (.val (.int .i64 z3)), (.val (.int .i64 z4)), (.val (.int .i64 z5))] true)) fun M6 => bindO (eLd tb 40 (.ptr M.next 0) M6) fun y7 => ∃ (z8 : Int) (z9 : Int) (z10 : Int) (z11 : Int) (z12 : Int), y7.1 =
  (.agg [(.val (.int .i64 z8)), (.val (.int .i64 z9)), (.val (.int .i64 z10)), (.val (.int .i64 z11)), (.val (.int .i64 z12))]) ∧
  (CallA tb.P 49 [(.agg [(.val (.int .i64 z8)), (.val (.int .i64 z9)), (.val (.int .i64 z10)), (.val (.int .i64 z11)), (.val (.int .i64 z12))])] M6 fun y13 M14 => zB y13 fun b15 => condB (!b15) (Q (.val (.int .i64 0)) M14) (bindO (eLd tb 40 (.ptr M.next 0) M14) fun y16 => ∃ (z17 : Int) (z18 : Int) (z19 : Int) (z20 : Int) (z21 : Int), y16.1 =
  (.agg [(.val (.int .i64 z17)), (.val (.int .i64 z18)), (.val (.int .i64 z19)), (.val (.int .i64 z20)), (.val (.int .i64 z21))]) ∧
  (CallA tb.P 72 [(.agg [(.val (.int .i64 z17)), (.val (.int .i64 z18)), (.val (.int .i64 z19)), (.val (.int .i64 z20)), (.val (.int .i64 z21))])] M14 fun y22 M23 => zI .i64 y22 fun z24 => Q (.val (.int .i64 z24)) M23)))
def an38 : An := (.seq (.reg []) (.seq (.seq (.reg [.agg [.int .i64, .int .i64, .int .i64, .int .i64, .int .i64], .bool, .bool]) (.cnd (.seq (.reg []) .z) .z)) (.seq (.reg [.agg [.int .i64, .int .i64, .int .i64, .int .i64, .int .i64], .int .i64]) .z)))
theorem fn38 : tb.fn.get 38 = some Tryz.f38 := by kernel_rfl
theorem an38_ok : anB tb Tryz.f38.ntmps an38 (bodyOf Tryz.f38) = true := by kernel_rfl
theorem F38_eq : (fun (a0 : AV) (M : Mem) (Q : AV → Mem → Prop) => zCs [.a [.int .i64, .int .i64, .int .i64, .int .i64, .int .i64]] [a0] fun args => wZ tb an38 (bodyOf Tryz.f38) (enterA Tryz.f38 args M) (retQ tb Tryz.f38 Q)) = fun (a0 : AV) (M : Mem) (Q : AV → Mem → Prop) => F38 a0 M Q := by kernel_rfl
theorem F38_ok {a0 : AV} {M : Mem} {Q : AV → Mem → Prop} (h : F38 a0 M Q) : CallA tb.P 38 [a0] M Q :=
  calla_wZ tb_ok tb_mix fn38 (c := bodyOf Tryz.f38) rfl an38_ok (ks := [.a [.int .i64, .int .i64, .int .i64, .int .i64, .int .i64]]) (cast (congrFun (congrFun (congrFun F38_eq a0) M) Q).symm h)

def F41 (a0 a1 : AV) (M : Mem) (Q : AV → Mem → Prop) : Prop :=
  ∃ (z1 : Int) (z2 : Int) (z3 : Int) (z4 : Int) (z5 : Int), a0 = (.agg [(.val (.int .i64 z1)), (.val (.int .i64 z2)), (.val (.int .i64 z3)), (.val (.int .i64 z4)), (.val (.int .i64 z5))]) ∧
  letP (M.new (.cells [(.val (.int .i64 z1)), (.val (.int .i64 z2)), (.val (.int .i64 z3)), (.val (.int .i64 z4)), (.val (.int .i64 z5))] true)) fun M6 => letP (fun (b18 : Bool) (M19 : Mem) => condB (b18) (Q (.val (.bool false)) M19) (bindO (eLen tb false 76 a1 M19) fun y21 => zI .i64 y21.1 fun z22 => ∃ J23 : Int → Nat → Mem → Prop, (∃ n24 : Nat, J23 (0 : Int) n24 M19) ∧
  ∀ (_ : Nat → Option AV) (z25 : Int) (n26 : Nat) (M27 : Mem), J23 z25 n26 M27 →
  (condB (decide (z25 < z22)) (bindO (eIA tb 76 a1 (.val (.int .i64 z25)) M27) fun y28 => zP y28.1 fun p29 o30 => bindO (eLd tb 80 (.ptr p29 o30) M27) fun y31 => ∃ (z32 : Int) (b33 : Bool) (z34 : Int), y31.1 =
  (.agg [(.val (.int .i64 z32)), (.val (.bool b33)), (.val (.int .i64 z34))]) ∧
  (letP (M27.new (.cells [(.val (.int .i64 0)), (.val (.bool false)), (.val (.int .i64 0))] true)) fun M35 => bindO (eSt tb 80 (.ptr M27.next 0) (.agg [(.val (.int .i64 z32)), (.val (.bool b33)), (.val (.int .i64 z34))]) M35) fun y36 => letP (⟨y36.2.next + 1, y36.2.rows⟩ : Mem) fun M37 => bindO (eSl tb 76 a1 none (some (.val (.int .i64 z25))) none M37) fun y38 => bindO (eLd tb 3 (.ptr M27.next 0) M37) fun y39 => zI .i64 y39.1 fun z40 => CallA tb.P 73 [y38.1, (.val (.int .i64 z40))] M37 fun y41 M42 => ∃ (z43 : Int) (b44 : Bool) (z45 : Int) (b46 : Bool), y41 =
  (.tup [(.agg [(.val (.int .i64 z43)), (.val (.bool b44)), (.val (.int .i64 z45))]), (.val (.bool b46))]) ∧
  (letP (M42.put y36.2.next (.cells [(.val (.int .i64 0)), (.val (.bool false)), (.val (.int .i64 0))] true)) fun M47 => bindO (eSt tb 80 (.ptr y36.2.next 0) (.agg [(.val (.int .i64 z43)), (.val (.bool b44)), (.val (.int .i64 z45))]) M47) fun y48 => letP (fun (b63 : Bool) => condB (b63) (Q (.val (.bool false)) y48.2) (∃ k65 : Nat, k65 < n26 ∧
  (J23 (iAdd .i64 z25 1) k65 y48.2))) fun K64 => condB (b46) (K64 true) (bindO (eLd tb 3 (.ptr M27.next 0) y48.2) fun y49 => zI .i64 y49.1 fun z50 => condB (decide (z50 < (0 : Int))) (K64 true) (bindO (eLd tb 3 (.ptr M27.next 0) y48.2) fun y51 => zI .i64 y51.1 fun z52 => bindO (eLd tb 3 (.ptr M.next 0) y48.2) fun y53 => zI .i64 y53.1 fun z54 => condB (decide (z52 ≥ z54)) (K64 true) (bindO (eLd tb 3 (.ptr M27.next 2) y48.2) fun y55 => zI .i64 y55.1 fun z56 => condB (decide (z56 < (0 : Int))) (K64 true) (bindO (eLd tb 3 (.ptr M27.next 2) y48.2) fun y57 => zI .i64 y57.1 fun z58 => condB (decide (z58 > (1073741824 : Int))) (K64 true) (bindO (eLd tb 4 (.ptr M27.next 1) y48.2) fun y59 => zB y59.1 fun b60 => condB (b60) (bindO (eLd tb 3 (.ptr M27.next 2) y48.2) fun y61 => zI .i64 y61.1 fun z62 => K64 (z62 !=
  (0 : Int))) (K64 false))))))))) (Q (.val (.bool true)) M27)))) fun K20 => bindO (eLd tb 40 (.ptr M.next 0) M6) fun y7 => ∃ (z8 : Int) (z9 : Int) (z10 : Int) (z11 : Int) (z12 : Int), y7.1 =
  (.agg [(.val (.int .i64 z8)), (.val (.int .i64 z9)), (.val (.int .i64 z10)), (.val (.int .i64 z11)), (.val (.int .i64 z12))]) ∧
  (CallA tb.P 49 [(.agg [(.val (.int .i64 z8)), (.val (.int .i64 z9)), (.val (.int .i64 z10)), (.val (.int .i64 z11)), (.val (.int .i64 z12))])] M6 fun y13 M14 => zB y13 fun b15 => condB (!b15) (K20 true M14) (bindO (eLen tb false 76 a1 M14) fun y16 => zI .i64 y16.1 fun z17 => K20 (decide (z17 > (8 : Int))) M14))
def an41 : An := (.seq (.reg []) (.seq (.seq (.reg [.agg [.int .i64, .int .i64, .int .i64, .int .i64, .int .i64], .bool, .bool, .spl, .non, .int .i64, .bool]) (.cnd (.seq (.reg []) .z) .z)) (.seq (.seq (.reg [.non, .int .i64]) (.blk (.lop [(19, .int .i64)] [4, 5, 6, 7, 8, 20, 21, 22, 23, 24, 25, 26, 27, 28, 29, 30, 31, 32, 33, 34, 35, 36, 37, 38, 39, 40, 41, 42, 43, 44, 45, 46, 47, 48, 49, 50, 51, 52, 53, 54, 55, 56, 57, 58, 59, 60, 61, 62, 63, 64, 65] (.seq (.reg []) (.seq (.cnd .z .z) (.seq (.blk (.seq (.reg [.non, .ptr, .agg [.int .i64, .bool, .int .i64]]) (.seq (.opn [(0, []), (1, []), (2, []), (3, []), (4, []), (5, []), (6, []), (7, []), (8, []), (9, []), (10, []), (11, [])] [0, 0, 0, 0, 0, 0, 0, 0, 0, 0, 0, 0] [] 1 [.non, .non, .non, .ptr, .int .i64, .tup [.a [.int .i64, .bool, .int .i64], .l .bool], .non, .non, .bool, .non, .non, .non]) (.seq (.reg [.non, .spl, .ptr, .int .i64, .bool, .non, .spl, .ptr, .int .i64, .ptr, .int .i64, .bool, .non, .spl, .ptr, .int .i64, .bool, .non, .spl, .ptr, .int .i64, .bool, .non, .spl, .ptr, .bool, .spl, .ptr, .int .i64, .bool]) (.cnd (.seq (.reg []) .z) .z))))) (.reg [.int .i64]))))))) (.seq (.reg []) .z))))
theorem fn41 : tb.fn.get 41 = some Tryz.f41 := by kernel_rfl
theorem an41_ok : anB tb Tryz.f41.ntmps an41 (bodyOf Tryz.f41) = true := by kernel_rfl
theorem F41_eq : (fun (a0 a1 : AV) (M : Mem) (Q : AV → Mem → Prop) => zCs [.a [.int .i64, .int .i64, .int .i64, .int .i64, .int .i64], .l .any] [a0, a1] fun args => wZ tb an41 (bodyOf Tryz.f41) (enterA Tryz.f41 args M) (retQ tb Tryz.f41 Q)) = fun (a0 a1 : AV) (M : Mem) (Q : AV → Mem → Prop) => F41 a0 a1 M Q := by kernel_rfl
theorem F41_ok {a0 a1 : AV} {M : Mem} {Q : AV → Mem → Prop} (h : F41 a0 a1 M Q) : CallA tb.P 41 [a0, a1] M Q :=
  calla_wZ tb_ok tb_mix fn41 (c := bodyOf Tryz.f41) rfl an41_ok (ks := [.a [.int .i64, .int .i64, .int .i64, .int .i64, .int .i64], .l .any]) (cast (congrFun (congrFun (congrFun (congrFun F41_eq a0) a1) M) Q).symm h)

def F42 (a0 : AV) (M : Mem) (Q : AV → Mem → Prop) : Prop :=
  bindO (eBin tb .eql 76 (.tmp 3) (.const (.slice none 0 0)) a0 (.val (.slice none 0 0)) M) fun y1 => zB y1.1 fun b2 => condB (b2) (Q (.val (.slice none 0 0)) M) (letP (M.new (.cells [] true)) fun M3 => bindO (evAppend tb 76 76 (.sl M.next 0 0 0 none) a0 M3) fun y4 => Q y4.1 y4.2)
def an42 : An := (.seq (.reg []) (.seq (.seq (.reg [.non, .bool]) (.cnd (.seq (.reg []) .z) .z)) (.seq (.reg []) .z)))
theorem fn42 : tb.fn.get 42 = some Tryz.f42 := by kernel_rfl
theorem an42_ok : anB tb Tryz.f42.ntmps an42 (bodyOf Tryz.f42) = true := by kernel_rfl
theorem F42_eq : (fun (a0 : AV) (M : Mem) (Q : AV → Mem → Prop) => zCs [.l .any] [a0] fun args => wZ tb an42 (bodyOf Tryz.f42) (enterA Tryz.f42 args M) (retQ tb Tryz.f42 Q)) = fun (a0 : AV) (M : Mem) (Q : AV → Mem → Prop) => F42 a0 M Q := by kernel_rfl
theorem F42_ok {a0 : AV} {M : Mem} {Q : AV → Mem → Prop} (h : F42 a0 M Q) : CallA tb.P 42 [a0] M Q :=
  calla_wZ tb_ok tb_mix fn42 (c := bodyOf Tryz.f42) rfl an42_ok (ks := [.l .any]) (cast (congrFun (congrFun (congrFun F42_eq a0) M) Q).symm h)

def F43 (a0 a1 : AV) (M : Mem) (Q : AV → Mem → Prop) : Prop :=
  zI .i64 a1 fun z1 => condB (decide (z1 < (0 : Int))) (False) (bindO (eLen tb false 23 a0 M) fun y2 => zI .i64 y2.1 fun z3 => CallA tb.P 74 [(.val (.int .u64 (IntKind.wrap .u64 z3))), (.val (.int .u64 (IntKind.wrap .u64 z1)))] M fun y4 M5 => ∃ (z6 : Int) (z7 : Int), y4 =
  (.tup [(.val (.int .u64 z6)), (.val (.int .u64 z7))]) ∧
  (letP (fun (b8 : Bool) => condB (b8) (False) (bindO (evMakeSlice tb 23 (.val (.int .i64 (IntKind.wrap .i64 z7))) (.val (.int .i64 (IntKind.wrap .i64 z7))) M5) fun y10 => bindO (evCopy tb 23 y10.1 a0 y10.2) fun y11 => zI .i64 y11.1 fun z12 => ∃ J13 : Int → Nat → Mem → Prop, (∃ n14 : Nat, J13 z12 n14 y11.2) ∧
  ∀ (_ : Nat → Option AV) (z15 : Int) (n16 : Nat) (M17 : Mem), J13 z15 n16 M17 →
  (bindO (eLen tb false 23 y10.1 M17) fun y18 => zI .i64 y18.1 fun z19 => condB (decide (z15 < z19)) (bindO (eSl tb 23 y10.1 (some (.val (.int .i64 z15))) none none M17) fun y20 => bindO (eSl tb 23 y10.1 none (some (.val (.int .i64 z15))) none M17) fun y21 => bindO (evCopy tb 23 y20.1 y21.1 M17) fun y22 => zI .i64 y22.1 fun z23 => ∃ k24 : Nat, k24 < n16 ∧
  (J13 (iAdd .i64 z15 z23) k24 y22.2)) (Q y10.1 M17)))) fun K9 => condB (decide (z6 > (0 : Int))) (K9 true) (K9 (decide (z7 > (9223372036854775807 : Int))))))
def an43 : An := (.seq (.reg []) (.seq (.seq (.reg [.non, .bool]) (.cnd (.reg []) .z)) (.seq (.reg [.non, .int .i64, .int .u64, .non, .int .u64, .tup [.l (.int .u64), .l (.int .u64)], .non, .int .u64, .int .u64]) (.seq (.seq (.reg [.non, .bool, .spl, .non, .bool]) (.cnd (.reg []) .z)) (.seq (.reg [.non, .int .i64]) (.seq (.reg [.non, .non, .int .i64]) (.seq (.blk (.lop [(8, .int .i64)] [34, 35, 36, 37, 38, 39, 40, 41, 42, 43, 44, 45, 46] (.seq (.seq (.reg [.non, .non, .int .i64, .bool]) (.cnd .z .z)) (.blk (.opn [(0, []), (1, []), (2, []), (3, []), (4, []), (5, []), (6, []), (7, []), (8, []), (9, [])] [] [] 0 [.non, .non, .non, .non, .non, .non, .non, .int .i64, .int .i64, .non]))))) (.seq (.reg []) .z))))))))
theorem fn43 : tb.fn.get 43 = some Tryz.f43 := by kernel_rfl
theorem an43_ok : anB tb Tryz.f43.ntmps an43 (bodyOf Tryz.f43) = true := by kernel_rfl
theorem F43_eq : (fun (a0 a1 : AV) (M : Mem) (Q : AV → Mem → Prop) => zCs [.l .any, .l (.int .i64)] [a0, a1] fun args => wZ tb an43 (bodyOf Tryz.f43) (enterA Tryz.f43 args M) (retQ tb Tryz.f43 Q)) = fun (a0 a1 : AV) (M : Mem) (Q : AV → Mem → Prop) => F43 a0 a1 M Q := by kernel_rfl
theorem F43_ok {a0 a1 : AV} {M : Mem} {Q : AV → Mem → Prop} (h : F43 a0 a1 M Q) : CallA tb.P 43 [a0, a1] M Q :=
  calla_wZ tb_ok tb_mix fn43 (c := bodyOf Tryz.f43) rfl an43_ok (ks := [.l .any, .l (.int .i64)]) (cast (congrFun (congrFun (congrFun (congrFun F43_eq a0) a1) M) Q).symm h)

def F44 (a0 : AV) (M : Mem) (Q : AV → Mem → Prop) : Prop :=
  ∃ (z1 : Int) (z2 : Int) (z3 : Int) (z4 : Int) (z5 : Int), a0 = (.agg [(.val (.int .i64 z1)), (.val (.int .i64 z2)), (.val (.int .i64 z3)), (.val (.int .i64 z4)), (.val (.int .i64 z5))]) ∧
  letP (M.new (.cells [(.val (.int .i64 z1)), (.val (.int .i64 z2)), (.val (.int .i64 z3)), (.val (.int .i64 z4)), (.val (.int .i64 z5))] true)) fun M6 => bindO (eLd tb 40 (.ptr M.next 0) M6) fun y7 => ∃ (z8 : Int) (z9 : Int) (z10 : Int) (z11 : Int) (z12 : Int), y7.1 =
  (.agg [(.val (.int .i64 z8)), (.val (.int .i64 z9)), (.val (.int .i64 z10)), (.val (.int .i64 z11)), (.val (.int .i64 z12))]) ∧
  (bindO (eLd tb 3 (.ptr M.next 2) M6) fun y13 => zI .i64 y13.1 fun z14 => bindO (eLd tb 40 (.ptr M.next 0) M6) fun y15 => ∃ (z16 : Int) (z17 : Int) (z18 : Int) (z19 : Int) (z20 : Int), y15.1 =
  (.agg [(.val (.int .i64 z16)), (.val (.int .i64 z17)), (.val (.int .i64 z18)), (.val (.int .i64 z19)), (.val (.int .i64 z20))]) ∧
  (CallA tb.P 75 [(.agg [(.val (.int .i64 z8)), (.val (.int .i64 z9)), (.val (.int .i64 z10)), (.val (.int .i64 z11)), (.val (.int .i64 z12))]), (.val (.int .i64 z14))] M6 fun y21 M22 => zI .i64 y21 fun z23 => (bindO (eLd tb 40 (.ptr M.next 0) M22) fun y24 => (some (.agg [(.val (.int .i64 z16)), (.val (.int .i64 z17)), (.val (.int .i64 z18)), (.val (.int .i64 z19)), (.val (.int .i64 z20))]) : Option AV) =
  some y24.1) ∧
  (CallA tb.P 75 [(.agg [(.val (.int .i64 z16)), (.val (.int .i64 z17)), (.val (.int .i64 z18)), (.val (.int .i64 z19)), (.val (.int .i64 z20))]), (.val (.int .i64 16))] M22 fun y25 M26 => zI .i64 y25 fun z27 => Q (.val (.int .i64 (iAdd .i64 z23 z27))) M26)))
def an44 : An := (.seq (.reg []) (.seq (.opn [(1, []), (0, []), (2, []), (4, []), (3, [4]), (5, []), (6, []), (7, [])] [] [[], [], [], [4]] 0 [.ptr, .agg [.int .i64, .int .i64, .int .i64, .int .i64, .int .i64], .int .i64, .agg [.int .i64, .int .i64, .int .i64, .int .i64, .int .i64], .int .i64, .int .i64, .int .i64, .non]) .z))
theorem fn44 : tb.fn.get 44 = some Tryz.f44 := by kernel_rfl
theorem an44_ok : anB tb Tryz.f44.ntmps an44 (bodyOf Tryz.f44) = true := by kernel_rfl
theorem F44_eq : (fun (a0 : AV) (M : Mem) (Q : AV → Mem → Prop) => zCs [.a [.int .i64, .int .i64, .int .i64, .int .i64, .int .i64]] [a0] fun args => wZ tb an44 (bodyOf Tryz.f44) (enterA Tryz.f44 args M) (retQ tb Tryz.f44 Q)) = fun (a0 : AV) (M : Mem) (Q : AV → Mem → Prop) => F44 a0 M Q := by kernel_rfl
theorem F44_ok {a0 : AV} {M : Mem} {Q : AV → Mem → Prop} (h : F44 a0 M Q) : CallA tb.P 44 [a0] M Q :=
  calla_wZ tb_ok tb_mix fn44 (c := bodyOf Tryz.f44) rfl an44_ok (ks := [.a [.int .i64, .int .i64, .int .i64, .int .i64, .int .i64]]) (cast (congrFun (congrFun (congrFun F44_eq a0) M) Q).symm h)

def F45 (a0 a1 : AV) (M : Mem) (Q : AV → Mem → Prop) : Prop :=
  ∃ (z1 : Int) (z2 : Int), a1 = (.agg [(.val (.int .i64 z1)), (.val (.int .i64 z2))]) ∧
  letP (M.new (.cells [(.val (.int .i64 z1)), (.val (.int .i64 z2))] true)) fun M3 => bindO (eBin tb .eql 33 (.tmp 6) (.const (.pointer none)) a0 (.val (.pointer none)) M3) fun y4 => zB y4.1 fun b5 => condB (b5) (Q (.val (.int .i64 1)) M3) (bindO (eNil a0 M3) fun y6 => bindO (eFA tb 83 y6.1 3 M3) fun y7 => zP y7.1 fun p8 o9 => bindO (eLd tb 4 (.ptr p8 o9) M3) fun y10 => zB y10.1 fun b11 => condB (b11) (Q (.val (.int .i64 9)) M3) (bindO (eNil a0 M3) fun y12 => bindO (eFA tb 83 y12.1 0 M3) fun y13 => zP y13.1 fun p14 o15 => bindO (eLd tb 40 (.ptr p14 o15) M3) fun y16 => ∃ (z17 : Int) (z18 : Int) (z19 : Int) (z20 : Int) (z21 : Int), y16.1 =
  (.agg [(.val (.int .i64 z17)), (.val (.int .i64 z18)), (.val (.int .i64 z19)), (.val (.int .i64 z20)), (.val (.int .i64 z21))]) ∧
  (bindO (eLd tb 50 (.ptr M.next 0) M3) fun y22 => ∃ (z23 : Int) (z24 : Int), y22.1 = (.agg [(.val (.int .i64 z23)), (.val (.int .i64 z24))]) ∧
  (CallA tb.P 48 [(.agg [(.val (.int .i64 z17)), (.val (.int .i64 z18)), (.val (.int .i64 z19)), (.val (.int .i64 z20)), (.val (.int .i64 z21))]), (.agg [(.val (.int .i64 z23)), (.val (.int .i64 z24))])] M3 fun y25 M26 => zI .i64 y25 fun z27 => condB (decide (z27 < (0 : Int))) (Q (.val (.int .i64 2)) M26) (Q (.val (.int .i64 0)) M26)))))
def an45 : An := (.seq (.reg []) (.seq (.blk (.seq (.reg [.non, .bool]) (.cnd (.seq (.reg []) .z) (.seq (.reg [.non, .non, .ptr, .bool]) (.cnd (.seq (.reg []) .z) (.seq (.opn [(0, []), (1, []), (2, []), (3, []), (4, []), (5, []), (6, []), (7, [])] [] [] 0 [.non, .non, .ptr, .agg [.int .i64, .int .i64, .int .i64, .int .i64, .int .i64], .agg [.int .i64, .int .i64], .int .i64, .bool, .non]) (.cnd (.seq (.reg []) .z) .z))))))) (.seq (.reg []) .z)))
theorem fn45 : tb.fn.get 45 = some Tryz.f45 := by kernel_rfl
theorem an45_ok : anB tb Tryz.f45.ntmps an45 (bodyOf Tryz.f45) = true := by kernel_rfl
theorem F45_eq : (fun (a0 a1 : AV) (M : Mem) (Q : AV → Mem → Prop) => zCs [.l .any, .a [.int .i64, .int .i64]] [a0, a1] fun args => wZ tb an45 (bodyOf Tryz.f45) (enterA Tryz.f45 args M) (retQ tb Tryz.f45 Q)) = fun (a0 a1 : AV) (M : Mem) (Q : AV → Mem → Prop) => F45 a0 a1 M Q := by kernel_rfl
theorem F45_ok {a0 a1 : AV} {M : Mem} {Q : AV → Mem → Prop} (h : F45 a0 a1 M Q) : CallA tb.P 45 [a0, a1] M Q :=
  calla_wZ tb_ok tb_mix fn45 (c := bodyOf Tryz.f45) rfl an45_ok (ks := [.l .any, .a [.int .i64, .int .i64]]) (cast (congrFun (congrFun (congrFun (congrFun F45_eq a0) a1) M) Q).symm h)

def F46 (a0 : AV) (M : Mem) (Q : AV → Mem → Prop) : Prop :=
  bindO (eNil a0 M) fun y1 => bindO (eFA tb 83 y1.1 4 M) fun y2 => zP y2.1 fun p3 o4 => bindO (eLd tb 3 (.ptr p3 o4) M) fun y5 => zI .i64 y5.1 fun z6 => bindO (eNil a0 M) fun y7 => bindO (eFA tb 83 y7.1 4 M) fun y8 => zP y8.1 fun p9 o10 => bindO (eSt tb 3 (.ptr p9 o10) (.val (.int .i64 (iAdd .i64 z6 1))) M) fun y11 => letP (fun (b30 : Bool) => condB (b30) (Q (.val (.bool false)) y11.2) (bindO (eNil a0 y11.2) fun y32 => bindO (eFA tb 83 y32.1 7 y11.2) fun y33 => zP y33.1 fun p34 o35 => bindO (eSt tb 3 (.ptr p34 o35) (.val (.int .i64 0)) y11.2) fun y36 => bindO (eNil a0 y36.2) fun y37 => bindO (eFA tb 83 y37.1 3 y36.2) fun y38 => zP y38.1 fun p39 o40 => bindO (eSt tb 4 (.ptr p39 o40) (.val (.bool true)) y36.2) fun y41 => bindO (eNil a0 y41.2) fun y42 => bindO (eFA tb 83 y42.1 5 y41.2) fun y43 => zP y43.1 fun p44 o45 => bindO (eLd tb 3 (.ptr p44 o45) y41.2) fun y46 => zI .i64 y46.1 fun z47 => bindO (eNil a0 y41.2) fun y48 => bindO (eFA tb 83 y48.1 5 y41.2) fun y49 => zP y49.1 fun p50 o51 => bindO (eSt tb 3 (.ptr p50 o51) (.val (.int .i64 (iAdd .i64 z47 1))) y41.2) fun y52 => Q (.val (.bool true)) y52.2)) fun K31 => bindO (eNil a0 y11.2) fun y12 => bindO (eFA tb 83 y12.1 7 y11.2) fun y13 => zP y13.1 fun p14 o15 => bindO (eLd tb 3 (.ptr p14 o15) y11.2) fun y16 => zI .i64 y16.1 fun z17 => condB (z17 ==
  (0 : Int)) (K31 true) (bindO (eNil a0 y11.2) fun y18 => bindO (eFA tb 83 y18.1 4 y11.2) fun y19 => zP y19.1 fun p20 o21 => bindO (eNil a0 y11.2) fun y22 => bindO (eFA tb 83 y22.1 7 y11.2) fun y23 => zP y23.1 fun p24 o25 => bindO (eLd tb 3 (.ptr p20 o21) y11.2) fun y26 => zI .i64 y26.1 fun z27 => bindO (eLd tb 3 (.ptr p24 o25) y11.2) fun y28 => zI .i64 y28.1 fun z29 => K31 (z27 !=
  z29))
def an46 : An := (.seq (.reg []) (.seq (.reg [.non, .non, .ptr, .int .i64, .int .i64, .non, .ptr]) (.seq (.seq (.opn [(0, []), (1, []), (2, []), (3, []), (4, []), (5, []), (6, []), (7, []), (8, []), (10, []), (11, []), (12, []), (9, []), (13, []), (14, []), (15, [])] [] [] 0 [.non, .non, .ptr, .int .i64, .bool, .spl, .non, .non, .ptr, .non, .non, .ptr, .int .i64, .int .i64, .bool, .non]) (.cnd (.seq (.reg []) .z) .z)) (.seq (.reg [.non, .non, .non, .ptr, .non, .non, .ptr]) (.seq (.reg [.non, .non, .ptr, .int .i64, .int .i64, .non, .ptr]) (.seq (.reg []) .z))))))
theorem fn46 : tb.fn.get 46 = some Tryz.f46 := by kernel_rfl
theorem an46_ok : anB tb Tryz.f46.ntmps an46 (bodyOf Tryz.f46) = true := by kernel_rfl
theorem F46_eq : (fun (a0 : AV) (M : Mem) (Q : AV → Mem → Prop) => zCs [.l .any] [a0] fun args => wZ tb an46 (bodyOf Tryz.f46) (enterA Tryz.f46 args M) (retQ tb Tryz.f46 Q)) = fun (a0 : AV) (M : Mem) (Q : AV → Mem → Prop) => F46 a0 M Q := by kernel_rfl
theorem F46_ok {a0 : AV} {M : Mem} {Q : AV → Mem → Prop} (h : F46 a0 M Q) : CallA tb.P 46 [a0] M Q :=
  calla_wZ tb_ok tb_mix fn46 (c := bodyOf Tryz.f46) rfl an46_ok (ks := [.l .any]) (cast (congrFun (congrFun (congrFun F46_eq a0) M) Q).symm h)

def F47 (a0 a1 : AV) (M : Mem) (Q : AV → Mem → Prop) : Prop :=
  ∃ (z1 : Int) (z2 : Int), a1 = (.agg [(.val (.int .i64 z1)), (.val (.int .i64 z2))]) ∧
  letP (M.new (.cells [(.val (.int .i64 z1)), (.val (.int .i64 z2))] true)) fun M3 => bindO (eNil a0 M3) fun y4 => bindO (eFA tb 83 y4.1 0 M3) fun y5 => zP y5.1 fun p6 o7 => bindO (eLd tb 40 (.ptr p6 o7) M3) fun y8 => ∃ (z9 : Int) (z10 : Int) (z11 : Int) (z12 : Int) (z13 : Int), y8.1 =
  (.agg [(.val (.int .i64 z9)), (.val (.int .i64 z10)), (.val (.int .i64 z11)), (.val (.int .i64 z12)), (.val (.int .i64 z13))]) ∧
  (CallA tb.P 44 [(.agg [(.val (.int .i64 z9)), (.val (.int .i64 z10)), (.val (.int .i64 z11)), (.val (.int .i64 z12)), (.val (.int .i64 z13))])] M3 fun y14 M15 => zI .i64 y14 fun z16 => bindO (eNil a0 M15) fun y17 => bindO (eFA tb 83 y17.1 2 M15) fun y18 => zP y18.1 fun p19 o20 => bindO (eLd tb 81 (.ptr p19 o20) M15) fun y21 => bindO (eLd tb 3 (.ptr M.next 0) M15) fun y22 => zI .i64 y22.1 fun z23 => bindO (eIA tb 81 y21.1 (.val (.int .i64 z23)) M15) fun y24 => zP y24.1 fun p25 o26 => bindO (eLd tb 23 (.ptr p25 o26) M15) fun y27 => bindO (eLd tb 3 (.ptr M.next 1) M15) fun y28 => zI .i64 y28.1 fun z29 => bindO (eLd tb 3 (.ptr M.next 1) M15) fun y30 => zI .i64 y30.1 fun z31 => bindO (eSl tb 23 y27.1 (some (.val (.int .i64 (iMul .i64 z29 z16)))) (some (.val (.int .i64 (iMul .i64 (iAdd .i64 z31 1) z16)))) none M15) fun y32 => Q y32.1 M15)
def an47 : An := (.seq (.reg []) (.seq (.reg [.non, .non, .ptr, .agg [.int .i64, .int .i64, .int .i64, .int .i64, .int .i64], .int .i64]) (.seq (.opn [(0, []), (1, []), (2, []), (4, []), (9, []), (11, []), (13, []), (16, []), (3, []), (5, []), (6, []), (7, []), (8, []), (10, []), (12, []), (14, []), (15, []), (17, []), (18, []), (19, [])] [] [] 0 [.non, .non, .ptr, .ptr, .ptr, .non, .ptr, .non, .non, .int .i64, .ptr, .ptr, .non, .int .i64, .int .i64, .int .i64, .int .i64, .int .i64, .non, .non]) .z)))
theorem fn47 : tb.fn.get 47 = some Tryz.f47 := by kernel_rfl
theorem an47_ok : anB tb Tryz.f47.ntmps an47 (bodyOf Tryz.f47) = true := by kernel_rfl
theorem F47_eq : (fun (a0 a1 : AV) (M : Mem) (Q : AV → Mem → Prop) => zCs [.l .any, .a [.int .i64, .int .i64]] [a0, a1] fun args => wZ tb an47 (bodyOf Tryz.f47) (enterA Tryz.f47 args M) (retQ tb Tryz.f47 Q)) = fun (a0 a1 : AV) (M : Mem) (Q : AV → Mem → Prop) => F47 a0 a1 M Q := by kernel_rfl
theorem F47_ok {a0 a1 : AV} {M : Mem} {Q : AV → Mem → Prop} (h : F47 a0 a1 M Q) : CallA tb.P 47 [a0, a1] M Q :=
  calla_wZ tb_ok tb_mix fn47 (c := bodyOf Tryz.f47) rfl an47_ok (ks := [.l .any, .a [.int .i64, .int .i64]]) (cast (congrFun (congrFun (congrFun (congrFun F47_eq a0) a1) M) Q).symm h)

def F48 (a0 a1 : AV) (M : Mem) (Q : AV → Mem → Prop) : Prop :=
  ∃ (z1 : Int) (z2 : Int) (z3 : Int) (z4 : Int) (z5 : Int), a0 = (.agg [(.val (.int .i64 z1)), (.val (.int .i64 z2)), (.val (.int .i64 z3)), (.val (.int .i64 z4)), (.val (.int .i64 z5))]) ∧
  ∃ (z6 : Int) (z7 : Int), a1 = (.agg [(.val (.int .i64 z6)), (.val (.int .i64 z7))]) ∧
  letP (M.new (.cells [(.val (.int .i64 z1)), (.val (.int .i64 z2)), (.val (.int .i64 z3)), (.val (.int .i64 z4)), (.val (.int .i64 z5))] true)) fun M8 => letP (M8.new (.cells [(.val (.int .i64 z6)), (.val (.int .i64 z7))] true)) fun M9 => bindO (eLd tb 40 (.ptr M.next 0) M9) fun y10 => ∃ (z11 : Int) (z12 : Int) (z13 : Int) (z14 : Int) (z15 : Int), y10.1 =
  (.agg [(.val (.int .i64 z11)), (.val (.int .i64 z12)), (.val (.int .i64 z13)), (.val (.int .i64 z14)), (.val (.int .i64 z15))]) ∧
  (CallA tb.P 49 [(.agg [(.val (.int .i64 z11)), (.val (.int .i64 z12)), (.val (.int .i64 z13)), (.val (.int .i64 z14)), (.val (.int .i64 z15))])] M9 fun y16 M17 => zB y16 fun b18 => condB (!b18) (Q (.val (.int .i64 0)) M17) (bindO (eLd tb 40 (.ptr M.next 0) M17) fun y19 => ∃ (z20 : Int) (z21 : Int) (z22 : Int) (z23 : Int) (z24 : Int), y19.1 =
  (.agg [(.val (.int .i64 z20)), (.val (.int .i64 z21)), (.val (.int .i64 z22)), (.val (.int .i64 z23)), (.val (.int .i64 z24))]) ∧
  (bindO (eLd tb 50 (.ptr M8.next 0) M17) fun y25 => ∃ (z26 : Int) (z27 : Int), y25.1 = (.agg [(.val (.int .i64 z26)), (.val (.int .i64 z27))]) ∧
  (CallA tb.P 76 [(.agg [(.val (.int .i64 z20)), (.val (.int .i64 z21)), (.val (.int .i64 z22)), (.val (.int .i64 z23)), (.val (.int .i64 z24))]), (.agg [(.val (.int .i64 z26)), (.val (.int .i64 z27))])] M17 fun y28 M29 => zB y28 fun b30 => condB (!b30) (Q (.val (.int .i64 (-1))) M29) (bindO (eLd tb 3 (.ptr M8.next 0) M29) fun y31 => zI .i64 y31.1 fun z32 => bindO (eLd tb 3 (.ptr M.next 1) M29) fun y33 => zI .i64 y33.1 fun z34 => bindO (eLd tb 3 (.ptr M8.next 1) M29) fun y35 => zI .i64 y35.1 fun z36 => Q (.val (.int .i64 (iAdd .i64 (iMul .i64 z32 z34) z36))) M29)))))
def an48 : An := (.seq (.reg []) (.seq (.seq (.reg [.agg [.int .i64, .int .i64, .int .i64, .int .i64, .int .i64], .bool, .bool]) (.cnd (.seq (.reg []) .z) .z)) (.seq (.seq (.reg [.agg [.int .i64, .int .i64, .int .i64, .int .i64, .int .i64], .agg [.int .i64, .int .i64], .bool, .bool]) (.cnd (.seq (.reg []) .z) .z)) (.seq (.reg [.ptr, .int .i64, .ptr, .int .i64, .int .i64, .ptr, .int .i64, .int .i64]) .z))))
theorem fn48 : tb.fn.get 48 = some Tryz.f48 := by kernel_rfl
theorem an48_ok : anB tb Tryz.f48.ntmps an48 (bodyOf Tryz.f48) = true := by kernel_rfl
theorem F48_eq : (fun (a0 a1 : AV) (M : Mem) (Q : AV → Mem → Prop) => zCs [.a [.int .i64, .int .i64, .int .i64, .int .i64, .int .i64], .a [.int .i64, .int .i64]] [a0, a1] fun args => wZ tb an48 (bodyOf Tryz.f48) (enterA Tryz.f48 args M) (retQ tb Tryz.f48 Q)) = fun (a0 a1 : AV) (M : Mem) (Q : AV → Mem → Prop) => F48 a0 a1 M Q := by kernel_rfl
theorem F48_ok {a0 a1 : AV} {M : Mem} {Q : AV → Mem → Prop} (h : F48 a0 a1 M Q) : CallA tb.P 48 [a0, a1] M Q :=
  calla_wZ tb_ok tb_mix fn48 (c := bodyOf Tryz.f48) rfl an48_ok (ks := [.a [.int .i64, .int .i64, .int .i64, .int .i64, .int .i64], .a [.int .i64, .int .i64]]) (cast (congrFun (congrFun (congrFun (congrFun F48_eq a0) a1) M) Q).symm h)

def F49 (a0 : AV) (M : Mem) (Q : AV → Mem → Prop) : Prop :=
  ∃ (z1 : Int) (z2 : Int) (z3 : Int) (z4 : Int) (z5 : Int), a0 = (.agg [(.val (.int .i64 z1)), (.val (.int .i64 z2)), (.val (.int .i64 z3)), (.val (.int .i64 z4)), (.val (.int .i64 z5))]) ∧
  letP (M.new (.cells [(.val (.int .i64 z1)), (.val (.int .i64 z2)), (.val (.int .i64 z3)), (.val (.int .i64 z4)), (.val (.int .i64 z5))] true)) fun M6 => letP (fun (b41 : Bool) (M42 : Mem) => Q (.val (.bool b41)) M42) fun K43 => bindO (eLd tb 3 (.ptr M.next 0) M6) fun y7 => zI .i64 y7.1 fun z8 => CallA tb.P 77 [(.val (.int .i64 z8)), (.val (.int .i64 8)), (.val (.int .i64 20))] M6 fun y9 M10 => zB y9 fun b11 => condB (b11) (bindO (eLd tb 3 (.ptr M.next 1) M10) fun y12 => zI .i64 y12.1 fun z13 => CallA tb.P 77 [(.val (.int .i64 z13)), (.val (.int .i64 4)), (.val (.int .i64 8))] M10 fun y14 M15 => zB y14 fun b16 => condB (b16) (bindO (eLd tb 3 (.ptr M.next 2) M15) fun y17 => zI .i64 y17.1 fun z18 => CallA tb.P 77 [(.val (.int .i64 z18)), (.val (.int .i64 24)), (.val (.int .i64 64))] M15 fun y19 M20 => zB y19 fun b21 => condB (b21) (bindO (eLd tb 3 (.ptr M.next 3) M20) fun y22 => zI .i64 y22.1 fun z23 => CallA tb.P 77 [(.val (.int .i64 z23)), (.val (.int .i64 0)), (.val (.int .i64 4))] M20 fun y24 M25 => zB y24 fun b26 => condB (b26) (bindO (eLd tb 3 (.ptr M.next 4) M25) fun y27 => zI .i64 y27.1 fun z28 => CallA tb.P 77 [(.val (.int .i64 z28)), (.val (.int .i64 2)), (.val (.int .i64 20))] M25 fun y29 M30 => zB y29 fun b31 => condB (b31) (bindO (eLd tb 40 (.ptr M.next 0) M30) fun y32 => ∃ (z33 : Int) (z34 : Int) (z35 : Int) (z36 : Int) (z37 : Int), y32.1 =
  (.agg [(.val (.int .i64 z33)), (.val (.int .i64 z34)), (.val (.int .i64 z35)), (.val (.int .i64 z36)), (.val (.int .i64 z37))]) ∧
  (CallA tb.P 72 [(.agg [(.val (.int .i64 z33)), (.val (.int .i64 z34)), (.val (.int .i64 z35)), (.val (.int .i64 z36)), (.val (.int .i64 z37))])] M30 fun y38 M39 => zI .i64 y38 fun z40 => K43 (decide (z40 ≥ (4 : Int))) M39)) (K43 false M30)) (K43 false M25)) (K43 false M20)) (K43 false M15)) (K43 false M10)
def an49 : An := (.seq (.reg []) (.seq (.reg [.ptr, .int .i64, .bool, .spl, .ptr, .int .i64, .bool, .non, .spl, .ptr, .int .i64, .bool, .non, .spl, .ptr, .int .i64, .bool, .non, .spl, .ptr, .int .i64, .bool, .non, .spl, .agg [.int .i64, .int .i64, .int .i64, .int .i64, .int .i64], .int .i64, .bool]) .z))
theorem fn49 : tb.fn.get 49 = some Tryz.f49 := by kernel_rfl
theorem an49_ok : anB tb Tryz.f49.ntmps an49 (bodyOf Tryz.f49) = true := by kernel_rfl
theorem F49_eq : (fun (a0 : AV) (M : Mem) (Q : AV → Mem → Prop) => zCs [.a [.int .i64, .int .i64, .int .i64, .int .i64, .int .i64]] [a0] fun args => wZ tb an49 (bodyOf Tryz.f49) (enterA Tryz.f49 args M) (retQ tb Tryz.f49 Q)) = fun (a0 : AV) (M : Mem) (Q : AV → Mem → Prop) => F49 a0 M Q := by kernel_rfl
theorem F49_ok {a0 : AV} {M : Mem} {Q : AV → Mem → Prop} (h : F49 a0 M Q) : CallA tb.P 49 [a0] M Q :=
  calla_wZ tb_ok tb_mix fn49 (c := bodyOf Tryz.f49) rfl an49_ok (ks := [.a [.int .i64, .int .i64, .int .i64, .int .i64, .int .i64]]) (cast (congrFun (congrFun (congrFun F49_eq a0) M) Q).symm h)

def F50 (a0 a1 : AV) (M : Mem) (Q : AV → Mem → Prop) : Prop :=
  zI .i64 a1 fun z1 => CallA tb.P 73 [a0, (.val (.int .i64 z1))] M fun y2 M3 => ∃ (z4 : Int) (b5 : Bool) (z6 : Int) (b7 : Bool), y2 =
  (.tup [(.agg [(.val (.int .i64 z4)), (.val (.bool b5)), (.val (.int .i64 z6))]), (.val (.bool b7))]) ∧
  (letP (M3.new (.cells [(.val (.int .i64 0)), (.val (.bool false)), (.val (.int .i64 0))] true)) fun M8 => bindO (eSt tb 80 (.ptr M3.next 0) (.agg [(.val (.int .i64 z4)), (.val (.bool b5)), (.val (.int .i64 z6))]) M8) fun y9 => letP (fun (b12 : Bool) => Q (.val (.bool b12)) y9.2) fun K13 => condB (b7) (bindO (eLd tb 4 (.ptr M3.next 1) y9.2) fun y10 => zB y10.1 fun b11 => K13 b11) (K13 false))
def an50 : An := (.seq (.reg []) (.seq (.reg [.non, .non, .tup [.a [.int .i64, .bool, .int .i64], .l .bool], .non, .non, .bool]) (.seq (.reg [.non, .spl, .ptr, .bool]) .z)))
theorem fn50 : tb.fn.get 50 = some Tryz.f50 := by kernel_rfl
theorem an50_ok : anB tb Tryz.f50.ntmps an50 (bodyOf Tryz.f50) = true := by kernel_rfl
theorem F50_eq : (fun (a0 a1 : AV) (M : Mem) (Q : AV → Mem → Prop) => zCs [.l .any, .l (.int .i64)] [a0, a1] fun args => wZ tb an50 (bodyOf Tryz.f50) (enterA Tryz.f50 args M) (retQ tb Tryz.f50 Q)) = fun (a0 a1 : AV) (M : Mem) (Q : AV → Mem → Prop) => F50 a0 a1 M Q := by kernel_rfl
theorem F50_ok {a0 a1 : AV} {M : Mem} {Q : AV → Mem → Prop} (h : F50 a0 a1 M Q) : CallA tb.P 50 [a0, a1] M Q :=
  calla_wZ tb_ok tb_mix fn50 (c := bodyOf Tryz.f50) rfl an50_ok (ks := [.l .any, .l (.int .i64)]) (cast (congrFun (congrFun (congrFun (congrFun F50_eq a0) a1) M) Q).symm h)

def F51 (a0 a1 : AV) (M : Mem) (Q : AV → Mem → Prop) : Prop :=
  ∃ (z1 : Int) (z2 : Int), a1 = (.agg [(.val (.int .i64 z1)), (.val (.int .i64 z2))]) ∧
  letP (M.new (.cells [(.val (.int .i64 z1)), (.val (.int .i64 z2))] true)) fun M3 => letP (M3.new (.cells [(.val (.int .i64 0)), (.val (.int .i64 0)), (.val (.int .i64 0)), (.val (.int .i64 0))] true)) fun M4 => bindO (eLd tb 50 (.ptr M.next 0) M4) fun y5 => ∃ (z6 : Int) (z7 : Int), y5.1 =
  (.agg [(.val (.int .i64 z6)), (.val (.int .i64 z7))]) ∧ (CallA tb.P 21 [a0, (.agg [(.val (.int .i64 z6)), (.val (.int .i64 z7))])] M4 fun y8 M9 => ∃ (x10 : AV) (z11 : Int), y8 =
  (.tup [x10, (.val (.int .i64 z11))]) ∧ (condB (z11 !=
  (0 : Int)) (bindO (eSt tb 64 (.ptr M3.next 0) (.agg [(.val (.int .i64 0)), (.val (.int .i64 0)), (.val (.int .i64 0)), (.val (.int .i64 0))]) M9) fun y12 => bindO (eRes tb [.v (.val (.slice none 0 0)), .c 64 (.ptr M3.next 0), .v (.val (.int .i64 0)), .v (.val (.int .i64 z11))] y12.2) fun x13 => Q x13 y12.2) (CallA tb.P 78 [x10] M9 fun y14 M15 => ∃ (x16 : AV) (z17 : Int) (z18 : Int) (z19 : Int) (z20 : Int) (z21 : Int), y14 =
  (.tup [x16, (.agg [(.val (.int .i64 z17)), (.val (.int .i64 z18)), (.val (.int .i64 z19)), (.val (.int .i64 z20))]), (.val (.int .i64 z21))]) ∧
  (letP (M15.new (.cells [(.val (.int .i64 0)), (.val (.int .i64 0)), (.val (.int .i64 0)), (.val (.int .i64 0))] true)) fun M22 => bindO (eSt tb 64 (.ptr M15.next 0) (.agg [(.val (.int .i64 z17)), (.val (.int .i64 z18)), (.val (.int .i64 z19)), (.val (.int .i64 z20))]) M22) fun y23 => bindO (eLd tb 64 (.ptr M15.next 0) y23.2) fun y24 => ∃ (z25 : Int) (z26 : Int) (z27 : Int) (z28 : Int), y24.1 =
  (.agg [(.val (.int .i64 z25)), (.val (.int .i64 z26)), (.val (.int .i64 z27)), (.val (.int .i64 z28))]) ∧
  (bindO (eSt tb 64 (.ptr M3.next 0) (.agg [(.val (.int .i64 z25)), (.val (.int .i64 z26)), (.val (.int .i64 z27)), (.val (.int .i64 z28))]) y23.2) fun y29 => bindO (eRes tb [.v x16, .c 64 (.ptr M3.next 0), .v (.val (.int .i64 z21)), .v (.val (.int .i64 0))] y29.2) fun x30 => Q x30 y29.2)))))
def an51 : An := (.seq (.reg []) (.seq (.reg [.non, .agg [.int .i64, .int .i64], .tup [.l .any, .l (.int .i64)], .non, .non, .int .i64]) (.seq (.seq (.reg [.non, .bool]) (.cnd (.seq (.reg []) .z) .z)) (.seq (.reg [.non, .tup [.l .any, .a [.int .i64, .int .i64, .int .i64, .int .i64], .l (.int .i64)], .non, .non, .non, .int .i64]) (.seq (.opn [(0, []), (2, []), (3, []), (1, []), (4, []), (5, []), (6, [])] [] [] 0 [.non, .non, .non, .agg [.int .i64, .int .i64, .int .i64, .int .i64], .non, .non, .non]) .z)))))
theorem fn51 : tb.fn.get 51 = some Tryz.f51 := by kernel_rfl
theorem an51_ok : anB tb Tryz.f51.ntmps an51 (bodyOf Tryz.f51) = true := by kernel_rfl
theorem F51_eq : (fun (a0 a1 : AV) (M : Mem) (Q : AV → Mem → Prop) => zCs [.l .any, .a [.int .i64, .int .i64]] [a0, a1] fun args => wZ tb an51 (bodyOf Tryz.f51) (enterA Tryz.f51 args M) (retQ tb Tryz.f51 Q)) = fun (a0 a1 : AV) (M : Mem) (Q : AV → Mem → Prop) => F51 a0 a1 M Q := by kernel_rfl
theorem F51_ok {a0 a1 : AV} {M : Mem} {Q : AV → Mem → Prop} (h : F51 a0 a1 M Q) : CallA tb.P 51 [a0, a1] M Q :=
  calla_wZ tb_ok tb_mix fn51 (c := bodyOf Tryz.f51) rfl an51_ok (ks := [.l .any, .a [.int .i64, .int .i64]]) (cast (congrFun (congrFun (congrFun (congrFun F51_eq a0) a1) M) Q).symm h)

def F52 (a0 : AV) (M : Mem) (Q : AV → Mem → Prop) : Prop :=
  CallA tb.P 58 [a0] M fun y1 M2 => zI .i64 y1 fun z3 => letP (M2.new (.map [])) fun M4 => bindO (eLen tb false 69 a0 M4) fun y5 => zI .i64 y5.1 fun z6 => ∃ J7 : Int → Nat → Mem → Prop, (∃ n8 : Nat, J7 (0 : Int) n8 M4) ∧
  ∀ (_ : Nat → Option AV) (z9 : Int) (n10 : Nat) (M11 : Mem), J7 z9 n10 M11 → (condB (decide (z9 < z6)) (letP (fun (M72 : Mem) => ∃ k74 : Nat, k74 < n10 ∧
  (J7 (iAdd .i64 z9 1) k74 M72)) fun K73 => bindO (eIA tb 69 a0 (.val (.int .i64 z9)) M11) fun y12 => zP y12.1 fun p13 o14 => bindO (eLd tb 73 (.ptr p13 o14) M11) fun y15 => ∃ (z16 : Int) (z17 : Int) (z18 : Int) (z19 : Int) (z20 : Int) (z21 : Int), y15.1 =
  (.agg [(.val (.int .i64 z16)), (.val (.int .i64 z17)), (.val (.int .i64 z18)), (.val (.int .i64 z19)), (.val (.int .i64 z20)), (.val (.int .i64 z21))]) ∧
  (letP (M11.new (.cells [(.val (.int .i64 0)), (.val (.int .i64 0)), (.val (.int .i64 0)), (.val (.int .i64 0)), (.val (.int .i64 0)), (.val (.int .i64 0))] true)) fun M22 => bindO (eSt tb 73 (.ptr M11.next 0) (.agg [(.val (.int .i64 z16)), (.val (.int .i64 z17)), (.val (.int .i64 z18)), (.val (.int .i64 z19)), (.val (.int .i64 z20)), (.val (.int .i64 z21))]) M22) fun y23 => letP (fun (b32 : Bool) => condB (b32) (K73 y23.2) (bindO (eLd tb 3 (.ptr M11.next 3) y23.2) fun y34 => zI .i64 y34.1 fun z35 => bindO (eLk tb 94 (.map M2.next) (.val (.int .i64 z35)) true y23.2) fun y36 => ∃ (z37 : Int) (z38 : Int) (z39 : Int) (z40 : Int) (z41 : Int) (z42 : Int) (b43 : Bool), y36.1 =
  (.tup [(.agg [(.val (.int .i64 z37)), (.val (.int .i64 z38)), (.val (.int .i64 z39)), (.val (.int .i64 z40)), (.val (.int .i64 z41)), (.val (.int .i64 z42))]), (.val (.bool b43))]) ∧
  (letP (y23.2.new (.cells [(.val (.int .i64 0)), (.val (.int .i64 0)), (.val (.int .i64 0)), (.val (.int .i64 0)), (.val (.int .i64 0)), (.val (.int .i64 0))] true)) fun M44 => bindO (eSt tb 73 (.ptr y23.2.next 0) (.agg [(.val (.int .i64 z37)), (.val (.int .i64 z38)), (.val (.int .i64 z39)), (.val (.int .i64 z40)), (.val (.int .i64 z41)), (.val (.int .i64 z42))]) M44) fun y45 => letP (fun (b59 : Bool) (M60 : Mem) => condB (b59) (bindO (eLd tb 3 (.ptr M11.next 3) M60) fun y62 => zI .i64 y62.1 fun z63 => bindO (eLd tb 73 (.ptr M11.next 0) M60) fun y64 => ∃ (z65 : Int) (z66 : Int) (z67 : Int) (z68 : Int) (z69 : Int) (z70 : Int), y64.1 =
  (.agg [(.val (.int .i64 z65)), (.val (.int .i64 z66)), (.val (.int .i64 z67)), (.val (.int .i64 z68)), (.val (.int .i64 z69)), (.val (.int .i64 z70))]) ∧
  (bindO (eMU tb 94 (.map M2.next) (.val (.int .i64 z63)) (.agg [(.val (.int .i64 z65)), (.val (.int .i64 z66)), (.val (.int .i64 z67)), (.val (.int .i64 z68)), (.val (.int .i64 z69)), (.val (.int .i64 z70))]) M60) fun y71 => K73 y71.2)) (K73 M60)) fun K61 => condB (!b43) (K61 true y45.2) (bindO (eLd tb 64 (.ptr M11.next 2) y45.2) fun y46 => ∃ (z47 : Int) (z48 : Int) (z49 : Int) (z50 : Int), y46.1 =
  (.agg [(.val (.int .i64 z47)), (.val (.int .i64 z48)), (.val (.int .i64 z49)), (.val (.int .i64 z50))]) ∧
  (bindO (eLd tb 64 (.ptr y23.2.next 2) y45.2) fun y51 => ∃ (z52 : Int) (z53 : Int) (z54 : Int) (z55 : Int), y51.1 =
  (.agg [(.val (.int .i64 z52)), (.val (.int .i64 z53)), (.val (.int .i64 z54)), (.val (.int .i64 z55))]) ∧
  (CallA tb.P 79 [(.agg [(.val (.int .i64 z47)), (.val (.int .i64 z48)), (.val (.int .i64 z49)), (.val (.int .i64 z50))]), (.agg [(.val (.int .i64 z52)), (.val (.int .i64 z53)), (.val (.int .i64 z54)), (.val (.int .i64 z55))])] y45.2 fun y56 M57 => zB y56 fun b58 => K61 b58 M57)))))) fun K33 => bindO (eLd tb 3 (.ptr M11.next 2) y23.2) fun y24 => zI .i64 y24.1 fun z25 => condB (z25 !=
  (1 : Int)) (bindO (eLd tb 3 (.ptr M11.next 2) y23.2) fun y26 => zI .i64 y26.1 fun z27 => condB (z27 !=
  (2 : Int)) (K33 true) (bindO (eLd tb 3 (.ptr M11.next 5) y23.2) fun y28 => zI .i64 y28.1 fun z29 => K33 (decide (z29 > z3)))) (bindO (eLd tb 3 (.ptr M11.next 5) y23.2) fun y30 => zI .i64 y30.1 fun z31 => K33 (decide (z31 > z3))))) (Q (.map M2.next) M11))
def an52 : An := (.seq (.reg []) (.seq (.reg [.non, .int .i64]) (.seq (.reg []) (.seq (.seq (.reg [.non, .int .i64]) (.blk (.lop [(14, .int .i64)] [6, 7, 8, 15, 16, 17, 18, 19, 20, 21, 22, 23, 24, 25, 26, 27, 28, 29, 30, 31, 32, 33, 34, 35, 36, 37, 38, 39, 40, 41, 42, 43, 44, 45, 46, 47, 48, 49, 50, 51, 52, 53, 54, 55, 56, 57] (.seq (.reg []) (.seq (.cnd .z .z) (.seq (.blk (.seq (.reg [.ptr, .agg [.int .i64, .int .i64, .int .i64, .int .i64, .int .i64, .int .i64]]) (.seq (.seq (.reg [.ptr, .ptr, .int .i64, .bool, .spl, .ptr, .ptr, .int .i64, .bool, .non, .spl, .ptr, .ptr, .int .i64, .non, .bool]) (.cnd .z .z)) (.seq (.reg [.non, .ptr, .ptr, .int .i64, .tup [.a [.int .i64, .int .i64, .int .i64, .int .i64, .int .i64, .int .i64], .l .bool], .non, .non, .bool]) (.seq (.reg [.non, .bool, .spl, .ptr, .agg [.int .i64, .int .i64, .int .i64, .int .i64], .ptr, .agg [.int .i64, .int .i64, .int .i64, .int .i64], .bool]) (.cnd (.reg [.non, .ptr, .ptr, .int .i64, .agg [.int .i64, .int .i64, .int .i64, .int .i64, .int .i64, .int .i64]]) .z)))))) (.reg [.int .i64]))))))) (.seq (.reg []) .z)))))
theorem fn52 : tb.fn.get 52 = some Tryz.f52 := by kernel_rfl
theorem an52_ok : anB tb Tryz.f52.ntmps an52 (bodyOf Tryz.f52) = true := by kernel_rfl
theorem F52_eq : (fun (a0 : AV) (M : Mem) (Q : AV → Mem → Prop) => zCs [.l .any] [a0] fun args => wZ tb an52 (bodyOf Tryz.f52) (enterA Tryz.f52 args M) (retQ tb Tryz.f52 Q)) = fun (a0 : AV) (M : Mem) (Q : AV → Mem → Prop) => F52 a0 M Q := by kernel_rfl
theorem F52_ok {a0 : AV} {M : Mem} {Q : AV → Mem → Prop} (h : F52 a0 M Q) : CallA tb.P 52 [a0] M Q :=
  calla_wZ tb_ok tb_mix fn52 (c := bodyOf Tryz.f52) rfl an52_ok (ks := [.l .any]) (cast (congrFun (congrFun (congrFun F52_eq a0) M) Q).symm h)

def F54 (a0 : AV) (M : Mem) (Q : AV → Mem → Prop) : Prop :=
  letP (M.new (.cells (AV.cells a0) true)) fun M1 => Q (.fn 82 [] [(.ptr M.next 0)]) M1
def an54 : An := (.seq (.reg []) (.seq (.reg []) .z))
theorem fn54 : tb.fn.get 54 = some Tryz.f54 := by kernel_rfl
theorem an54_ok : anB tb Tryz.f54.ntmps an54 (bodyOf Tryz.f54) = true := by kernel_rfl
theorem F54_eq : (fun (a0 : AV) (M : Mem) (Q : AV → Mem → Prop) => zCs [.l .any] [a0] fun args => wZ tb an54 (bodyOf Tryz.f54) (enterA Tryz.f54 args M) (retQ tb Tryz.f54 Q)) = fun (a0 : AV) (M : Mem) (Q : AV → Mem → Prop) => F54 a0 M Q := by kernel_rfl
theorem F54_ok {a0 : AV} {M : Mem} {Q : AV → Mem → Prop} (h : F54 a0 M Q) : CallA tb.P 54 [a0] M Q :=
  calla_wZ tb_ok tb_mix fn54 (c := bodyOf Tryz.f54) rfl an54_ok (ks := [.l .any]) (cast (congrFun (congrFun (congrFun F54_eq a0) M) Q).symm h)

def F55 (a0 a1 : AV) (M : Mem) (Q : AV → Mem → Prop) : Prop :=
  bindO (eLen tb false 69 a0 M) fun y1 => zI .i64 y1.1 fun z2 => CallA tb.P 84 [(.val (.int .u64 (IntKind.wrap .u64 z2)))] M fun y3 M4 => zI .i64 y3 fun z5 => CallA tb.P 83 [a0, (.val (.int .i64 0)), (.val (.int .i64 z2)), (.val (.int .i64 z5)), a1] M4 fun y6 M7 => Q (.tup []) M7
def an55 : An := (.seq (.reg [.non, .int .i64]) (.reg [.non, .non, .non, .int .u64, .int .i64]))
theorem fn55 : tb.fn.get 55 = some Tryz.f55 := by kernel_rfl
theorem an55_ok : anB tb Tryz.f55.ntmps an55 (bodyOf Tryz.f55) = true := by kernel_rfl
theorem F55_eq : (fun (a0 a1 : AV) (M : Mem) (Q : AV → Mem → Prop) => zCs [.l .any, .l .any] [a0, a1] fun args => wZ tb an55 (bodyOf Tryz.f55) (enterA Tryz.f55 args M) (retQ tb Tryz.f55 Q)) = fun (a0 a1 : AV) (M : Mem) (Q : AV → Mem → Prop) => F55 a0 a1 M Q := by kernel_rfl
theorem F55_ok {a0 a1 : AV} {M : Mem} {Q : AV → Mem → Prop} (h : F55 a0 a1 M Q) : CallA tb.P 55 [a0, a1] M Q :=
  calla_wZ tb_ok tb_mix fn55 (c := bodyOf Tryz.f55) rfl an55_ok (ks := [.l .any, .l .any]) (cast (congrFun (congrFun (congrFun (congrFun F55_eq a0) a1) M) Q).symm h)

def F58 (a0 : AV) (M : Mem) (Q : AV → Mem → Prop) : Prop :=
  bindO (eLen tb false 69 a0 M) fun y1 => zI .i64 y1.1 fun z2 => ∃ J3 : Int → Int → Nat → Mem → Prop, (∃ n4 : Nat, J3 (0 : Int) (0 : Int) n4 M) ∧
  ∀ (_ : Nat → Option AV) (z5 : Int) (z6 : Int) (n7 : Nat) (M8 : Mem), J3 z5 z6 n7 M8 → (condB (decide (z6 < z2)) (letP (fun (z27 : Int) (M28 : Mem) => ∃ k30 : Nat, k30 < n7 ∧
  (J3 z27 (iAdd .i64 z6 1) k30 M28)) fun K29 => bindO (eIA tb 69 a0 (.val (.int .i64 z6)) M8) fun y9 => zP y9.1 fun p10 o11 => bindO (eLd tb 73 (.ptr p10 o11) M8) fun y12 => ∃ (z13 : Int) (z14 : Int) (z15 : Int) (z16 : Int) (z17 : Int) (z18 : Int), y12.1 =
  (.agg [(.val (.int .i64 z13)), (.val (.int .i64 z14)), (.val (.int .i64 z15)), (.val (.int .i64 z16)), (.val (.int .i64 z17)), (.val (.int .i64 z18))]) ∧
  (letP (M8.new (.cells [(.val (.int .i64 0)), (.val (.int .i64 0)), (.val (.int .i64 0)), (.val (.int .i64 0)), (.val (.int .i64 0)), (.val (.int .i64 0))] true)) fun M19 => bindO (eSt tb 73 (.ptr M8.next 0) (.agg [(.val (.int .i64 z13)), (.val (.int .i64 z14)), (.val (.int .i64 z15)), (.val (.int .i64 z16)), (.val (.int .i64 z17)), (.val (.int .i64 z18))]) M19) fun y20 => bindO (eLd tb 3 (.ptr M8.next 2) y20.2) fun y21 => zI .i64 y21.1 fun z22 => condB (z22 ==
  (3 : Int)) (bindO (eLd tb 3 (.ptr M8.next 5) y20.2) fun y23 => zI .i64 y23.1 fun z24 => bindO (eMax tb #[3, 3] 3 [.int .i64 z5, .int .i64 z24] y20.2) fun y25 => zI .i64 y25.1 fun z26 => K29 z26 y20.2) (K29 z5 y20.2))) (Q (.val (.int .i64 z5)) M8))
def an58 : An := (.seq (.reg []) (.seq (.reg []) (.seq (.seq (.reg [.non, .int .i64]) (.blk (.lop [(3, .int .i64), (8, .int .i64)] [5, 9, 10, 11, 12, 13, 14, 15, 16, 17, 18, 19, 20, 21] (.seq (.reg []) (.seq (.cnd .z .z) (.seq (.blk (.seq (.reg [.ptr, .agg [.int .i64, .int .i64, .int .i64, .int .i64, .int .i64, .int .i64]]) (.seq (.reg [.ptr, .ptr, .int .i64, .bool]) (.cnd (.reg [.non, .ptr, .ptr, .int .i64, .int .i64]) .z)))) (.reg [.int .i64]))))))) (.seq (.reg []) .z))))
theorem fn58 : tb.fn.get 58 = some Tryz.f58 := by kernel_rfl
theorem an58_ok : anB tb Tryz.f58.ntmps an58 (bodyOf Tryz.f58) = true := by kernel_rfl
theorem F58_eq : (fun (a0 : AV) (M : Mem) (Q : AV → Mem → Prop) => zCs [.l .any] [a0] fun args => wZ tb an58 (bodyOf Tryz.f58) (enterA Tryz.f58 args M) (retQ tb Tryz.f58 Q)) = fun (a0 : AV) (M : Mem) (Q : AV → Mem → Prop) => F58 a0 M Q := by kernel_rfl
theorem F58_ok {a0 : AV} {M : Mem} {Q : AV → Mem → Prop} (h : F58 a0 M Q) : CallA tb.P 58 [a0] M Q :=
  calla_wZ tb_ok tb_mix fn58 (c := bodyOf Tryz.f58) rfl an58_ok (ks := [.l .any]) (cast (congrFun (congrFun (congrFun F58_eq a0) M) Q).symm h)

def F59 (a0 : AV) (M : Mem) (Q : AV → Mem → Prop) : Prop :=
  bindO (eNil a0 M) fun y1 => bindO (eFA tb 60 y1.1 1 M) fun y2 => zP y2.1 fun p3 o4 => bindO (eLd tb 3 (.ptr p3 o4) M) fun y5 => zI .i64 y5.1 fun z6 => ∃ J7 : Int → Int → Nat → Mem → Prop, (∃ n8 : Nat, J7 (0 : Int) (0 : Int) n8 M) ∧
  ∀ (_ : Nat → Option AV) (z9 : Int) (z10 : Int) (n11 : Nat) (M12 : Mem), J7 z9 z10 n11 M12 → (condB (decide (z10 < z6)) (letP (fun (z16 : Int) (M17 : Mem) => ∃ k19 : Nat, k19 < n11 ∧
  (J7 z16 (iAdd .i64 z10 1) k19 M17)) fun K18 => CallA tb.P 86 [a0, (.val (.int .i64 z10))] M12 fun y13 M14 => zB y13 fun b15 => condB (b15) (K18 (iAdd .i64 z9 1) M14) (K18 z9 M14)) (Q (.val (.int .i64 z9)) M12))
def an59 : An := (.seq (.reg []) (.seq (.reg []) (.seq (.seq (.reg [.non, .non, .ptr, .ptr, .int .i64]) (.blk (.lop [(3, .int .i64), (10, .int .i64)] [4, 11, 12, 13, 14, 15, 16, 17, 18] (.seq (.reg [.bool]) (.seq (.cnd .z .z) (.seq (.blk (.seq (.reg []) (.seq (.reg [.non, .non, .bool]) (.cnd (.reg [.non, .int .i64]) .z)))) (.reg [.int .i64]))))))) (.seq (.reg []) .z))))
theorem fn59 : tb.fn.get 59 = some Tryz.f59 := by kernel_rfl
theorem an59_ok : anB tb Tryz.f59.ntmps an59 (bodyOf Tryz.f59) = true := by kernel_rfl
theorem F59_eq : (fun (a0 : AV) (M : Mem) (Q : AV → Mem → Prop) => zCs [.l .any] [a0] fun args => wZ tb an59 (bodyOf Tryz.f59) (enterA Tryz.f59 args M) (retQ tb Tryz.f59 Q)) = fun (a0 : AV) (M : Mem) (Q : AV → Mem → Prop) => F59 a0 M Q := by kernel_rfl
theorem F59_ok {a0 : AV} {M : Mem} {Q : AV → Mem → Prop} (h : F59 a0 M Q) : CallA tb.P 59 [a0] M Q :=
  calla_wZ tb_ok tb_mix fn59 (c := bodyOf Tryz.f59) rfl an59_ok (ks := [.l .any]) (cast (congrFun (congrFun (congrFun F59_eq a0) M) Q).symm h)

def F72 (a0 : AV) (M : Mem) (Q : AV → Mem → Prop) : Prop :=
  ∃ (z1 : Int) (z2 : Int) (z3 : Int) (z4 : Int) (z5 : Int), a0 = (.agg [(.val (.int .i64 z1)), (.val (.int .i64 z2)), (.val (.int .i64 z3)), (.val (.int .i64 z4)), (.val (.int .i64 z5))]) ∧
  letP (M.new (.cells [(.val (.int .i64 z1)), (.val (.int .i64 z2)), (.val (.int .i64 z3)), (.val (.int .i64 z4)), (.val (.int .i64 z5))] true)) fun M6 => bindO (eLd tb 3 (.ptr M.next 0) M6) fun y7 => zI .i64 y7.1 fun z8 => bindO (eLd tb 3 (.ptr M.next 3) M6) fun y9 => zI .i64 y9.1 fun z10 => bindO (eLd tb 3 (.ptr M.next 1) M6) fun y11 => zI .i64 y11.1 fun z12 => Q (.val (.int .i64 (iQuo .i64 (iSub .i64 (iMul .i64 (iSub .i64 (iSub .i64 z8 z10) 3) z12) 4) 2))) M6
def an72 : An := (.seq (.reg []) (.seq (.reg [.ptr, .int .i64, .ptr, .int .i64, .int .i64, .int .i64, .ptr, .int .i64, .int .i64, .int .i64, .int .i64]) .z))
theorem fn72 : tb.fn.get 72 = some Tryz.f72 := by kernel_rfl
theorem an72_ok : anB tb Tryz.f72.ntmps an72 (bodyOf Tryz.f72) = true := by kernel_rfl
theorem F72_eq : (fun (a0 : AV) (M : Mem) (Q : AV → Mem → Prop) => zCs [.a [.int .i64, .int .i64, .int .i64, .int .i64, .int .i64]] [a0] fun args => wZ tb an72 (bodyOf Tryz.f72) (enterA Tryz.f72 args M) (retQ tb Tryz.f72 Q)) = fun (a0 : AV) (M : Mem) (Q : AV → Mem → Prop) => F72 a0 M Q := by kernel_rfl
theorem F72_ok {a0 : AV} {M : Mem} {Q : AV → Mem → Prop} (h : F72 a0 M Q) : CallA tb.P 72 [a0] M Q :=
  calla_wZ tb_ok tb_mix fn72 (c := bodyOf Tryz.f72) rfl an72_ok (ks := [.a [.int .i64, .int .i64, .int .i64, .int .i64, .int .i64]]) (cast (congrFun (congrFun (congrFun F72_eq a0) M) Q).symm h)

def F73 (a0 a1 : AV) (M : Mem) (Q : AV → Mem → Prop) : Prop :=
  zI .i64 a1 fun z1 => letP (M.new (.cells [(.val (.int .i64 z1))] true)) fun M2 => letP (M2.new (.cells [(.val (.int .i64 0)), (.val (.bool false)), (.val (.int .i64 0))] true)) fun M3 => CallA tb.P 102 [a0, (.fn 103 [] [(.ptr M.next 0)])] M3 fun y4 M5 => zI .i64 y4 fun z6 => condB (decide (z6 < (0 : Int))) (bindO (eSt tb 80 (.ptr M2.next 0) (.agg [(.val (.int .i64 0)), (.val (.bool false)), (.val (.int .i64 0))]) M5) fun y7 => bindO (eRes tb [.c 80 (.ptr M2.next 0), .v (.val (.bool false))] y7.2) fun x8 => Q x8 y7.2) (bindO (eIA tb 76 a0 (.val (.int .i64 z6)) M5) fun y9 => zP y9.1 fun p10 o11 => bindO (eLd tb 80 (.ptr p10 o11) M5) fun y12 => ∃ (z13 : Int) (b14 : Bool) (z15 : Int), y12.1 =
  (.agg [(.val (.int .i64 z13)), (.val (.bool b14)), (.val (.int .i64 z15))]) ∧
  (bindO (eSt tb 80 (.ptr M2.next 0) (.agg [(.val (.int .i64 z13)), (.val (.bool b14)), (.val (.int .i64 z15))]) M5) fun y16 => bindO (eRes tb [.c 80 (.ptr M2.next 0), .v (.val (.bool true))] y16.2) fun x17 => Q x17 y16.2))
def an73 : An := (.seq (.reg []) (.seq (.reg [.non, .non, .int .i64]) (.seq (.seq (.reg [.non, .bool]) (.cnd (.seq (.reg []) .z) .z)) (.seq (.reg [.non, .non, .ptr, .agg [.int .i64, .bool, .int .i64]]) .z))))
theorem fn73 : tb.fn.get 73 = some Tryz.f73 := by kernel_rfl
theorem an73_ok : anB tb Tryz.f73.ntmps an73 (bodyOf Tryz.f73) = true := by kernel_rfl
theorem F73_eq : (fun (a0 a1 : AV) (M : Mem) (Q : AV → Mem → Prop) => zCs [.l .any, .l (.int .i64)] [a0, a1] fun args => wZ tb an73 (bodyOf Tryz.f73) (enterA Tryz.f73 args M) (retQ tb Tryz.f73 Q)) = fun (a0 a1 : AV) (M : Mem) (Q : AV → Mem → Prop) => F73 a0 a1 M Q := by kernel_rfl
theorem F73_ok {a0 a1 : AV} {M : Mem} {Q : AV → Mem → Prop} (h : F73 a0 a1 M Q) : CallA tb.P 73 [a0, a1] M Q :=
  calla_wZ tb_ok tb_mix fn73 (c := bodyOf Tryz.f73) rfl an73_ok (ks := [.l .any, .l (.int .i64)]) (cast (congrFun (congrFun (congrFun (congrFun F73_eq a0) a1) M) Q).symm h)

def F74 (a0 a1 : AV) (M : Mem) (Q : AV → Mem → Prop) : Prop :=
  zI .u64 a0 fun z1 => zI .u64 a1 fun z2 => CallA tb.P 105 [(.val (.int .u64 z1)), (.val (.int .u64 z2))] M fun y3 M4 => ∃ (z5 : Int) (z6 : Int), y3 =
  (.tup [(.val (.int .u64 z5)), (.val (.int .u64 z6))]) ∧ (Q (.tup [(.val (.int .u64 z5)), (.val (.int .u64 z6))]) M4)
def an74 : An := (.seq (.reg []) (.seq (.cnd (.seq (.reg [.non, .int .u32, .non, .int .u32, .tup [.l (.int .u32), .l (.int .u32)], .non, .int .u32, .int .u32]) (.seq (.reg [.non, .int .u64, .non, .int .u64]) .z)) .z) (.seq (.reg [.non, .non, .tup [.l (.int .u64), .l (.int .u64)], .non, .int .u64, .int .u64]) (.seq (.reg []) .z))))
theorem fn74 : tb.fn.get 74 = some Tryz.f74 := by kernel_rfl
theorem an74_ok : anB tb Tryz.f74.ntmps an74 (bodyOf Tryz.f74) = true := by kernel_rfl
theorem F74_eq : (fun (a0 a1 : AV) (M : Mem) (Q : AV → Mem → Prop) => zCs [.l (.int .u64), .l (.int .u64)] [a0, a1] fun args => wZ tb an74 (bodyOf Tryz.f74) (enterA Tryz.f74 args M) (retQ tb Tryz.f74 Q)) = fun (a0 a1 : AV) (M : Mem) (Q : AV → Mem → Prop) => F74 a0 a1 M Q := by kernel_rfl
theorem F74_ok {a0 a1 : AV} {M : Mem} {Q : AV → Mem → Prop} (h : F74 a0 a1 M Q) : CallA tb.P 74 [a0, a1] M Q :=
  calla_wZ tb_ok tb_mix fn74 (c := bodyOf Tryz.f74) rfl an74_ok (ks := [.l (.int .u64), .l (.int .u64)]) (cast (congrFun (congrFun (congrFun (congrFun F74_eq a0) a1) M) Q).symm h)

def F75 (a0 a1 : AV) (M : Mem) (Q : AV → Mem → Prop) : Prop :=
  ∃ (z1 : Int) (z2 : Int) (z3 : Int) (z4 : Int) (z5 : Int), a0 = (.agg [(.val (.int .i64 z1)), (.val (.int .i64 z2)), (.val (.int .i64 z3)), (.val (.int .i64 z4)), (.val (.int .i64 z5))]) ∧
  zI .i64 a1 fun z6 => letP (M.new (.cells [(.val (.int .i64 z1)), (.val (.int .i64 z2)), (.val (.int .i64 z3)), (.val (.int .i64 z4)), (.val (.int .i64 z5))] true)) fun M7 => bindO (eLd tb 40 (.ptr M.next 0) M7) fun y8 => ∃ (z9 : Int) (z10 : Int) (z11 : Int) (z12 : Int) (z13 : Int), y8.1 =
  (.agg [(.val (.int .i64 z9)), (.val (.int .i64 z10)), (.val (.int .i64 z11)), (.val (.int .i64 z12)), (.val (.int .i64 z13))]) ∧
  (CallA tb.P 49 [(.agg [(.val (.int .i64 z9)), (.val (.int .i64 z10)), (.val (.int .i64 z11)), (.val (.int .i64 z12)), (.val (.int .i64 z13))])] M7 fun y14 M15 => zB y14 fun b16 => condB (!b16) (Q (.val (.int .i64 0)) M15) (Q (.val (.int .i64 z6)) M15))
def an75 : An := (.seq (.reg []) (.seq (.seq (.reg [.agg [.int .i64, .int .i64, .int .i64, .int .i64, .int .i64], .bool, .bool]) (.cnd (.seq (.reg []) .z) .z)) (.seq (.reg []) .z)))
theorem fn75 : tb.fn.get 75 = some Tryz.f75 := by kernel_rfl
theorem an75_ok : anB tb Tryz.f75.ntmps an75 (bodyOf Tryz.f75) = true := by kernel_rfl
theorem F75_eq : (fun (a0 a1 : AV) (M : Mem) (Q : AV → Mem → Prop) => zCs [.a [.int .i64, .int .i64, .int .i64, .int .i64, .int .i64], .l (.int .i64)] [a0, a1] fun args => wZ tb an75 (bodyOf Tryz.f75) (enterA Tryz.f75 args M) (retQ tb Tryz.f75 Q)) = fun (a0 a1 : AV) (M : Mem) (Q : AV → Mem → Prop) => F75 a0 a1 M Q := by kernel_rfl
theorem F75_ok {a0 a1 : AV} {M : Mem} {Q : AV → Mem → Prop} (h : F75 a0 a1 M Q) : CallA tb.P 75 [a0, a1] M Q :=
  calla_wZ tb_ok tb_mix fn75 (c := bodyOf Tryz.f75) rfl an75_ok (ks := [.a [.int .i64, .int .i64, .int .i64, .int .i64, .int .i64], .l (.int .i64)]) (cast (congrFun (congrFun (congrFun (congrFun F75_eq a0) a1) M) Q).symm h)

def F76 (a0 a1 : AV) (M : Mem) (Q : AV → Mem → Prop) : Prop :=
  ∃ (z1 : Int) (z2 : Int) (z3 : Int) (z4 : Int) (z5 : Int), a0 = (.agg [(.val (.int .i64 z1)), (.val (.int .i64 z2)), (.val (.int .i64 z3)), (.val (.int .i64 z4)), (.val (.int .i64 z5))]) ∧
  ∃ (z6 : Int) (z7 : Int), a1 = (.agg [(.val (.int .i64 z6)), (.val (.int .i64 z7))]) ∧
  letP (M.new (.cells [(.val (.int .i64 z1)), (.val (.int .i64 z2)), (.val (.int .i64 z3)), (.val (.int .i64 z4)), (.val (.int .i64 z5))] true)) fun M8 => letP (M8.new (.cells [(.val (.int .i64 z6)), (.val (.int .i64 z7))] true)) fun M9 => letP (fun (b33 : Bool) (M34 : Mem) => Q (.val (.bool b33)) M34) fun K35 => bindO (eLd tb 40 (.ptr M.next 0) M9) fun y10 => ∃ (z11 : Int) (z12 : Int) (z13 : Int) (z14 : Int) (z15 : Int), y10.1 =
  (.agg [(.val (.int .i64 z11)), (.val (.int .i64 z12)), (.val (.int .i64 z13)), (.val (.int .i64 z14)), (.val (.int .i64 z15))]) ∧
  (CallA tb.P 49 [(.agg [(.val (.int .i64 z11)), (.val (.int .i64 z12)), (.val (.int .i64 z13)), (.val (.int .i64 z14)), (.val (.int .i64 z15))])] M9 fun y16 M17 => zB y16 fun b18 => condB (b18) (bindO (eLd tb 3 (.ptr M8.next 0) M17) fun y19 => zI .i64 y19.1 fun z20 => bindO (eLd tb 3 (.ptr M.next 0) M17) fun y21 => zI .i64 y21.1 fun z22 => CallA tb.P 77 [(.val (.int .i64 z20)), (.val (.int .i64 0)), (.val (.int .i64 (iSub .i64 z22 1)))] M17 fun y23 M24 => zB y23 fun b25 => condB (b25) (bindO (eLd tb 3 (.ptr M8.next 1) M24) fun y26 => zI .i64 y26.1 fun z27 => bindO (eLd tb 3 (.ptr M.next 1) M24) fun y28 => zI .i64 y28.1 fun z29 => CallA tb.P 77 [(.val (.int .i64 z27)), (.val (.int .i64 0)), (.val (.int .i64 (iSub .i64 z29 1)))] M24 fun y30 M31 => zB y30 fun b32 => K35 b32 M31) (K35 false M24)) (K35 false M17))
def an76 : An := (.seq (.reg []) (.seq (.reg [.agg [.int .i64, .int .i64, .int .i64, .int .i64, .int .i64], .bool, .spl, .ptr, .int .i64, .ptr, .int .i64, .int .i64, .bool, .non, .spl, .ptr, .int .i64, .ptr, .int .i64, .int .i64, .bool]) .z))
theorem fn76 : tb.fn.get 76 = some Tryz.f76 := by kernel_rfl
theorem an76_ok : anB tb Tryz.f76.ntmps an76 (bodyOf Tryz.f76) = true := by kernel_rfl
theorem F76_eq : (fun (a0 a1 : AV) (M : Mem) (Q : AV → Mem → Prop) => zCs [.a [.int .i64, .int .i64, .int .i64, .int .i64, .int .i64], .a [.int .i64, .int .i64]] [a0, a1] fun args => wZ tb an76 (bodyOf Tryz.f76) (enterA Tryz.f76 args M) (retQ tb Tryz.f76 Q)) = fun (a0 a1 : AV) (M : Mem) (Q : AV → Mem → Prop) => F76 a0 a1 M Q := by kernel_rfl
theorem F76_ok {a0 a1 : AV} {M : Mem} {Q : AV → Mem → Prop} (h : F76 a0 a1 M Q) : CallA tb.P 76 [a0, a1] M Q :=
  calla_wZ tb_ok tb_mix fn76 (c := bodyOf Tryz.f76) rfl an76_ok (ks := [.a [.int .i64, .int .i64, .int .i64, .int .i64, .int .i64], .a [.int .i64, .int .i64]]) (cast (congrFun (congrFun (congrFun (congrFun F76_eq a0) a1) M) Q).symm h)

def F77 (a0 a1 a2 : AV) (M : Mem) (Q : AV → Mem → Prop) : Prop :=
  zI .i64 a0 fun z1 => zI .i64 a1 fun z2 => zI .i64 a2 fun z3 => letP (fun (b4 : Bool) => Q (.val (.bool b4)) M) fun K5 => condB (decide (z1 ≥ z2)) (K5 (decide (z1 ≤ z3))) (K5 false)
def an77 : An := (.seq (.reg []) (.seq (.reg [.non, .non, .bool, .spl, .non, .non, .bool]) .z))
theorem fn77 : tb.fn.get 77 = some Tryz.f77 := by kernel_rfl
theorem an77_ok : anB tb Tryz.f77.ntmps an77 (bodyOf Tryz.f77) = true := by kernel_rfl
theorem F77_eq : (fun (a0 a1 a2 : AV) (M : Mem) (Q : AV → Mem → Prop) => zCs [.l (.int .i64), .l (.int .i64), .l (.int .i64)] [a0, a1, a2] fun args => wZ tb an77 (bodyOf Tryz.f77) (enterA Tryz.f77 args M) (retQ tb Tryz.f77 Q)) = fun (a0 a1 a2 : AV) (M : Mem) (Q : AV → Mem → Prop) => F77 a0 a1 a2 M Q := by kernel_rfl
theorem F77_ok {a0 a1 a2 : AV} {M : Mem} {Q : AV → Mem → Prop} (h : F77 a0 a1 a2 M Q) : CallA tb.P 77 [a0, a1, a2] M Q :=
  calla_wZ tb_ok tb_mix fn77 (c := bodyOf Tryz.f77) rfl an77_ok (ks := [.l (.int .i64), .l (.int .i64), .l (.int .i64)]) (cast (congrFun (congrFun (congrFun (congrFun (congrFun F77_eq a0) a1) a2) M) Q).symm h)

def F78 (a0 : AV) (M : Mem) (Q : AV → Mem → Prop) : Prop :=
  letP (M.new (.cells [(.val (.int .i64 0)), (.val (.int .i64 0)), (.val (.int .i64 0)), (.val (.int .i64 0))] true)) fun M1 => bindO (eLen tb false 23 a0 M1) fun y2 => zI .i64 y2.1 fun z3 => CallA tb.P 106 [(.val (.int .i64 (iSub .i64 z3 16))), (.val (.int .i64 24)), (.val (.int .i64 64))] M1 fun y4 M5 => zB y4 fun b6 => condB (!b6) (bindO (eSt tb 64 (.ptr M.next 0) (.agg [(.val (.int .i64 0)), (.val (.int .i64 0)), (.val (.int .i64 0)), (.val (.int .i64 0))]) M5) fun y7 => bindO (eRes tb [.v (.val (.slice none 0 0)), .c 64 (.ptr M.next 0), .v (.val (.int .i64 2))] y7.2) fun x8 => Q x8 y7.2) (CallA tb.P 107 [a0, (.fn 108 [] [])] M5 fun y9 M10 => zB y9 fun b11 => condB (!b11) (bindO (eSt tb 64 (.ptr M.next 0) (.agg [(.val (.int .i64 0)), (.val (.int .i64 0)), (.val (.int .i64 0)), (.val (.int .i64 0))]) M10) fun y12 => bindO (eRes tb [.v (.val (.slice none 0 0)), .c 64 (.ptr M.next 0), .v (.val (.int .i64 0))] y12.2) fun x13 => Q x13 y12.2) (bindO (eSl tb 23 a0 (some (.val (.int .i64 (iSub .i64 z3 16)))) none none M10) fun y14 => letP (⟨M10.next + 1, M10.rows⟩ : Mem) fun M15 => bindO (eIA tb 23 y14.1 (.val (.int .i64 1)) M15) fun y16 => zP y16.1 fun p17 o18 => bindO (eSl tb 23 y14.1 (some (.val (.int .i64 2))) (some (.val (.int .i64 4))) none M15) fun y19 => bindO (eSl tb 23 y14.1 (some (.val (.int .i64 4))) (some (.val (.int .i64 8))) none M15) fun y20 => bindO (eSl tb 23 y14.1 (some (.val (.int .i64 8))) (some (.val (.int .i64 11))) none M15) fun y21 => bindO (eLd tb 5 (.ptr p17 o18) M15) fun y22 => zI .u8 y22.1 fun z23 => CallA tb.P 109 [y19.1] M15 fun y24 M25 => zI .i64 y24 fun z26 => (bindO (eLd tb 5 (.ptr p17 o18) M25) fun y27 => (some (.val (.int .u8 z23)) : Option AV) =
  some y27.1) ∧ (CallA tb.P 109 [y20.1] M25 fun y28 M29 => zI .i64 y28 fun z30 => (bindO (eLd tb 5 (.ptr p17 o18) M29) fun y31 => (some (.val (.int .u8 z23)) : Option AV) = some y31.1) ∧
  (CallA tb.P 109 [y21.1] M29 fun y32 M33 => zI .i64 y32 fun z34 => (bindO (eLd tb 5 (.ptr p17 o18) M33) fun y35 => (some (.val (.int .u8 z23)) : Option AV) = some y35.1) ∧
  (letP (M33.put M10.next (.cells [(.val (.int .i64 0)), (.val (.int .i64 0)), (.val (.int .i64 0)), (.val (.int .i64 0))] true)) fun M36 => bindO (eSt tb 64 (.ptr M10.next 0) (.agg [(.val (.int .i64 (IntKind.wrap .i64 z23))), (.val (.int .i64 z26)), (.val (.int .i64 z30)), (.val (.int .i64 z34))]) M36) fun y37 => letP (fun (b64 : Bool) (M65 : Mem) => condB (b64) (bindO (eSt tb 64 (.ptr M.next 0) (.agg [(.val (.int .i64 0)), (.val (.int .i64 0)), (.val (.int .i64 0)), (.val (.int .i64 0))]) M65) fun y67 => bindO (eRes tb [.v (.val (.slice none 0 0)), .c 64 (.ptr M.next 0), .v (.val (.int .i64 2))] y67.2) fun x68 => Q x68 y67.2) (bindO (eSl tb 23 a0 none (some (.val (.int .i64 (iSub .i64 z3 16)))) none M65) fun y69 => bindO (eLd tb 64 (.ptr M10.next 0) M65) fun y70 => ∃ (z71 : Int) (z72 : Int) (z73 : Int) (z74 : Int), y70.1 =
  (.agg [(.val (.int .i64 z71)), (.val (.int .i64 z72)), (.val (.int .i64 z73)), (.val (.int .i64 z74))]) ∧
  (CallA tb.P 25 [y69.1] M65 fun y75 M76 => (bindO (eLd tb 64 (.ptr M10.next 0) M76) fun y77 => (some (.agg [(.val (.int .i64 z71)), (.val (.int .i64 z72)), (.val (.int .i64 z73)), (.val (.int .i64 z74))]) : Option AV) =
  some y77.1) ∧
  (bindO (eSt tb 64 (.ptr M.next 0) (.agg [(.val (.int .i64 z71)), (.val (.int .i64 z72)), (.val (.int .i64 z73)), (.val (.int .i64 z74))]) M76) fun y78 => bindO (eRes tb [.v y75, .c 64 (.ptr M.next 0), .v (.val (.int .i64 1))] y78.2) fun x79 => Q x79 y78.2)))) fun K66 => bindO (eIA tb 23 y14.1 (.val (.int .i64 0)) y37.2) fun y38 => zP y38.1 fun p39 o40 => bindO (eLd tb 5 (.ptr p39 o40) y37.2) fun y41 => zI .u8 y41.1 fun z42 => condB (z42 !=
  (74 : Int)) (K66 true y37.2) (bindO (eIA tb 23 y14.1 (.val (.int .i64 15)) y37.2) fun y43 => zP y43.1 fun p44 o45 => bindO (eLd tb 5 (.ptr p44 o45) y37.2) fun y46 => zI .u8 y46.1 fun z47 => condB (z47 !=
  (0 : Int)) (K66 true y37.2) (bindO (eSl tb 23 y14.1 (some (.val (.int .i64 11))) (some (.val (.int .i64 15))) none y37.2) fun y48 => bindO (eSl tb 23 a0 none (some (.val (.int .i64 (iAdd .i64 (iSub .i64 z3 16) 11)))) none y37.2) fun y49 => CallA tb.P 109 [y48.1] y37.2 fun y50 M51 => zI .i64 y50 fun z52 => CallA tb.P 110 [y49.1] M51 fun y53 M54 => zI .u32 y53 fun z55 => condB (z52 !=
  (IntKind.wrap .i64 z55)) (K66 true M54) (bindO (eLd tb 64 (.ptr M10.next 0) M54) fun y56 => ∃ (z57 : Int) (z58 : Int) (z59 : Int) (z60 : Int), y56.1 =
  (.agg [(.val (.int .i64 z57)), (.val (.int .i64 z58)), (.val (.int .i64 z59)), (.val (.int .i64 z60))]) ∧
  (CallA tb.P 111 [(.agg [(.val (.int .i64 z57)), (.val (.int .i64 z58)), (.val (.int .i64 z59)), (.val (.int .i64 z60))])] M54 fun y61 M62 => zB y61 fun b63 => K66 (!b63) M62)))))))))
def an78 : An := (.seq (.reg []) (.seq (.reg [.non, .int .i64, .int .i64]) (.seq (.seq (.reg [.non, .bool, .bool]) (.cnd (.seq (.reg []) .z) .z)) (.seq (.seq (.reg [.non, .bool, .bool]) (.cnd (.seq (.reg []) .z) .z)) (.seq (.reg []) (.seq (.opn [(0, []), (1, []), (4, []), (5, []), (7, []), (8, []), (10, []), (11, []), (2, []), (3, []), (6, [2]), (9, [2]), (12, [2]), (13, []), (14, []), (15, [])] [0, 0, 0, 0, 0, 0, 0, 0, 0, 0, 0, 0, 0, 0, 0, 0] [[], [], [], [], [], [], [2], [], [], [2], [], [], [2]] 1 [.non, .ptr, .non, .non, .non, .non, .non, .non, .int .u8, .int .i64, .int .i64, .int .i64, .int .i64, .non, .non, .non]) (.seq (.seq (.opn [(0, []), (1, []), (2, []), (3, []), (4, []), (5, []), (6, []), (7, []), (8, []), (9, []), (10, []), (11, []), (12, []), (14, []), (15, []), (16, []), (17, []), (13, []), (18, []), (19, []), (20, []), (21, []), (22, []), (23, []), (24, []), (25, []), (26, [])] [] [] 0 [.non, .ptr, .int .u8, .bool, .spl, .non, .ptr, .int .u8, .bool, .non, .spl, .non, .non, .non, .non, .int .i64, .non, .int .i64, .int .u32, .int .i64, .bool, .non, .spl, .agg [.int .i64, .int .i64, .int .i64, .int .i64], .bool, .bool, .non]) (.cnd (.seq (.reg []) .z) .z)) (.seq (.opn [(0, []), (1, []), (2, []), (4, []), (3, [4]), (5, []), (6, []), (7, [])] [] [[], [], [], [4]] 0 [.non, .non, .non, .agg [.int .i64, .int .i64, .int .i64, .int .i64], .non, .non, .non, .non]) .z))))))))
theorem fn78 : tb.fn.get 78 = some Tryz.f78 := by kernel_rfl
theorem an78_ok : anB tb Tryz.f78.ntmps an78 (bodyOf Tryz.f78) = true := by kernel_rfl
theorem F78_eq : (fun (a0 : AV) (M : Mem) (Q : AV → Mem → Prop) => zCs [.l .any] [a0] fun args => wZ tb an78 (bodyOf Tryz.f78) (enterA Tryz.f78 args M) (retQ tb Tryz.f78 Q)) = fun (a0 : AV) (M : Mem) (Q : AV → Mem → Prop) => F78 a0 M Q := by kernel_rfl
theorem F78_ok {a0 : AV} {M : Mem} {Q : AV → Mem → Prop} (h : F78 a0 M Q) : CallA tb.P 78 [a0] M Q :=
  calla_wZ tb_ok tb_mix fn78 (c := bodyOf Tryz.f78) rfl an78_ok (ks := [.l .any]) (cast (congrFun (congrFun (congrFun F78_eq a0) M) Q).symm h)

def F79 (a0 a1 : AV) (M : Mem) (Q : AV → Mem → Prop) : Prop :=
  ∃ (z1 : Int) (z2 : Int) (z3 : Int) (z4 : Int), a0 = (.agg [(.val (.int .i64 z1)), (.val (.int .i64 z2)), (.val (.int .i64 z3)), (.val (.int .i64 z4))]) ∧
  ∃ (z5 : Int) (z6 : Int) (z7 : Int) (z8 : Int), a1 = (.agg [(.val (.int .i64 z5)), (.val (.int .i64 z6)), (.val (.int .i64 z7)), (.val (.int .i64 z8))]) ∧
  letP (M.new (.cells [(.val (.int .i64 z1)), (.val (.int .i64 z2)), (.val (.int .i64 z3)), (.val (.int .i64 z4))] true)) fun M9 => letP (M9.new (.cells [(.val (.int .i64 z5)), (.val (.int .i64 z6)), (.val (.int .i64 z7)), (.val (.int .i64 z8))] true)) fun M10 => letP (fun (b23 : Bool) => Q (.val (.bool b23)) M10) fun K24 => bindO (eLd tb 3 (.ptr M.next 3) M10) fun y11 => zI .i64 y11.1 fun z12 => bindO (eLd tb 3 (.ptr M9.next 3) M10) fun y13 => zI .i64 y13.1 fun z14 => condB (decide (z12 > z14)) (K24 true) (bindO (eLd tb 3 (.ptr M.next 3) M10) fun y15 => zI .i64 y15.1 fun z16 => bindO (eLd tb 3 (.ptr M9.next 3) M10) fun y17 => zI .i64 y17.1 fun z18 => condB (z16 ==
  z18) (bindO (eLd tb 3 (.ptr M.next 2) M10) fun y19 => zI .i64 y19.1 fun z20 => bindO (eLd tb 3 (.ptr M9.next 2) M10) fun y21 => zI .i64 y21.1 fun z22 => K24 (decide (z20 > z22))) (K24 false))
def an79 : An := (.seq (.reg []) (.seq (.reg [.ptr, .int .i64, .ptr, .int .i64, .bool, .spl, .ptr, .int .i64, .ptr, .int .i64, .bool, .spl, .ptr, .int .i64, .ptr, .int .i64, .bool]) .z))
theorem fn79 : tb.fn.get 79 = some Tryz.f79 := by kernel_rfl
theorem an79_ok : anB tb Tryz.f79.ntmps an79 (bodyOf Tryz.f79) = true := by kernel_rfl
theorem F79_eq : (fun (a0 a1 : AV) (M : Mem) (Q : AV → Mem → Prop) => zCs [.a [.int .i64, .int .i64, .int .i64, .int .i64], .a [.int .i64, .int .i64, .int .i64, .int .i64]] [a0, a1] fun args => wZ tb an79 (bodyOf Tryz.f79) (enterA Tryz.f79 args M) (retQ tb Tryz.f79 Q)) = fun (a0 a1 : AV) (M : Mem) (Q : AV → Mem → Prop) => F79 a0 a1 M Q := by kernel_rfl
theorem F79_ok {a0 a1 : AV} {M : Mem} {Q : AV → Mem → Prop} (h : F79 a0 a1 M Q) : CallA tb.P 79 [a0, a1] M Q :=
  calla_wZ tb_ok tb_mix fn79 (c := bodyOf Tryz.f79) rfl an79_ok (ks := [.a [.int .i64, .int .i64, .int .i64, .int .i64], .a [.int .i64, .int .i64, .int .i64, .int .i64]]) (cast (congrFun (congrFun (congrFun (congrFun F79_eq a0) a1) M) Q).symm h)

def F83 (a0 a1 a2 a3 a4 : AV) (M : Mem) (Q : AV → Mem → Prop) : Prop :=
  zI .i64 a1 fun z1 => zI .i64 a2 fun z2 => zI .i64 a3 fun z3 => ∃ J4 : Int → Int → Int → Bool → Bool → Nat → Mem → Prop, (∃ n5 : Nat, J4 z1 z2 z3 true true n5 M) ∧
  ∀ (_ : Nat → Option AV) (z6 : Int) (z7 : Int) (z8 : Int) (b9 : Bool) (b10 : Bool) (n11 : Nat) (M12 : Mem), J4 z6 z7 z8 b9 b10 n11 M12 →
  (condB (decide ((iSub .i64 z7 z6) ≤ (12 : Int))) (CallA tb.P 114 [a0, (.val (.int .i64 z6)), (.val (.int .i64 z7)), a4] M12 fun y13 M14 => Q (.tup []) M14) (condB (z8 ==
  (0 : Int)) (CallA tb.P 115 [a0, (.val (.int .i64 z6)), (.val (.int .i64 z7)), a4] M12 fun y15 M16 => Q (.tup []) M16) (letP (fun (z19 : Int) (M20 : Mem) => CallA tb.P 117 [a0, (.val (.int .i64 z6)), (.val (.int .i64 z7)), a4] M20 fun y22 M23 => ∃ (z24 : Int) (z25 : Int), y22 =
  (.tup [(.val (.int .i64 z24)), (.val (.int .i64 z25))]) ∧
  (letP (fun (z28 : Int) (z29 : Int) (M30 : Mem) => letP (fun (M37 : Mem) => letP (fun (b62 : Bool) (M63 : Mem) => condB (b62) (CallA tb.P 120 [a0, (.val (.int .i64 z6)), (.val (.int .i64 z7)), (.val (.int .i64 z28)), a4] M63 fun y65 M66 => zI .i64 y65 fun z67 => ∃ k84 : Nat, k84 < n11 ∧
  (J4 z67 z7 z19 b9 b10 k84 M66)) (CallA tb.P 121 [a0, (.val (.int .i64 z6)), (.val (.int .i64 z7)), (.val (.int .i64 z28)), a4] M63 fun y68 M69 => ∃ (z70 : Int) (b71 : Bool), y68 =
  (.tup [(.val (.int .i64 z70)), (.val (.bool b71))]) ∧
  (condB (decide ((iSub .i64 z70 z6) < (iSub .i64 z7 z70))) (CallA tb.P 83 [a0, (.val (.int .i64 z6)), (.val (.int .i64 z70)), (.val (.int .i64 z19)), a4] M69 fun y72 M73 => ∃ k85 : Nat, k85 < n11 ∧
  (J4 (iAdd .i64 z70 1) z7 z19 (decide ((iSub .i64 z70 z6) ≥ (iQuo .i64 (iSub .i64 z7 z6) 8))) b71 k85 M73)) (CallA tb.P 83 [a0, (.val (.int .i64 (iAdd .i64 z70 1))), (.val (.int .i64 z7)), (.val (.int .i64 z19)), a4] M69 fun y74 M75 => ∃ k86 : Nat, k86 < n11 ∧
  (J4 z6 z70 z19 (decide ((iSub .i64 z7 z70) ≥ (iQuo .i64 (iSub .i64 z7 z6) 8))) b71 k86 M75))))) fun K64 => condB (decide (z6 > (0 : Int))) (bindO (eIA tb 69 a0 (.val (.int .i64 (iSub .i64 z6 1))) M37) fun y39 => zP y39.1 fun p40 o41 => bindO (eIA tb 69 a0 (.val (.int .i64 z28)) M37) fun y42 => zP y42.1 fun p43 o44 => bindO (eLd tb 73 (.ptr p40 o41) M37) fun y45 => ∃ (z46 : Int) (z47 : Int) (z48 : Int) (z49 : Int) (z50 : Int) (z51 : Int), y45.1 =
  (.agg [(.val (.int .i64 z46)), (.val (.int .i64 z47)), (.val (.int .i64 z48)), (.val (.int .i64 z49)), (.val (.int .i64 z50)), (.val (.int .i64 z51))]) ∧
  (bindO (eLd tb 73 (.ptr p43 o44) M37) fun y52 => ∃ (z53 : Int) (z54 : Int) (z55 : Int) (z56 : Int) (z57 : Int) (z58 : Int), y52.1 =
  (.agg [(.val (.int .i64 z53)), (.val (.int .i64 z54)), (.val (.int .i64 z55)), (.val (.int .i64 z56)), (.val (.int .i64 z57)), (.val (.int .i64 z58))]) ∧
  (eCall tb a4 [(.agg [(.val (.int .i64 z46)), (.val (.int .i64 z47)), (.val (.int .i64 z48)), (.val (.int .i64 z49)), (.val (.int .i64 z50)), (.val (.int .i64 z51))]), (.agg [(.val (.int .i64 z53)), (.val (.int .i64 z54)), (.val (.int .i64 z55)), (.val (.int .i64 z56)), (.val (.int .i64 z57)), (.val (.int .i64 z58))])] M37 fun y59 M60 => zI .i64 y59 fun z61 => K64 (!(decide (z61 < (0 : Int)))) M60))) (K64 false M37)) fun K38 => letP (fun (b32 : Bool) => condB (b32) (CallA tb.P 119 [a0, (.val (.int .i64 z6)), (.val (.int .i64 z7)), a4] M30 fun y34 M35 => zB y34 fun b36 => condB (b36) (Q (.tup []) M35) (K38 M35)) (K38 M30)) fun K33 => condB (b9) (condB (b10) (K33 (z29 ==
  (1 : Int))) (K33 false)) (K33 false)) fun K31 => condB (z25 ==
  (2 : Int)) (CallA tb.P 118 [a0, (.val (.int .i64 z6)), (.val (.int .i64 z7)), a4] M23 fun y26 M27 => K31 (iSub .i64 (iSub .i64 z7 1) (iSub .i64 z24 z6)) (1 : Int) M27) (K31 z24 z25 M23))) fun K21 => condB (!b9) (CallA tb.P 116 [a0, (.val (.int .i64 z6)), (.val (.int .i64 z7)), a4] M12 fun y17 M18 => K21 (iSub .i64 z8 1) M18) (K21 z8 M12))))
def an83 : An := (.seq (.reg []) (.seq (.reg []) (.blk (.lop [(1, .int .i64), (2, .int .i64), (3, .int .i64), (10, .bool), (11, .bool)] [12, 13, 14, 15, 16, 17, 18, 19, 20, 21, 22, 23, 24, 25, 26, 27, 28, 29, 30, 31, 32, 33, 34, 35, 36, 37, 38, 39, 40, 41, 42, 43, 44, 45, 46, 47, 48, 49, 50, 51, 52, 53, 54, 55, 56, 57, 58, 59, 60, 61, 62, 63, 64, 65, 66, 67, 68, 69, 70, 71, 72, 73, 74, 75, 76, 77, 78, 79, 80, 81, 82, 83, 84, 85, 86, 87, 88, 89, 90, 91, 92, 93, 94, 95, 96, 97, 98, 99, 100, 101, 102, 103, 104, 105, 106, 107, 108, 109, 110, 111, 112, 113, 114, 115, 116, 117, 118, 119, 120, 121, 122, 123, 124, 125, 126, 127, 128, 129, 130, 131, 132, 133, 134, 135, 136, 137, 138, 139, 140, 141, 142, 143, 144, 145, 146, 147] (.blk (.seq (.reg [.non, .non, .int .i64]) (.seq (.seq (.reg [.non, .bool]) (.cnd (.seq (.reg []) .z) .z)) (.seq (.seq (.reg [.non, .bool]) (.cnd (.seq (.reg []) .z) .z)) (.seq (.seq (.reg [.non, .bool]) (.cnd (.seq (.reg []) (.reg [.non, .int .i64])) .z)) (.seq (.reg [.non, .non, .non, .non, .tup [.l (.int .i64), .l (.int .i64)], .non, .int .i64, .int .i64]) (.seq (.seq (.reg [.non, .bool]) (.cnd (.seq (.reg []) (.seq (.reg [.non, .int .i64, .non, .non, .int .i64, .int .i64]) (.reg []))) .z)) (.seq (.seq (.reg [.non, .spl, .non, .non, .spl, .non, .bool]) (.cnd (.seq (.reg [.non, .non, .non, .non, .bool]) (.cnd .z .z)) .z)) (.seq (.seq (.opn [(0, []), (1, []), (2, []), (3, []), (4, []), (5, []), (6, []), (7, []), (9, []), (10, []), (11, []), (8, []), (12, []), (13, []), (14, []), (15, []), (16, [])] [] [] 0 [.non, .bool, .spl, .non, .non, .non, .int .i64, .ptr, .non, .non, .ptr, .agg [.int .i64, .int .i64, .int .i64, .int .i64, .int .i64, .int .i64], .agg [.int .i64, .int .i64, .int .i64, .int .i64, .int .i64, .int .i64], .int .i64, .bool, .bool, .non]) (.cnd (.seq (.reg [.non, .non, .non, .non, .non, .int .i64]) (.seq (.reg []) .z)) .z)) (.seq (.reg [.non, .non, .non, .non, .non, .tup [.l (.int .i64), .l .bool], .non, .int .i64, .bool]) (.seq (.reg []) (.seq (.reg [.non, .non, .int .i64, .non, .non, .int .i64]) (.seq (.reg [.non, .int .i64]) (.seq (.reg [.non, .non, .bool]) (.cnd (.seq (.reg [.non, .non, .bool]) (.seq (.reg []) (.reg [.non, .int .i64]))) (.seq (.reg [.non, .non, .bool]) (.seq (.reg [.non, .non, .int .i64]) (.reg []))))))))))))))))))))))
theorem fn83 : tb.fn.get 83 = some Tryz.f83 := by kernel_rfl
theorem an83_ok : anB tb Tryz.f83.ntmps an83 (bodyOf Tryz.f83) = true := by kernel_rfl
theorem F83_eq : (fun (a0 a1 a2 a3 a4 : AV) (M : Mem) (Q : AV → Mem → Prop) => zCs [.l .any, .l (.int .i64), .l (.int .i64), .l (.int .i64), .l .any] [a0, a1, a2, a3, a4] fun args => wZ tb an83 (bodyOf Tryz.f83) (enterA Tryz.f83 args M) (retQ tb Tryz.f83 Q)) = fun (a0 a1 a2 a3 a4 : AV) (M : Mem) (Q : AV → Mem → Prop) => F83 a0 a1 a2 a3 a4 M Q := by kernel_rfl
theorem F83_ok {a0 a1 a2 a3 a4 : AV} {M : Mem} {Q : AV → Mem → Prop} (h : F83 a0 a1 a2 a3 a4 M Q) : CallA tb.P 83 [a0, a1, a2, a3, a4] M Q :=
  calla_wZ tb_ok tb_mix fn83 (c := bodyOf Tryz.f83) rfl an83_ok (ks := [.l .any, .l (.int .i64), .l (.int .i64), .l (.int .i64), .l .any]) (cast (congrFun (congrFun (congrFun (congrFun (congrFun (congrFun (congrFun F83_eq a0) a1) a2) a3) a4) M) Q).symm h)

def F86 (a0 a1 : AV) (M : Mem) (Q : AV → Mem → Prop) : Prop :=
  zI .i64 a1 fun z1 => letP (fun (b18 : Bool) (M19 : Mem) => Q (.val (.bool b18)) M19) fun K20 => bindO (eNil a0 M) fun y2 => bindO (eFA tb 60 y2.1 0 M) fun y3 => zP y3.1 fun p4 o5 => bindO (eLd tb 33 (.ptr p4 o5) M) fun y6 => CallA tb.P 29 [y6.1, (.val (.int .i64 z1))] M fun y7 M8 => zB y7 fun b9 => condB (b9) (K20 true M8) (bindO (eNil a0 M8) fun y10 => bindO (eFA tb 60 y10.1 0 M8) fun y11 => zP y11.1 fun p12 o13 => bindO (eLd tb 33 (.ptr p12 o13) M8) fun y14 => CallA tb.P 124 [y14.1, (.val (.int .i64 z1))] M8 fun y15 M16 => zB y15 fun b17 => K20 b17 M16)
def an86 : An := (.seq (.reg []) (.seq (.reg [.non, .non, .ptr, .non, .non, .bool, .spl, .non, .non, .ptr, .non, .non, .bool]) .z))
theorem fn86 : tb.fn.get 86 = some Tryz.f86 := by kernel_rfl
theorem an86_ok : anB tb Tryz.f86.ntmps an86 (bodyOf Tryz.f86) = true := by kernel_rfl
theorem F86_eq : (fun (a0 a1 : AV) (M : Mem) (Q : AV → Mem → Prop) => zCs [.l .any, .l (.int .i64)] [a0, a1] fun args => wZ tb an86 (bodyOf Tryz.f86) (enterA Tryz.f86 args M) (retQ tb Tryz.f86 Q)) = fun (a0 a1 : AV) (M : Mem) (Q : AV → Mem → Prop) => F86 a0 a1 M Q := by kernel_rfl
theorem F86_ok {a0 a1 : AV} {M : Mem} {Q : AV → Mem → Prop} (h : F86 a0 a1 M Q) : CallA tb.P 86 [a0, a1] M Q :=
  calla_wZ tb_ok tb_mix fn86 (c := bodyOf Tryz.f86) rfl an86_ok (ks := [.l .any, .l (.int .i64)]) (cast (congrFun (congrFun (congrFun (congrFun F86_eq a0) a1) M) Q).symm h)

def F102 (a0 a1 : AV) (M : Mem) (Q : AV → Mem → Prop) : Prop :=
  bindO (eLen tb false 76 a0 M) fun y1 => zI .i64 y1.1 fun z2 => ∃ J3 : Int → Nat → Mem → Prop, (∃ n4 : Nat, J3 (0 : Int) n4 M) ∧ ∀ (_ : Nat → Option AV) (z5 : Int) (n6 : Nat) (M7 : Mem), J3 z5 n6 M7 →
  (condB (decide (z5 < z2)) (bindO (eIA tb 76 a0 (.val (.int .i64 z5)) M7) fun y8 => zP y8.1 fun p9 o10 => bindO (eLd tb 80 (.ptr p9 o10) M7) fun y11 => ∃ (z12 : Int) (b13 : Bool) (z14 : Int), y11.1 =
  (.agg [(.val (.int .i64 z12)), (.val (.bool b13)), (.val (.int .i64 z14))]) ∧
  (eCall tb a1 [(.agg [(.val (.int .i64 z12)), (.val (.bool b13)), (.val (.int .i64 z14))])] M7 fun y15 M16 => zB y15 fun b17 => condB (b17) (Q (.val (.int .i64 z5)) M16) (∃ k18 : Nat, k18 < n6 ∧
  (J3 (iAdd .i64 z5 1) k18 M16)))) (Q (.val (.int .i64 (-1))) M7))
def an102 : An := (.seq (.reg []) (.seq (.seq (.reg [.non, .int .i64]) (.blk (.lop [(8, .int .i64)] [4, 5, 9, 10, 11, 12, 13, 14, 15, 16, 17, 18] (.seq (.reg []) (.seq (.cnd .z .z) (.seq (.blk (.seq (.reg []) (.seq (.reg [.non, .non, .non, .ptr, .agg [.int .i64, .bool, .int .i64], .bool]) (.cnd (.seq (.reg []) .z) .z)))) (.reg [.int .i64]))))))) (.seq (.reg []) .z)))
theorem fn102 : tb.fn.get 102 = some Tryz.f102 := by kernel_rfl
theorem an102_ok : anB tb Tryz.f102.ntmps an102 (bodyOf Tryz.f102) = true := by kernel_rfl
theorem F102_eq : (fun (a0 a1 : AV) (M : Mem) (Q : AV → Mem → Prop) => zCs [.l .any, .l .any] [a0, a1] fun args => wZ tb an102 (bodyOf Tryz.f102) (enterA Tryz.f102 args M) (retQ tb Tryz.f102 Q)) = fun (a0 a1 : AV) (M : Mem) (Q : AV → Mem → Prop) => F102 a0 a1 M Q := by kernel_rfl
theorem F102_ok {a0 a1 : AV} {M : Mem} {Q : AV → Mem → Prop} (h : F102 a0 a1 M Q) : CallA tb.P 102 [a0, a1] M Q :=
  calla_wZ tb_ok tb_mix fn102 (c := bodyOf Tryz.f102) rfl an102_ok (ks := [.l .any, .l .any]) (cast (congrFun (congrFun (congrFun (congrFun F102_eq a0) a1) M) Q).symm h)

def F103 (a0 a1 : AV) (M : Mem) (Q : AV → Mem → Prop) : Prop :=
  ∃ (z1 : Int) (b2 : Bool) (z3 : Int), a0 = (.agg [(.val (.int .i64 z1)), (.val (.bool b2)), (.val (.int .i64 z3))]) ∧
  letP (M.new (.cells [(.val (.int .i64 z1)), (.val (.bool b2)), (.val (.int .i64 z3))] true)) fun M4 => bindO (eLd tb 3 (.ptr M.next 0) M4) fun y5 => zI .i64 y5.1 fun z6 => bindO (eLd tb 3 a1 M4) fun y7 => zI .i64 y7.1 fun z8 => Q (.val (.bool (z6 ==
  z8))) M4
def an103 : An := (.seq (.reg []) (.seq (.reg [.ptr, .int .i64, .int .i64, .bool]) .z))
theorem fn103 : tb.fn.get 103 = some Tryz.f103 := by kernel_rfl
theorem an103_ok : anB tb Tryz.f103.ntmps an103 (bodyOf Tryz.f103) = true := by kernel_rfl
theorem F103_eq : (fun (a0 a1 : AV) (M : Mem) (Q : AV → Mem → Prop) => zCs [.a [.int .i64, .bool, .int .i64], .l .any] [a0, a1] fun args => wZ tb an103 (bodyOf Tryz.f103) (enterA Tryz.f103 args M) (retQ tb Tryz.f103 Q)) = fun (a0 a1 : AV) (M : Mem) (Q : AV → Mem → Prop) => F103 a0 a1 M Q := by kernel_rfl
theorem F103_ok {a0 a1 : AV} {M : Mem} {Q : AV → Mem → Prop} (h : F103 a0 a1 M Q) : CallA tb.P 103 [a0, a1] M Q :=
  calla_wZ tb_ok tb_mix fn103 (c := bodyOf Tryz.f103) rfl an103_ok (ks := [.a [.int .i64, .bool, .int .i64], .l .any]) (cast (congrFun (congrFun (congrFun (congrFun F103_eq a0) a1) M) Q).symm h)

def F105 (a0 a1 : AV) (M : Mem) (Q : AV → Mem → Prop) : Prop :=
  zI .u64 a0 fun z1 => zI .u64 a1 fun z2 => Q (.tup [(.val (.int .u64 (iAdd .u64 (iAdd .u64 (iMul .u64 (iShr .u64 z1 32) (iShr .u64 z2 32)) (iShr .u64 (iAdd .u64 (iMul .u64 (iShr .u64 z1 32) (iAnd .u64 z2 4294967295)) (iShr .u64 (iMul .u64 (iAnd .u64 z1 4294967295) (iAnd .u64 z2 4294967295)) 32)) 32)) (iShr .u64 (iAdd .u64 (iAnd .u64 (iAdd .u64 (iMul .u64 (iShr .u64 z1 32) (iAnd .u64 z2 4294967295)) (iShr .u64 (iMul .u64 (iAnd .u64 z1 4294967295) (iAnd .u64 z2 4294967295)) 32)) 4294967295) (iMul .u64 (iAnd .u64 z1 4294967295) (iShr .u64 z2 32))) 32)))), (.val (.int .u64 (iMul .u64 z1 z2)))]) M
def an105 : An := (.seq (.reg []) (.seq (.reg [.non, .int .u64]) (.seq (.reg [.non, .int .u64]) (.seq (.reg [.non, .int .u64]) (.seq (.reg [.non, .int .u64]) (.seq (.reg [.non, .non, .int .u64]) (.seq (.reg [.non, .non, .int .u64, .non, .int .u64, .int .u64]) (.seq (.reg [.non, .int .u64]) (.seq (.reg [.non, .int .u64]) (.seq (.reg [.non, .non, .non, .int .u64, .int .u64]) (.seq (.reg [.non, .non, .int .u64, .non, .int .u64, .non, .int .u64, .int .u64]) (.seq (.reg [.non, .non, .int .u64]) .z))))))))))))
theorem fn105 : tb.fn.get 105 = some Tryz.f105 := by kernel_rfl
theorem an105_ok : anB tb Tryz.f105.ntmps an105 (bodyOf Tryz.f105) = true := by kernel_rfl
theorem F105_eq : (fun (a0 a1 : AV) (M : Mem) (Q : AV → Mem → Prop) => zCs [.l (.int .u64), .l (.int .u64)] [a0, a1] fun args => wZ tb an105 (bodyOf Tryz.f105) (enterA Tryz.f105 args M) (retQ tb Tryz.f105 Q)) = fun (a0 a1 : AV) (M : Mem) (Q : AV → Mem → Prop) => F105 a0 a1 M Q := by kernel_rfl
theorem F105_ok {a0 a1 : AV} {M : Mem} {Q : AV → Mem → Prop} (h : F105 a0 a1 M Q) : CallA tb.P 105 [a0, a1] M Q :=
  calla_wZ tb_ok tb_mix fn105 (c := bodyOf Tryz.f105) rfl an105_ok (ks := [.l (.int .u64), .l (.int .u64)]) (cast (congrFun (congrFun (congrFun (congrFun F105_eq a0) a1) M) Q).symm h)

def F106 (a0 a1 a2 : AV) (M : Mem) (Q : AV → Mem → Prop) : Prop :=
  zI .i64 a0 fun z1 => zI .i64 a1 fun z2 => zI .i64 a2 fun z3 => letP (fun (b4 : Bool) => Q (.val (.bool b4)) M) fun K5 => condB (decide (z1 ≥ z2)) (K5 (decide (z1 ≤ z3))) (K5 false)
def an106 : An := (.seq (.reg []) (.seq (.reg [.non, .non, .bool, .spl, .non, .non, .bool]) .z))
theorem fn106 : tb.fn.get 106 = some Tryz.f106 := by kernel_rfl
theorem an106_ok : anB tb Tryz.f106.ntmps an106 (bodyOf Tryz.f106) = true := by kernel_rfl
theorem F106_eq : (fun (a0 a1 a2 : AV) (M : Mem) (Q : AV → Mem → Prop) => zCs [.l (.int .i64), .l (.int .i64), .l (.int .i64)] [a0, a1, a2] fun args => wZ tb an106 (bodyOf Tryz.f106) (enterA Tryz.f106 args M) (retQ tb Tryz.f106 Q)) = fun (a0 a1 a2 : AV) (M : Mem) (Q : AV → Mem → Prop) => F106 a0 a1 a2 M Q := by kernel_rfl
theorem F106_ok {a0 a1 a2 : AV} {M : Mem} {Q : AV → Mem → Prop} (h : F106 a0 a1 a2 M Q) : CallA tb.P 106 [a0, a1, a2] M Q :=
  calla_wZ tb_ok tb_mix fn106 (c := bodyOf Tryz.f106) rfl an106_ok (ks := [.l (.int .i64), .l (.int .i64), .l (.int .i64)]) (cast (congrFun (congrFun (congrFun (congrFun (congrFun F106_eq a0) a1) a2) M) Q).symm h)

def F107 (a0 a1 : AV) (M : Mem) (Q : AV → Mem → Prop) : Prop :=
  CallA tb.P 134 [a0, a1] M fun y1 M2 => zI .i64 y1 fun z3 => Q (.val (.bool (decide (z3 ≥ (0 : Int))))) M2
def an107 : An := (.seq (.reg []) (.seq (.reg [.non, .non, .int .i64, .bool]) .z))
theorem fn107 : tb.fn.get 107 = some Tryz.f107 := by kernel_rfl
theorem an107_ok : anB tb Tryz.f107.ntmps an107 (bodyOf Tryz.f107) = true := by kernel_rfl
theorem F107_eq : (fun (a0 a1 : AV) (M : Mem) (Q : AV → Mem → Prop) => zCs [.l .any, .l .any] [a0, a1] fun args => wZ tb an107 (bodyOf Tryz.f107) (enterA Tryz.f107 args M) (retQ tb Tryz.f107 Q)) = fun (a0 a1 : AV) (M : Mem) (Q : AV → Mem → Prop) => F107 a0 a1 M Q := by kernel_rfl
theorem F107_ok {a0 a1 : AV} {M : Mem} {Q : AV → Mem → Prop} (h : F107 a0 a1 M Q) : CallA tb.P 107 [a0, a1] M Q :=
  calla_wZ tb_ok tb_mix fn107 (c := bodyOf Tryz.f107) rfl an107_ok (ks := [.l .any, .l .any]) (cast (congrFun (congrFun (congrFun (congrFun F107_eq a0) a1) M) Q).symm h)

def F108 (a0 : AV) (M : Mem) (Q : AV → Mem → Prop) : Prop :=
  zI .u8 a0 fun z1 => Q (.val (.bool (z1 != (255 : Int)))) M
def an108 : An := (.seq (.reg []) (.seq (.reg [.non, .bool]) .z))
theorem fn108 : tb.fn.get 108 = some Tryz.f108 := by kernel_rfl
theorem an108_ok : anB tb Tryz.f108.ntmps an108 (bodyOf Tryz.f108) = true := by kernel_rfl
theorem F108_eq : (fun (a0 : AV) (M : Mem) (Q : AV → Mem → Prop) => zCs [.l (.int .u8)] [a0] fun args => wZ tb an108 (bodyOf Tryz.f108) (enterA Tryz.f108 args M) (retQ tb Tryz.f108 Q)) = fun (a0 : AV) (M : Mem) (Q : AV → Mem → Prop) => F108 a0 M Q := by kernel_rfl
theorem F108_ok {a0 : AV} {M : Mem} {Q : AV → Mem → Prop} (h : F108 a0 M Q) : CallA tb.P 108 [a0] M Q :=
  calla_wZ tb_ok tb_mix fn108 (c := bodyOf Tryz.f108) rfl an108_ok (ks := [.l (.int .u8)]) (cast (congrFun (congrFun (congrFun F108_eq a0) M) Q).symm h)

def F109 (a0 : AV) (M : Mem) (Q : AV → Mem → Prop) : Prop :=
  bindO (eLen tb false 23 a0 M) fun y1 => zI .i64 y1.1 fun z2 => ∃ J3 : Int → Int → Nat → Mem → Prop, (∃ n4 : Nat, J3 (0 : Int) (0 : Int) n4 M) ∧
  ∀ (_ : Nat → Option AV) (z5 : Int) (z6 : Int) (n7 : Nat) (M8 : Mem), J3 z5 z6 n7 M8 →
  (condB (decide (z6 < z2)) (bindO (eIA tb 23 a0 (.val (.int .i64 z6)) M8) fun y9 => zP y9.1 fun p10 o11 => bindO (eLd tb 5 (.ptr p10 o11) M8) fun y12 => zI .u8 y12.1 fun z13 => ∃ k14 : Nat, k14 < n7 ∧
  (J3 (iOr .i64 (iShl .i64 z5 8) (IntKind.wrap .i64 z13)) (iAdd .i64 z6 1) k14 M8)) (Q (.val (.int .i64 z5)) M8))
def an109 : An := (.seq (.reg []) (.seq (.reg []) (.seq (.seq (.reg [.non, .int .i64]) (.blk (.lop [(3, .int .i64), (8, .int .i64)] [5, 9, 10, 11, 12, 13, 14, 15, 16, 17] (.seq (.reg []) (.seq (.cnd .z .z) (.seq (.blk (.seq (.reg [.ptr, .int .u8]) (.reg [.non, .int .i64, .non, .int .i64, .int .i64]))) (.reg [.int .i64]))))))) (.seq (.reg []) .z))))
theorem fn109 : tb.fn.get 109 = some Tryz.f109 := by kernel_rfl
theorem an109_ok : anB tb Tryz.f109.ntmps an109 (bodyOf Tryz.f109) = true := by kernel_rfl
theorem F109_eq : (fun (a0 : AV) (M : Mem) (Q : AV → Mem → Prop) => zCs [.l .any] [a0] fun args => wZ tb an109 (bodyOf Tryz.f109) (enterA Tryz.f109 args M) (retQ tb Tryz.f109 Q)) = fun (a0 : AV) (M : Mem) (Q : AV → Mem → Prop) => F109 a0 M Q := by kernel_rfl
theorem F109_ok {a0 : AV} {M : Mem} {Q : AV → Mem → Prop} (h : F109 a0 M Q) : CallA tb.P 109 [a0] M Q :=
  calla_wZ tb_ok tb_mix fn109 (c := bodyOf Tryz.f109) rfl an109_ok (ks := [.l .any]) (cast (congrFun (congrFun (congrFun F109_eq a0) M) Q).symm h)

def F110 (a0 : AV) (M : Mem) (Q : AV → Mem → Prop) : Prop :=
  CallA tb.P 135 [(.val (.int .u32 0)), a0] M fun y1 M2 => zI .u32 y1 fun z3 => Q (.val (.int .u32 z3)) M2
def an110 : An := (.seq (.reg []) (.seq (.reg [.non, .int .u32]) .z))
theorem fn110 : tb.fn.get 110 = some Tryz.f110 := by kernel_rfl
theorem an110_ok : anB tb Tryz.f110.ntmps an110 (bodyOf Tryz.f110) = true := by kernel_rfl
theorem F110_eq : (fun (a0 : AV) (M : Mem) (Q : AV → Mem → Prop) => zCs [.l .any] [a0] fun args => wZ tb an110 (bodyOf Tryz.f110) (enterA Tryz.f110 args M) (retQ tb Tryz.f110 Q)) = fun (a0 : AV) (M : Mem) (Q : AV → Mem → Prop) => F110 a0 M Q := by kernel_rfl
theorem F110_ok {a0 : AV} {M : Mem} {Q : AV → Mem → Prop} (h : F110 a0 M Q) : CallA tb.P 110 [a0] M Q :=
  calla_wZ tb_ok tb_mix fn110 (c := bodyOf Tryz.f110) rfl an110_ok (ks := [.l .any]) (cast (congrFun (congrFun (congrFun F110_eq a0) M) Q).symm h)

def F111 (a0 : AV) (M : Mem) (Q : AV → Mem → Prop) : Prop :=
  ∃ (z1 : Int) (z2 : Int) (z3 : Int) (z4 : Int), a0 = (.agg [(.val (.int .i64 z1)), (.val (.int .i64 z2)), (.val (.int .i64 z3)), (.val (.int .i64 z4))]) ∧
  letP (M.new (.cells [(.val (.int .i64 z1)), (.val (.int .i64 z2)), (.val (.int .i64 z3)), (.val (.int .i64 z4))] true)) fun M5 => letP (fun (b40 : Bool) (M41 : Mem) => Q (.val (.bool b40)) M41) fun K42 => bindO (eLd tb 3 (.ptr M.next 0) M5) fun y6 => zI .i64 y6.1 fun z7 => CallA tb.P 106 [(.val (.int .i64 z7)), (.val (.int .i64 1)), (.val (.int .i64 3))] M5 fun y8 M9 => zB y8 fun b10 => condB (b10) (bindO (eLd tb 3 (.ptr M.next 1) M9) fun y11 => zI .i64 y11.1 fun z12 => CallA tb.P 106 [(.val (.int .i64 z12)), (.val (.int .i64 0)), (.val (.int .i64 65535))] M9 fun y13 M14 => zB y13 fun b15 => condB (b15) (bindO (eLd tb 3 (.ptr M.next 0) M14) fun y16 => zI .i64 y16.1 fun z17 => condB (z17 !=
  (3 : Int)) (bindO (eLd tb 3 (.ptr M.next 2) M14) fun y18 => zI .i64 y18.1 fun z19 => CallA tb.P 106 [(.val (.int .i64 z19)), (.val (.int .i64 0)), (.val (.int .i64 4294967295))] M14 fun y20 M21 => zB y20 fun b22 => condB (b22) (bindO (eLd tb 3 (.ptr M.next 3) M21) fun y23 => zI .i64 y23.1 fun z24 => CallA tb.P 106 [(.val (.int .i64 z24)), (.val (.int .i64 0)), (.val (.int .i64 16777215))] M21 fun y25 M26 => zB y25 fun b27 => K42 b27 M26) (K42 false M21)) (bindO (eLd tb 3 (.ptr M.next 1) M14) fun y28 => zI .i64 y28.1 fun z29 => condB (z29 ==
  (0 : Int)) (bindO (eLd tb 3 (.ptr M.next 2) M14) fun y30 => zI .i64 y30.1 fun z31 => CallA tb.P 106 [(.val (.int .i64 z31)), (.val (.int .i64 0)), (.val (.int .i64 4294967295))] M14 fun y32 M33 => zB y32 fun b34 => condB (b34) (bindO (eLd tb 3 (.ptr M.next 3) M33) fun y35 => zI .i64 y35.1 fun z36 => CallA tb.P 106 [(.val (.int .i64 z36)), (.val (.int .i64 0)), (.val (.int .i64 16777215))] M33 fun y37 M38 => zB y37 fun b39 => K42 b39 M38) (K42 false M33)) (K42 false M14))) (K42 false M14)) (K42 false M9)
def an111 : An := (.seq (.reg []) (.seq (.reg [.ptr, .int .i64, .bool, .spl, .ptr, .int .i64, .bool, .non, .spl, .ptr, .int .i64, .bool, .spl, .ptr, .int .i64, .bool, .non, .non, .spl, .ptr, .int .i64, .bool, .non, .spl, .ptr, .int .i64, .bool]) .z))
theorem fn111 : tb.fn.get 111 = some Tryz.f111 := by kernel_rfl
theorem an111_ok : anB tb Tryz.f111.ntmps an111 (bodyOf Tryz.f111) = true := by kernel_rfl
theorem F111_eq : (fun (a0 : AV) (M : Mem) (Q : AV → Mem → Prop) => zCs [.a [.int .i64, .int .i64, .int .i64, .int .i64]] [a0] fun args => wZ tb an111 (bodyOf Tryz.f111) (enterA Tryz.f111 args M) (retQ tb Tryz.f111 Q)) = fun (a0 : AV) (M : Mem) (Q : AV → Mem → Prop) => F111 a0 M Q := by kernel_rfl
theorem F111_ok {a0 : AV} {M : Mem} {Q : AV → Mem → Prop} (h : F111 a0 M Q) : CallA tb.P 111 [a0] M Q :=
  calla_wZ tb_ok tb_mix fn111 (c := bodyOf Tryz.f111) rfl an111_ok (ks := [.a [.int .i64, .int .i64, .int .i64, .int .i64]]) (cast (congrFun (congrFun (congrFun F111_eq a0) M) Q).symm h)

def F114 (a0 a1 a2 a3 : AV) (M : Mem) (Q : AV → Mem → Prop) : Prop :=
  zI .i64 a1 fun z1 => zI .i64 a2 fun z2 => ∃ J3 : Int → Nat → Mem → Prop, (∃ n4 : Nat, J3 (iAdd .i64 z1 1) n4 M) ∧ ∀ (_ : Nat → Option AV) (z5 : Int) (n6 : Nat) (M7 : Mem), J3 z5 n6 M7 →
  (condB (decide (z5 < z2)) (∃ J8 : Int → Nat → Mem → Prop, (∃ n9 : Nat, J8 z5 n9 M7) ∧ ∀ (_ : Nat → Option AV) (z10 : Int) (n11 : Nat) (M12 : Mem), J8 z10 n11 M12 →
  (letP (fun (b36 : Bool) (M37 : Mem) => condB (b36) (bindO (eIA tb 69 a0 (.val (.int .i64 (iSub .i64 z10 1))) M37) fun y39 => zP y39.1 fun p40 o41 => bindO (eIA tb 69 a0 (.val (.int .i64 z10)) M37) fun y42 => zP y42.1 fun p43 o44 => bindO (eLd tb 73 (.ptr p40 o41) M37) fun y45 => ∃ (z46 : Int) (z47 : Int) (z48 : Int) (z49 : Int) (z50 : Int) (z51 : Int), y45.1 =
  (.agg [(.val (.int .i64 z46)), (.val (.int .i64 z47)), (.val (.int .i64 z48)), (.val (.int .i64 z49)), (.val (.int .i64 z50)), (.val (.int .i64 z51))]) ∧
  (bindO (eLd tb 73 (.ptr p43 o44) M37) fun y52 => ∃ (z53 : Int) (z54 : Int) (z55 : Int) (z56 : Int) (z57 : Int) (z58 : Int), y52.1 =
  (.agg [(.val (.int .i64 z53)), (.val (.int .i64 z54)), (.val (.int .i64 z55)), (.val (.int .i64 z56)), (.val (.int .i64 z57)), (.val (.int .i64 z58))]) ∧
  (bindO (eIA tb 69 a0 (.val (.int .i64 z10)) M37) fun y59 => zP y59.1 fun p60 o61 => bindO (eSt tb 73 (.ptr p60 o61) (.agg [(.val (.int .i64 z46)), (.val (.int .i64 z47)), (.val (.int .i64 z48)), (.val (.int .i64 z49)), (.val (.int .i64 z50)), (.val (.int .i64 z51))]) M37) fun y62 => bindO (eIA tb 69 a0 (.val (.int .i64 (iSub .i64 z10 1))) y62.2) fun y63 => zP y63.1 fun p64 o65 => bindO (eSt tb 73 (.ptr p64 o65) (.agg [(.val (.int .i64 z53)), (.val (.int .i64 z54)), (.val (.int .i64 z55)), (.val (.int .i64 z56)), (.val (.int .i64 z57)), (.val (.int .i64 z58))]) y62.2) fun y66 => ∃ k67 : Nat, k67 < n11 ∧
  (J8 (iSub .i64 z10 1) k67 y66.2)))) (∃ k68 : Nat, k68 < n6 ∧
  (J3 (iAdd .i64 z5 1) k68 M37))) fun K38 => condB (decide (z10 > z1)) (bindO (eIA tb 69 a0 (.val (.int .i64 z10)) M12) fun y13 => zP y13.1 fun p14 o15 => bindO (eIA tb 69 a0 (.val (.int .i64 (iSub .i64 z10 1))) M12) fun y16 => zP y16.1 fun p17 o18 => bindO (eLd tb 73 (.ptr p14 o15) M12) fun y19 => ∃ (z20 : Int) (z21 : Int) (z22 : Int) (z23 : Int) (z24 : Int) (z25 : Int), y19.1 =
  (.agg [(.val (.int .i64 z20)), (.val (.int .i64 z21)), (.val (.int .i64 z22)), (.val (.int .i64 z23)), (.val (.int .i64 z24)), (.val (.int .i64 z25))]) ∧
  (bindO (eLd tb 73 (.ptr p17 o18) M12) fun y26 => ∃ (z27 : Int) (z28 : Int) (z29 : Int) (z30 : Int) (z31 : Int) (z32 : Int), y26.1 =
  (.agg [(.val (.int .i64 z27)), (.val (.int .i64 z28)), (.val (.int .i64 z29)), (.val (.int .i64 z30)), (.val (.int .i64 z31)), (.val (.int .i64 z32))]) ∧
  (eCall tb a3 [(.agg [(.val (.int .i64 z20)), (.val (.int .i64 z21)), (.val (.int .i64 z22)), (.val (.int .i64 z23)), (.val (.int .i64 z24)), (.val (.int .i64 z25))]), (.agg [(.val (.int .i64 z27)), (.val (.int .i64 z28)), (.val (.int .i64 z29)), (.val (.int .i64 z30)), (.val (.int .i64 z31)), (.val (.int .i64 z32))])] M12 fun y33 M34 => zI .i64 y33 fun z35 => K38 (decide (z35 < (0 : Int))) M34))) (K38 false M12))) (Q (.tup []) M7))
def an114 : An := (.seq (.reg [.non, .int .i64]) (.blk (.lop [(8, .int .i64)] [9, 12, 13, 14, 15, 16, 17, 18, 19, 20, 21, 22, 23, 24, 25, 26, 27, 28, 29, 30, 31, 32, 33, 34, 35, 36, 37, 38, 39, 40, 41, 42, 43, 44, 45, 46, 47, 48, 49, 50, 51, 52] (.seq (.seq (.reg [.non, .non, .bool]) (.cnd .z .z)) (.seq (.blk (.seq (.reg []) (.blk (.lop [(9, .int .i64)] [18, 19, 20, 21, 22, 23, 24, 25, 26, 27, 28, 29, 30, 31, 32, 33, 34, 35, 36, 37, 38, 39, 40, 41, 42, 43, 44, 45, 46, 47, 48, 49, 50, 51, 52] (.seq (.seq (.opn [(0, []), (1, []), (2, []), (3, []), (4, []), (5, []), (6, []), (7, []), (9, []), (10, []), (11, []), (12, []), (8, []), (13, []), (14, []), (15, []), (16, [])] [] [] 0 [.non, .non, .bool, .spl, .non, .non, .non, .ptr, .non, .non, .int .i64, .ptr, .agg [.int .i64, .int .i64, .int .i64, .int .i64, .int .i64, .int .i64], .agg [.int .i64, .int .i64, .int .i64, .int .i64, .int .i64, .int .i64], .int .i64, .bool, .non]) (.cnd .z .z)) (.seq (.blk (.opn [(0, []), (1, []), (2, []), (3, []), (4, []), (5, []), (6, []), (7, []), (8, []), (10, []), (11, []), (12, []), (9, []), (13, []), (14, []), (15, []), (16, []), (17, [])] [] [] 0 [.non, .non, .non, .non, .int .i64, .non, .non, .int .i64, .ptr, .non, .non, .ptr, .agg [.int .i64, .int .i64, .int .i64, .int .i64, .int .i64, .int .i64], .agg [.int .i64, .int .i64, .int .i64, .int .i64, .int .i64, .int .i64], .ptr, .non, .ptr, .non])) (.reg [.non, .int .i64]))))))) (.reg [.non, .int .i64]))))))
theorem fn114 : tb.fn.get 114 = some Tryz.f114 := by kernel_rfl
theorem an114_ok : anB tb Tryz.f114.ntmps an114 (bodyOf Tryz.f114) = true := by kernel_rfl
theorem F114_eq : (fun (a0 a1 a2 a3 : AV) (M : Mem) (Q : AV → Mem → Prop) => zCs [.l .any, .l (.int .i64), .l (.int .i64), .l .any] [a0, a1, a2, a3] fun args => wZ tb an114 (bodyOf Tryz.f114) (enterA Tryz.f114 args M) (retQ tb Tryz.f114 Q)) = fun (a0 a1 a2 a3 : AV) (M : Mem) (Q : AV → Mem → Prop) => F114 a0 a1 a2 a3 M Q := by kernel_rfl
theorem F114_ok {a0 a1 a2 a3 : AV} {M : Mem} {Q : AV → Mem → Prop} (h : F114 a0 a1 a2 a3 M Q) : CallA tb.P 114 [a0, a1, a2, a3] M Q :=
  calla_wZ tb_ok tb_mix fn114 (c := bodyOf Tryz.f114) rfl an114_ok (ks := [.l .any, .l (.int .i64), .l (.int .i64), .l .any]) (cast (congrFun (congrFun (congrFun (congrFun (congrFun (congrFun F114_eq a0) a1) a2) a3) M) Q).symm h)

def F124 (a0 a1 : AV) (M : Mem) (Q : AV → Mem → Prop) : Prop :=
  zI .i64 a1 fun z1 => letP (fun (b29 : Bool) (M30 : Mem) => Q (.val (.bool b29)) M30) fun K31 => bindO (eBin tb .neq 33 (.tmp 5) (.const (.pointer none)) a0 (.val (.pointer none)) M) fun y2 => zB y2.1 fun b3 => condB (b3) (condB (decide (z1 ≥ (0 : Int))) (bindO (eNil a0 M) fun y4 => bindO (eFA tb 83 y4.1 2 M) fun y5 => zP y5.1 fun p6 o7 => bindO (eLd tb 81 (.ptr p6 o7) M) fun y8 => bindO (eLen tb false 81 y8.1 M) fun y9 => zI .i64 y9.1 fun z10 => condB (decide (z1 < z10)) (bindO (eNil a0 M) fun y11 => bindO (eFA tb 83 y11.1 1 M) fun y12 => zP y12.1 fun p13 o14 => bindO (eNil a0 M) fun y15 => bindO (eFA tb 83 y15.1 2 M) fun y16 => zP y16.1 fun p17 o18 => bindO (eLd tb 76 (.ptr p13 o14) M) fun y19 => bindO (eLd tb 81 (.ptr p17 o18) M) fun y20 => bindO (eIA tb 81 y20.1 (.val (.int .i64 z1)) M) fun y21 => zP y21.1 fun p22 o23 => bindO (eLd tb 3 (.ptr p22 (o23 + 3)) M) fun y24 => zI .i64 y24.1 fun z25 => CallA tb.P 150 [y19.1, (.val (.int .i64 z1)), (.val (.int .i64 z25))] M fun y26 M27 => zB y26 fun b28 => K31 b28 M27) (K31 false M)) (K31 false M)) (K31 false M)
def an124 : An := (.seq (.reg []) (.seq (.opn [(0, []), (1, []), (2, []), (3, []), (4, []), (5, []), (6, []), (7, []), (8, []), (9, []), (10, []), (11, []), (12, []), (13, []), (14, []), (15, []), (16, []), (17, []), (18, []), (20, []), (21, []), (22, []), (23, []), (25, []), (19, []), (24, []), (26, []), (27, []), (28, []), (29, []), (30, []), (31, [])] [] [] 0 [.non, .bool, .spl, .non, .bool, .non, .spl, .non, .non, .non, .ptr, .non, .int .i64, .bool, .non, .spl, .non, .non, .ptr, .non, .non, .non, .ptr, .non, .non, .non, .ptr, .ptr, .int .i64, .bool, .non, .non]) .z))
theorem fn124 : tb.fn.get 124 = some Tryz.f124 := by kernel_rfl
theorem an124_ok : anB tb Tryz.f124.ntmps an124 (bodyOf Tryz.f124) = true := by kernel_rfl
theorem F124_eq : (fun (a0 a1 : AV) (M : Mem) (Q : AV → Mem → Prop) => zCs [.l .any, .l (.int .i64)] [a0, a1] fun args => wZ tb an124 (bodyOf Tryz.f124) (enterA Tryz.f124 args M) (retQ tb Tryz.f124 Q)) = fun (a0 a1 : AV) (M : Mem) (Q : AV → Mem → Prop) => F124 a0 a1 M Q := by kernel_rfl
theorem F124_ok {a0 a1 : AV} {M : Mem} {Q : AV → Mem → Prop} (h : F124 a0 a1 M Q) : CallA tb.P 124 [a0, a1] M Q :=
  calla_wZ tb_ok tb_mix fn124 (c := bodyOf Tryz.f124) rfl an124_ok (ks := [.l .any, .l (.int .i64)]) (cast (congrFun (congrFun (congrFun (congrFun F124_eq a0) a1) M) Q).symm h)

def F134 (a0 a1 : AV) (M : Mem) (Q : AV → Mem → Prop) : Prop :=
  bindO (eLen tb false 23 a0 M) fun y1 => zI .i64 y1.1 fun z2 => ∃ J3 : Int → Nat → Mem → Prop, (∃ n4 : Nat, J3 (0 : Int) n4 M) ∧ ∀ (_ : Nat → Option AV) (z5 : Int) (n6 : Nat) (M7 : Mem), J3 z5 n6 M7 →
  (condB (decide (z5 < z2)) (bindO (eIA tb 23 a0 (.val (.int .i64 z5)) M7) fun y8 => zP y8.1 fun p9 o10 => bindO (eLd tb 5 (.ptr p9 o10) M7) fun y11 => zI .u8 y11.1 fun z12 => eCall tb a1 [(.val (.int .u8 z12))] M7 fun y13 M14 => zB y13 fun b15 => condB (b15) (Q (.val (.int .i64 z5)) M14) (∃ k16 : Nat, k16 < n6 ∧
  (J3 (iAdd .i64 z5 1) k16 M14))) (Q (.val (.int .i64 (-1))) M7))
def an134 : An := (.seq (.reg []) (.seq (.seq (.reg [.non, .int .i64]) (.blk (.lop [(8, .int .i64)] [4, 5, 9, 10, 11, 12, 13, 14, 15, 16, 17, 18] (.seq (.reg []) (.seq (.cnd .z .z) (.seq (.blk (.seq (.reg []) (.seq (.reg [.non, .non, .non, .ptr, .int .u8, .bool]) (.cnd (.seq (.reg []) .z) .z)))) (.reg [.int .i64]))))))) (.seq (.reg []) .z)))
theorem fn134 : tb.fn.get 134 = some Tryz.f134 := by kernel_rfl
theorem an134_ok : anB tb Tryz.f134.ntmps an134 (bodyOf Tryz.f134) = true := by kernel_rfl
theorem F134_eq : (fun (a0 a1 : AV) (M : Mem) (Q : AV → Mem → Prop) => zCs [.l .any, .l .any] [a0, a1] fun args => wZ tb an134 (bodyOf Tryz.f134) (enterA Tryz.f134 args M) (retQ tb Tryz.f134 Q)) = fun (a0 a1 : AV) (M : Mem) (Q : AV → Mem → Prop) => F134 a0 a1 M Q := by kernel_rfl
theorem F134_ok {a0 a1 : AV} {M : Mem} {Q : AV → Mem → Prop} (h : F134 a0 a1 M Q) : CallA tb.P 134 [a0, a1] M Q :=
  calla_wZ tb_ok tb_mix fn134 (c := bodyOf Tryz.f134) rfl an134_ok (ks := [.l .any, .l .any]) (cast (congrFun (congrFun (congrFun (congrFun F134_eq a0) a1) M) Q).symm h)

def F135 (a0 a1 : AV) (M : Mem) (Q : AV → Mem → Prop) : Prop :=
  zI .u32 a0 fun z1 => bindO (eUn tb .xor (.val (.int .u32 z1)) M) fun y2 => zI .u32 y2.1 fun z3 => bindO (eLen tb false 23 a1 M) fun y4 => zI .i64 y4.1 fun z5 => ∃ J6 : Int → Int → Nat → Mem → Prop, (∃ n7 : Nat, J6 z3 (0 : Int) n7 M) ∧
  ∀ (_ : Nat → Option AV) (z8 : Int) (z9 : Int) (n10 : Nat) (M11 : Mem), J6 z8 z9 n10 M11 →
  (condB (decide (z9 < z5)) (bindO (eIA tb 23 a1 (.val (.int .i64 z9)) M11) fun y12 => zP y12.1 fun p13 o14 => bindO (eLd tb 5 (.ptr p13 o14) M11) fun y15 => zI .u8 y15.1 fun z16 => ∃ J17 : Int → Int → Nat → Mem → Prop, (∃ n18 : Nat, J17 (iXor .u32 z8 (IntKind.wrap .u32 z16)) (0 : Int) n18 M11) ∧
  ∀ (_ : Nat → Option AV) (z19 : Int) (z20 : Int) (n21 : Nat) (M22 : Mem), J17 z19 z20 n21 M22 → (condB (decide (z20 < (8 : Int))) (letP (fun (z23 : Int) => ∃ k25 : Nat, k25 < n21 ∧
  (J17 z23 (iAdd .i64 z20 1) k25 M22)) fun K24 => condB ((iAnd .u32 z19 1) == (1 : Int)) (K24 (iXor .u32 (iShr .u32 z19 1) 3988292384)) (K24 (iShr .u32 z19 1))) (∃ k26 : Nat, k26 < n10 ∧
  (J6 z19 (iAdd .i64 z9 1) k26 M22)))) (bindO (eUn tb .xor (.val (.int .u32 z8)) M11) fun y27 => zI .u32 y27.1 fun z28 => Q (.val (.int .u32 z28)) M11))
def an135 : An := (.seq (.reg []) (.seq (.reg [.non, .int .u32]) (.seq (.seq (.reg [.non, .int .i64]) (.blk (.lop [(5, .int .u32), (13, .int .i64)] [7, 8, 14, 15, 16, 17, 18, 19, 20, 21, 22, 23, 24, 25, 26, 27, 28, 29, 30, 31, 32] (.seq (.reg []) (.seq (.cnd .z .z) (.seq (.blk (.seq (.reg [.ptr, .int .u8]) (.seq (.reg [.non, .non, .int .u32, .int .u32]) (.seq (.reg []) (.blk (.lop [(5, .int .u32), (21, .int .i64)] [8, 22, 23, 24, 25, 26, 27, 28, 29, 30, 31] (.seq (.reg [.bool]) (.seq (.cnd .z .z) (.seq (.blk (.seq (.reg [.non, .int .u32]) (.seq (.reg [.non, .int .u32]) (.seq (.reg [.non, .bool]) (.cnd (.reg [.non, .int .u32]) .z))))) (.reg [.int .i64])))))))))) (.reg [.int .i64]))))))) (.seq (.reg [.non, .int .u32]) .z))))
theorem fn135 : tb.fn.get 135 = some Tryz.f135 := by kernel_rfl
theorem an135_ok : anB tb Tryz.f135.ntmps an135 (bodyOf Tryz.f135) = true := by kernel_rfl
theorem F135_eq : (fun (a0 a1 : AV) (M : Mem) (Q : AV → Mem → Prop) => zCs [.l (.int .u32), .l .any] [a0, a1] fun args => wZ tb an135 (bodyOf Tryz.f135) (enterA Tryz.f135 args M) (retQ tb Tryz.f135 Q)) = fun (a0 a1 : AV) (M : Mem) (Q : AV → Mem → Prop) => F135 a0 a1 M Q := by kernel_rfl
theorem F135_ok {a0 a1 : AV} {M : Mem} {Q : AV → Mem → Prop} (h : F135 a0 a1 M Q) : CallA tb.P 135 [a0, a1] M Q :=
  calla_wZ tb_ok tb_mix fn135 (c := bodyOf Tryz.f135) rfl an135_ok (ks := [.l (.int .u32), .l .any]) (cast (congrFun (congrFun (congrFun (congrFun F135_eq a0) a1) M) Q).symm h)

def F150 (a0 a1 a2 : AV) (M : Mem) (Q : AV → Mem → Prop) : Prop :=
  zI .i64 a1 fun z1 => zI .i64 a2 fun z2 => CallA tb.P 73 [a0, (.val (.int .i64 z1))] M fun y3 M4 => ∃ (z5 : Int) (b6 : Bool) (z7 : Int) (b8 : Bool), y3 =
  (.tup [(.agg [(.val (.int .i64 z5)), (.val (.bool b6)), (.val (.int .i64 z7))]), (.val (.bool b8))]) ∧
  (letP (M4.new (.cells [(.val (.int .i64 0)), (.val (.bool false)), (.val (.int .i64 0))] true)) fun M9 => bindO (eSt tb 80 (.ptr M4.next 0) (.agg [(.val (.int .i64 z5)), (.val (.bool b6)), (.val (.int .i64 z7))]) M9) fun y10 => letP (fun (b13 : Bool) => Q (.val (.bool b13)) y10.2) fun K14 => condB (b8) (bindO (eLd tb 3 (.ptr M4.next 2) y10.2) fun y11 => zI .i64 y11.1 fun z12 => K14 (decide (z2 ≥ z12))) (K14 false))
def an150 : An := (.seq (.reg []) (.seq (.reg [.non, .non, .tup [.a [.int .i64, .bool, .int .i64], .l .bool], .non, .non, .bool]) (.seq (.reg [.non, .spl, .non, .ptr, .int .i64, .bool]) .z)))
theorem fn150 : tb.fn.get 150 = some Tryz.f150 := by kernel_rfl
theorem an150_ok : anB tb Tryz.f150.ntmps an150 (bodyOf Tryz.f150) = true := by kernel_rfl
theorem F150_eq : (fun (a0 a1 a2 : AV) (M : Mem) (Q : AV → Mem → Prop) => zCs [.l .any, .l (.int .i64), .l (.int .i64)] [a0, a1, a2] fun args => wZ tb an150 (bodyOf Tryz.f150) (enterA Tryz.f150 args M) (retQ tb Tryz.f150 Q)) = fun (a0 a1 a2 : AV) (M : Mem) (Q : AV → Mem → Prop) => F150 a0 a1 a2 M Q := by kernel_rfl
theorem F150_ok {a0 a1 a2 : AV} {M : Mem} {Q : AV → Mem → Prop} (h : F150 a0 a1 a2 M Q) : CallA tb.P 150 [a0, a1, a2] M Q :=
  calla_wZ tb_ok tb_mix fn150 (c := bodyOf Tryz.f150) rfl an150_ok (ks := [.l .any, .l (.int .i64), .l (.int .i64)]) (cast (congrFun (congrFun (congrFun (congrFun (congrFun F150_eq a0) a1) a2) M) Q).symm h)

end Go.Proofs.YtfkkmhadipfobaaGreat
