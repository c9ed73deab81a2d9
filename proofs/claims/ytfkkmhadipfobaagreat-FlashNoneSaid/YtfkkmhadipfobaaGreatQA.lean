import Derived.Test.YtfkkmhadipfobaaGreatA37
import Derived.Test.YtfkkmhadipfobaaGreatK0
set_option linter.unusedSimpArgs false
set_option linter.unusedVariables false
set_option linter.unusedSectionVars false
/- Functions as what has to be shown. (Printed by pr.py.) -/
namespace Go.Proofs.YtfkkmhadipfobaaGreat
open Go.AM
set_option maxRecDepth 100000

def F3 (a0 : AV) (M : Mem) (Q : AV → Mem → Prop) : Prop :=
  zI .i64 a0 fun z1 => CallA tb.P 5 [(.val (.pointer none)), (.val (.int .i64 z1))] M fun y2 M3 => ∃ (x4 : AV) (z5 : Int), y2 = (.tup [x4, (.val (.int .i64 z5))]) ∧
  (CallA tb.P 6 [(.val (.pointer none))] M3 fun y6 M7 => ∃ (x8 : AV) (z9 : Int), y6 = (.tup [x8, (.val (.int .i64 z9))]) ∧
  (letP (fun (b40 : Bool) (M41 : Mem) => Q (.val (.bool b40)) M41) fun K42 => bindO (eLen tb false 23 x4 M7) fun y10 => zI .i64 y10.1 fun z11 => condB (z11 == (0 : Int)) (condB (z5 ==
  (1 : Int)) (CallA tb.P 7 [(.val (.pointer none)), (.val (.int .i64 z1)), (.val (.slice none 0 0))] M7 fun y12 M13 => zI .i64 y12 fun z14 => condB (z14 ==
  (1 : Int)) (CallA tb.P 8 [(.val (.pointer none)), (.val (.int .i64 z1))] M13 fun y15 M16 => zI .i64 y15 fun z17 => condB (z17 ==
  (1 : Int)) (CallA tb.P 9 [(.val (.pointer none))] M16 fun y18 M19 => zI .i64 y18 fun z20 => condB (z20 ==
  (1 : Int)) (CallA tb.P 10 [(.val (.pointer none))] M19 fun y21 M22 => zB y21 fun b23 => condB (!b23) (CallA tb.P 11 [(.val (.pointer none))] M22 fun y24 M25 => bindO (eBin tb .eql 33 (.tmp 49) (.const (.pointer none)) y24 (.val (.pointer none)) M25) fun y26 => zB y26.1 fun b27 => condB (b27) (CallA tb.P 12 [(.val (.pointer none))] M25 fun y28 M29 => zI .i64 y28 fun z30 => condB (z30 ==
  (0 : Int)) (CallA tb.P 13 [(.val (.pointer none))] M29 fun y31 M32 => bindO (eLen tb false 36 y31 M32) fun y33 => zI .i64 y33.1 fun z34 => condB (z34 ==
  (0 : Int)) (bindO (eBin tb .eql 22 (.tmp 64) (.const (.pointer none)) x8 (.val (.pointer none)) M32) fun y35 => zB y35.1 fun b36 => condB (b36) (condB (z9 ==
  (1 : Int)) (CallA tb.P 14 [] M32 fun y37 M38 => zB y37 fun b39 => K42 b39 M38) (K42 false M32)) (K42 false M32)) (K42 false M32)) (K42 false M29)) (K42 false M25)) (K42 false M22)) (K42 false M19)) (K42 false M16)) (K42 false M13)) (K42 false M7)) (K42 false M7)))
def an3 : An := (.seq (.reg []) (.seq (.reg []) (.seq (.reg [.non, .non, .tup [.l .any, .l (.int .i64)], .non, .non, .int .i64]) (.seq (.reg [.tup [.l .any, .l (.int .i64)], .non, .non, .int .i64]) (.seq (.reg [.non, .int .i64, .bool, .spl, .non, .bool, .non, .spl, .non, .non, .int .i64, .bool, .non, .spl, .non, .non, .int .i64, .bool, .non, .spl, .non, .int .i64, .bool, .non, .spl, .non, .bool, .bool, .non, .spl, .non, .non, .bool, .non, .spl, .non, .int .i64, .bool, .non, .spl, .non, .non, .int .i64, .bool, .non, .spl, .non, .bool, .non, .spl, .non, .bool, .non, .spl, .bool]) .z)))))
theorem fn3 : tb.fn.get 3 = some Tryz.f3 := by kernel_rfl
theorem an3_ok : anB tb Tryz.f3.ntmps an3 (bodyOf Tryz.f3) = true := by kernel_rfl
theorem F3_eq : (fun (a0 : AV) (M : Mem) (Q : AV → Mem → Prop) => zCs [.l (.int .i64)] [a0] fun args => wZ tb an3 (bodyOf Tryz.f3) (enterA Tryz.f3 args M) (retQ tb Tryz.f3 Q)) = fun (a0 : AV) (M : Mem) (Q : AV → Mem → Prop) => F3 a0 M Q := by kernel_rfl
theorem F3_ok {a0 : AV} {M : Mem} {Q : AV → Mem → Prop} (h : F3 a0 M Q) : CallA tb.P 3 [a0] M Q :=
  calla_wZ tb_ok tb_mix fn3 (c := bodyOf Tryz.f3) rfl an3_ok (ks := [.l (.int .i64)]) (cast (congrFun (congrFun (congrFun F3_eq a0) M) Q).symm h)

def F5 (a0 a1 : AV) (M : Mem) (Q : AV → Mem → Prop) : Prop :=
  zI .i64 a1 fun z1 => CallA tb.P 23 [a0, (.val (.int .i64 z1))] M fun y2 M3 => zI .i64 y2 fun z4 => condB (z4 !=
  (0 : Int)) (Q (.tup [(.val (.slice none 0 0)), (.val (.int .i64 z4))]) M3) (CallA tb.P 24 [a0, (.val (.int .i64 z1))] M3 fun y5 M6 => ∃ (x7 : AV) (b8 : Bool), y5 = (.tup [x7, (.val (.bool b8))]) ∧
  (condB (!b8) (Q (.tup [(.val (.slice none 0 0)), (.val (.int .i64 4))]) M6) (CallA tb.P 25 [x7] M6 fun y9 M10 => Q (.tup [y9, (.val (.int .i64 0))]) M10)))
def an5 : An := (.seq (.reg []) (.seq (.seq (.reg [.non, .non, .int .i64]) (.seq (.reg [.non, .bool]) (.cnd (.seq (.reg []) .z) .z))) (.seq (.reg [.non, .non, .tup [.l .any, .l .bool], .non, .non, .bool]) (.seq (.seq (.reg [.non, .bool]) (.cnd (.seq (.reg []) .z) .z)) (.seq (.reg []) .z)))))
theorem fn5 : tb.fn.get 5 = some Tryz.f5 := by kernel_rfl
theorem an5_ok : anB tb Tryz.f5.ntmps an5 (bodyOf Tryz.f5) = true := by kernel_rfl
theorem F5_eq : (fun (a0 a1 : AV) (M : Mem) (Q : AV → Mem → Prop) => zCs [.l .any, .l (.int .i64)] [a0, a1] fun args => wZ tb an5 (bodyOf Tryz.f5) (enterA Tryz.f5 args M) (retQ tb Tryz.f5 Q)) = fun (a0 a1 : AV) (M : Mem) (Q : AV → Mem → Prop) => F5 a0 a1 M Q := by kernel_rfl
theorem F5_ok {a0 a1 : AV} {M : Mem} {Q : AV → Mem → Prop} (h : F5 a0 a1 M Q) : CallA tb.P 5 [a0, a1] M Q :=
  calla_wZ tb_ok tb_mix fn5 (c := bodyOf Tryz.f5) rfl an5_ok (ks := [.l .any, .l (.int .i64)]) (cast (congrFun (congrFun (congrFun (congrFun F5_eq a0) a1) M) Q).symm h)

def F6 (a0 : AV) (M : Mem) (Q : AV → Mem → Prop) : Prop :=
  bindO (eBin tb .eql 33 (.tmp 15) (.const (.pointer none)) a0 (.val (.pointer none)) M) fun y1 => zB y1.1 fun b2 => condB (b2) (Q (.tup [(.val (.pointer none)), (.val (.int .i64 1))]) M) (CallA tb.P 26 [a0] M fun y3 M4 => zB y3 fun b5 => condB (!b5) (Q (.tup [(.val (.pointer none)), (.val (.int .i64 9))]) M4) (CallA tb.P 27 [a0] M4 fun y6 M7 => ∃ (z8 : Int) (z9 : Int) (z10 : Int) (z11 : Int) (z12 : Int), y6 =
  (.agg [(.val (.int .i64 z8)), (.val (.int .i64 z9)), (.val (.int .i64 z10)), (.val (.int .i64 z11)), (.val (.int .i64 z12))]) ∧
  (letP (M7.new (.map [])) fun M13 => letP (M13.new (.map [])) fun M14 => letP (M14.new (.map [])) fun M15 => letP (M15.new (.map [])) fun M16 => bindO (eBd tb 60 [(0, a0), (1, (.agg [(.val (.int .i64 z8)), (.val (.int .i64 z9)), (.val (.int .i64 z10)), (.val (.int .i64 z11)), (.val (.int .i64 z12))])), (2, (.map M7.next)), (3, (.map M13.next)), (4, (.map M14.next)), (5, (.map M15.next))] M16) fun y17 => ∃ (x18 : AV) (z19 : Int) (z20 : Int) (z21 : Int) (z22 : Int) (z23 : Int) (x24 : AV) (x25 : AV) (x26 : AV) (x27 : AV) (z28 : Int) (z29 : Int) (z30 : Int) (b31 : Bool), y17.1 =
  (.agg [x18, (.val (.int .i64 z19)), (.val (.int .i64 z20)), (.val (.int .i64 z21)), (.val (.int .i64 z22)), (.val (.int .i64 z23)), x24, x25, x26, x27, (.val (.int .i64 z28)), (.val (.int .i64 z29)), (.val (.int .i64 z30)), (.val (.bool b31))]) ∧
  (letP (M16.new (.cells [x18, (.val (.int .i64 z19)), (.val (.int .i64 z20)), (.val (.int .i64 z21)), (.val (.int .i64 z22)), (.val (.int .i64 z23)), x24, x25, x26, x27, (.val (.int .i64 z28)), (.val (.int .i64 z29)), (.val (.int .i64 z30)), (.val (.bool b31))] true)) fun M32 => letP (M32.new (.cells [(.val (.int .i64 0)), (.val (.int .i64 0))] true)) fun M33 => bindO (eSt tb 50 (.ptr M32.next 0) (.agg [(.val (.int .i64 0)), (.val (.int .i64 0))]) M33) fun y34 => ∃ J35 : AV → Bool → Nat → Mem → Prop, (∃ n36 : Nat, J35 (.ptr M32.next 0) true n36 y34.2) ∧
  ∀ (_ : Nat → Option AV) (x37 : AV) (b38 : Bool) (n39 : Nat) (M40 : Mem), J35 x37 b38 n39 M40 →
  (condB (b38) (letP (fun (M95 : Mem) => bindO (eLd tb 50 x37 M95) fun y97 => ∃ (z98 : Int) (z99 : Int), y97.1 = (.agg [(.val (.int .i64 z98)), (.val (.int .i64 z99))]) ∧
  (letP (M95.new (.cells [(.val (.int .i64 0)), (.val (.int .i64 0))] true)) fun M100 => bindO (eSt tb 50 (.ptr M95.next 0) (.agg [(.val (.int .i64 z98)), (.val (.int .i64 z99))]) M100) fun y101 => bindO (eLd tb 40 (.ptr M16.next 1) y101.2) fun y102 => ∃ (z103 : Int) (z104 : Int) (z105 : Int) (z106 : Int) (z107 : Int), y102.1 =
  (.agg [(.val (.int .i64 z103)), (.val (.int .i64 z104)), (.val (.int .i64 z105)), (.val (.int .i64 z106)), (.val (.int .i64 z107))]) ∧
  (bindO (eLd tb 50 (.ptr M95.next 0) y101.2) fun y108 => ∃ (z109 : Int) (z110 : Int), y108.1 = (.agg [(.val (.int .i64 z109)), (.val (.int .i64 z110))]) ∧
  (CallA tb.P 28 [(.agg [(.val (.int .i64 z103)), (.val (.int .i64 z104)), (.val (.int .i64 z105)), (.val (.int .i64 z106)), (.val (.int .i64 z107))]), (.agg [(.val (.int .i64 z109)), (.val (.int .i64 z110))])] y101.2 fun y111 M112 => ∃ (z113 : Int) (z114 : Int) (b115 : Bool), y111 =
  (.tup [(.agg [(.val (.int .i64 z113)), (.val (.int .i64 z114))]), (.val (.bool b115))]) ∧
  (bindO (eSt tb 50 (.ptr M95.next 0) (.agg [(.val (.int .i64 z113)), (.val (.int .i64 z114))]) M112) fun y116 => ∃ k117 : Nat, k117 < n39 ∧
  (J35 (.ptr M95.next 0) b115 k117 y116.2)))))) fun K96 => bindO (eFA tb 50 x37 0 M40) fun y41 => zP y41.1 fun p42 o43 => bindO (eLd tb 3 (.ptr p42 o43) M40) fun y44 => zI .i64 y44.1 fun z45 => CallA tb.P 29 [a0, (.val (.int .i64 z45))] M40 fun y46 M47 => zB y46 fun b48 => condB (b48) (K96 M47) (bindO (eLd tb 50 x37 M47) fun y49 => ∃ (z50 : Int) (z51 : Int), y49.1 =
  (.agg [(.val (.int .i64 z50)), (.val (.int .i64 z51))]) ∧
  (CallA tb.P 30 [a0, (.agg [(.val (.int .i64 z50)), (.val (.int .i64 z51))])] M47 fun y52 M53 => ∃ (x54 : AV) (z55 : Int) (z56 : Int) (z57 : Int) (z58 : Int) (z59 : Int), y52 =
  (.tup [x54, (.agg [(.val (.int .i64 z55)), (.val (.int .i64 z56)), (.val (.int .i64 z57)), (.val (.int .i64 z58))]), (.val (.int .i64 z59))]) ∧
  (letP (M53.new (.cells [(.val (.int .i64 0)), (.val (.int .i64 0)), (.val (.int .i64 0)), (.val (.int .i64 0))] true)) fun M60 => bindO (eSt tb 64 (.ptr M53.next 0) (.agg [(.val (.int .i64 z55)), (.val (.int .i64 z56)), (.val (.int .i64 z57)), (.val (.int .i64 z58))]) M60) fun y61 => letP (fun (M93 : Mem) => K96 M93) fun K94 => condB (z59 ==
  (0 : Int)) (bindO (eLd tb 56 (.ptr M16.next 6) y61.2) fun y62 => bindO (eLd tb 50 x37 y61.2) fun y63 => ∃ (z64 : Int) (z65 : Int), y63.1 = (.agg [(.val (.int .i64 z64)), (.val (.int .i64 z65))]) ∧
  (bindO (eLd tb 64 (.ptr M53.next 0) y61.2) fun y66 => ∃ (z67 : Int) (z68 : Int) (z69 : Int) (z70 : Int), y66.1 =
  (.agg [(.val (.int .i64 z67)), (.val (.int .i64 z68)), (.val (.int .i64 z69)), (.val (.int .i64 z70))]) ∧
  (bindO (eBd tb 68 [(0, (.agg [(.val (.int .i64 z67)), (.val (.int .i64 z68)), (.val (.int .i64 z69)), (.val (.int .i64 z70))])), (1, x54)] y61.2) fun y71 => ∃ (z72 : Int) (z73 : Int) (z74 : Int) (z75 : Int) (x76 : AV), y71.1 =
  (.agg [(.val (.int .i64 z72)), (.val (.int .i64 z73)), (.val (.int .i64 z74)), (.val (.int .i64 z75)), x76]) ∧
  (bindO (eMU tb 56 y62.1 (.agg [(.val (.int .i64 z64)), (.val (.int .i64 z65))]) (.agg [(.val (.int .i64 z72)), (.val (.int .i64 z73)), (.val (.int .i64 z74)), (.val (.int .i64 z75)), x76]) y61.2) fun y77 => bindO (eLd tb 3 (.ptr M16.next 10) y77.2) fun y78 => zI .i64 y78.1 fun z79 => bindO (eLd tb 3 (.ptr M53.next 2) y77.2) fun y80 => zI .i64 y80.1 fun z81 => bindO (eMax tb #[3, 3] 3 [.int .i64 z79, .int .i64 z81] y77.2) fun y82 => zI .i64 y82.1 fun z83 => bindO (eLd tb 3 (.ptr M16.next 11) y77.2) fun y84 => zI .i64 y84.1 fun z85 => bindO (eLd tb 3 (.ptr M53.next 3) y77.2) fun y86 => zI .i64 y86.1 fun z87 => bindO (eMax tb #[3, 3] 3 [.int .i64 z85, .int .i64 z87] y77.2) fun y88 => zI .i64 y88.1 fun z89 => bindO (eSt tb 3 (.ptr M16.next 10) (.val (.int .i64 z83)) y77.2) fun y90 => (bindO (eLd tb 3 (.ptr M53.next 3) y90.2) fun y91 => (some (.val (.int .i64 z87)) : Option AV) =
  some y91.1) ∧ (bindO (eSt tb 3 (.ptr M16.next 11) (.val (.int .i64 z89)) y90.2) fun y92 => K94 y92.2))))) (condB (z59 ==
  (5 : Int)) (K94 y61.2) (Q (.tup [(.val (.pointer none)), (.val (.int .i64 z59))]) y61.2)))))) (CallA tb.P 32 [(.ptr M16.next 0), (.val (.int .i64 (-1)))] M40 fun y118 M119 => CallA tb.P 31 [y118] M119 fun y120 M121 => bindO (eLen tb false 69 y120 M121) fun y122 => zI .i64 y122.1 fun z123 => ∃ J124 : Int → Nat → Mem → Prop, (∃ n125 : Nat, J124 (0 : Int) n125 M121) ∧
  ∀ (_ : Nat → Option AV) (z126 : Int) (n127 : Nat) (M128 : Mem), J124 z126 n127 M128 →
  (condB (decide (z126 < z123)) (bindO (eIA tb 69 y120 (.val (.int .i64 z126)) M128) fun y129 => zP y129.1 fun p130 o131 => bindO (eLd tb 73 (.ptr p130 o131) M128) fun y132 => ∃ (z133 : Int) (z134 : Int) (z135 : Int) (z136 : Int) (z137 : Int) (z138 : Int), y132.1 =
  (.agg [(.val (.int .i64 z133)), (.val (.int .i64 z134)), (.val (.int .i64 z135)), (.val (.int .i64 z136)), (.val (.int .i64 z137)), (.val (.int .i64 z138))]) ∧
  (letP (M128.new (.cells [(.val (.int .i64 0)), (.val (.int .i64 0)), (.val (.int .i64 0)), (.val (.int .i64 0)), (.val (.int .i64 0)), (.val (.int .i64 0))] true)) fun M139 => bindO (eSt tb 73 (.ptr M128.next 0) (.agg [(.val (.int .i64 z133)), (.val (.int .i64 z134)), (.val (.int .i64 z135)), (.val (.int .i64 z136)), (.val (.int .i64 z137)), (.val (.int .i64 z138))]) M139) fun y140 => bindO (eLd tb 57 (.ptr M16.next 7) y140.2) fun y141 => bindO (eLd tb 3 (.ptr M128.next 3) y140.2) fun y142 => zI .i64 y142.1 fun z143 => bindO (eLd tb 56 (.ptr M16.next 6) y140.2) fun y144 => bindO (eLd tb 50 (.ptr M128.next 0) y140.2) fun y145 => ∃ (z146 : Int) (z147 : Int), y145.1 =
  (.agg [(.val (.int .i64 z146)), (.val (.int .i64 z147))]) ∧
  (bindO (eLk tb 56 y144.1 (.agg [(.val (.int .i64 z146)), (.val (.int .i64 z147))]) false y140.2) fun y148 => ∃ (z149 : Int) (z150 : Int) (z151 : Int) (z152 : Int) (x153 : AV), y148.1 =
  (.agg [(.val (.int .i64 z149)), (.val (.int .i64 z150)), (.val (.int .i64 z151)), (.val (.int .i64 z152)), x153]) ∧
  (bindO (eMU tb 57 y141.1 (.val (.int .i64 z143)) x153 y140.2) fun y154 => ∃ k155 : Nat, k155 < n127 ∧
  (J124 (iAdd .i64 z126 1) k155 y154.2))))) (CallA tb.P 32 [(.ptr M16.next 0), (.val (.int .i64 (-1)))] M128 fun y156 M157 => CallA tb.P 33 [y156] M157 fun y158 M159 => bindO (eLen tb false 69 y158 M159) fun y160 => zI .i64 y160.1 fun z161 => ∃ J162 : Int → Nat → Mem → Prop, (∃ n163 : Nat, J162 (0 : Int) n163 M159) ∧
  ∀ (_ : Nat → Option AV) (z164 : Int) (n165 : Nat) (M166 : Mem), J162 z164 n165 M166 → (condB (decide (z164 < z161)) (letP (fun (M185 : Mem) => ∃ k187 : Nat, k187 < n165 ∧
  (J162 (iAdd .i64 z164 1) k187 M185)) fun K186 => bindO (eIA tb 69 y158 (.val (.int .i64 z164)) M166) fun y167 => zP y167.1 fun p168 o169 => bindO (eLd tb 73 (.ptr p168 o169) M166) fun y170 => ∃ (z171 : Int) (z172 : Int) (z173 : Int) (z174 : Int) (z175 : Int) (z176 : Int), y170.1 =
  (.agg [(.val (.int .i64 z171)), (.val (.int .i64 z172)), (.val (.int .i64 z173)), (.val (.int .i64 z174)), (.val (.int .i64 z175)), (.val (.int .i64 z176))]) ∧
  (letP (M166.new (.cells [(.val (.int .i64 0)), (.val (.int .i64 0)), (.val (.int .i64 0)), (.val (.int .i64 0)), (.val (.int .i64 0)), (.val (.int .i64 0))] true)) fun M177 => bindO (eSt tb 73 (.ptr M166.next 0) (.agg [(.val (.int .i64 z171)), (.val (.int .i64 z172)), (.val (.int .i64 z173)), (.val (.int .i64 z174)), (.val (.int .i64 z175)), (.val (.int .i64 z176))]) M177) fun y178 => bindO (eLd tb 3 (.ptr M166.next 2) y178.2) fun y179 => zI .i64 y179.1 fun z180 => condB (z180 !=
  (3 : Int)) (bindO (eLd tb 58 (.ptr M16.next 9) y178.2) fun y181 => bindO (eLd tb 3 (.ptr M166.next 3) y178.2) fun y182 => zI .i64 y182.1 fun z183 => bindO (eMU tb 58 y181.1 (.val (.int .i64 z183)) (.val (.bool true)) y178.2) fun y184 => K186 y184.2) (K186 y178.2))) (CallA tb.P 34 [(.ptr M16.next 0)] M166 fun y188 M189 => zI .i64 y188 fun z190 => Q (.tup [(.ptr M16.next 0), (.val (.int .i64 0))]) M189))))))))))
def an6 : An := (.seq (.reg []) (.seq (.blk (.seq (.reg [.non, .bool]) (.cnd (.seq (.reg []) .z) (.seq (.reg [.non, .bool, .bool]) (.cnd (.seq (.reg []) .z) .z))))) (.seq (.reg [.non, .non, .agg [.int .i64, .int .i64, .int .i64, .int .i64, .int .i64], .non, .non, .non, .non, .agg [.any, .int .i64, .int .i64, .int .i64, .int .i64, .int .i64, .any, .any, .any, .any, .int .i64, .int .i64, .int .i64, .bool]]) (.seq (.seq (.reg []) (.blk (.lop [(5, .any), (6, .bool)] [2, 3, 7, 8, 9, 31, 32, 33, 34, 35, 36, 37, 38, 39, 40, 41, 42, 43, 44, 45, 46, 47, 48, 49, 50, 51, 52, 53, 54, 55, 56, 57, 58, 59, 60, 61, 62, 63, 64, 65, 66, 67, 68, 69, 70, 71, 72, 73, 74, 75, 76, 77, 78, 79, 80, 81, 82, 83, 84, 85, 86] (.seq (.seq (.reg []) (.cnd .z .z)) (.seq (.blk (.seq (.seq (.reg [.non, .ptr, .int .i64, .bool]) (.cnd .z .z)) (.seq (.reg [.non, .agg [.int .i64, .int .i64], .tup [.l .any, .a [.int .i64, .int .i64, .int .i64, .int .i64], .l (.int .i64)], .non, .non, .non, .int .i64]) (.seq (.reg []) (.blk (.seq (.reg [.bool]) (.cnd (.seq (.opn [(0, []), (1, []), (2, []), (6, []), (3, []), (4, []), (5, []), (7, []), (8, [])] [] [] 0 [.non, .non, .ptr, .non, .non, .agg [.int .i64, .int .i64], .agg [.int .i64, .int .i64, .int .i64, .int .i64], .agg [.int .i64, .int .i64, .int .i64, .int .i64, .any], .non]) (.opn [(0, []), (1, []), (2, []), (3, []), (4, []), (6, []), (9, []), (10, []), (11, []), (13, []), (5, []), (7, []), (8, []), (12, []), (16, []), (17, []), (14, []), (15, []), (18, [14]), (19, []), (20, []), (21, [])] [] [[], [], [], [], [], [], [], [], [], [], [], [], [], [], [], [], [], [], [14]] 0 [.non, .non, .non, .non, .ptr, .ptr, .non, .non, .ptr, .ptr, .int .i64, .int .i64, .int .i64, .int .i64, .non, .ptr, .int .i64, .int .i64, .non, .non, .ptr, .non])) (.seq (.reg [.bool]) (.cnd .z (.seq (.reg []) .z)))))))))) (.seq (.seq (.reg [.agg [.int .i64, .int .i64]]) (.reg [])) (.opn [(0, []), (1, []), (2, []), (3, []), (4, []), (5, []), (6, []), (7, []), (8, []), (9, []), (10, [])] [] [] 0 [.non, .non, .ptr, .agg [.int .i64, .int .i64, .int .i64, .int .i64, .int .i64], .agg [.int .i64, .int .i64], .tup [.a [.int .i64, .int .i64], .l .bool], .non, .non, .bool, .non, .non]))))))) (.seq (.seq (.reg [.non, .non, .non, .int .i64]) (.blk (.lop [(91, .int .i64)] [11, 92, 93, 94, 95, 96, 97, 98, 99, 100, 101, 102, 103, 104, 105, 106, 107, 108, 109, 110] (.seq (.reg []) (.seq (.cnd .z .z) (.seq (.blk (.seq (.reg [.ptr, .agg [.int .i64, .int .i64, .int .i64, .int .i64, .int .i64, .int .i64]]) (.opn [(0, []), (1, []), (2, []), (4, []), (5, []), (7, []), (8, []), (9, []), (11, []), (3, []), (6, []), (10, []), (12, []), (13, []), (14, []), (15, [])] [] [] 0 [.non, .non, .ptr, .ptr, .ptr, .non, .non, .ptr, .ptr, .non, .int .i64, .non, .agg [.int .i64, .int .i64], .agg [.int .i64, .int .i64, .int .i64, .int .i64, .any], .non, .non]))) (.reg [.int .i64]))))))) (.seq (.seq (.reg [.non, .non, .non, .int .i64]) (.blk (.lop [(115, .int .i64)] [13, 116, 117, 118, 119, 120, 121, 122, 123, 124, 125, 126, 127, 128, 129, 130] (.seq (.reg []) (.seq (.cnd .z .z) (.seq (.blk (.seq (.reg [.ptr, .agg [.int .i64, .int .i64, .int .i64, .int .i64, .int .i64, .int .i64]]) (.seq (.reg [.ptr, .ptr, .int .i64, .bool]) (.cnd (.opn [(0, []), (1, []), (2, []), (4, []), (5, []), (3, []), (6, []), (7, [])] [] [] 0 [.non, .non, .ptr, .ptr, .ptr, .non, .int .i64, .non]) .z)))) (.reg [.int .i64]))))))) (.seq (.reg [.non, .int .i64]) (.seq (.reg []) .z))))))))
theorem fn6 : tb.fn.get 6 = some Tryz.f6 := by kernel_rfl
theorem an6_ok : anB tb Tryz.f6.ntmps an6 (bodyOf Tryz.f6) = true := by kernel_rfl
theorem F6_eq : (fun (a0 : AV) (M : Mem) (Q : AV → Mem → Prop) => zCs [.l .any] [a0] fun args => wZ tb an6 (bodyOf Tryz.f6) (enterA Tryz.f6 args M) (retQ tb Tryz.f6 Q)) = fun (a0 : AV) (M : Mem) (Q : AV → Mem → Prop) => F6 a0 M Q := by kernel_rfl
theorem F6_ok {a0 : AV} {M : Mem} {Q : AV → Mem → Prop} (h : F6 a0 M Q) : CallA tb.P 6 [a0] M Q :=
  calla_wZ tb_ok tb_mix fn6 (c := bodyOf Tryz.f6) rfl an6_ok (ks := [.l .any]) (cast (congrFun (congrFun (congrFun F6_eq a0) M) Q).symm h)

def F11 (a0 : AV) (M : Mem) (Q : AV → Mem → Prop) : Prop :=
  bindO (eBin tb .eql 22 (.tmp 3) (.const (.pointer none)) a0 (.val (.pointer none)) M) fun y1 => zB y1.1 fun b2 => condB (b2) (Q (.val (.pointer none)) M) (bindO (eNil a0 M) fun y3 => bindO (eFA tb 60 y3.1 0 M) fun y4 => zP y4.1 fun p5 o6 => bindO (eLd tb 33 (.ptr p5 o6) M) fun y7 => Q y7.1 M)
def an11 : An := (.seq (.reg []) (.seq (.seq (.reg [.non, .bool]) (.cnd (.seq (.reg []) .z) .z)) (.seq (.reg [.non, .non, .ptr]) .z)))
theorem fn11 : tb.fn.get 11 = some Tryz.f11 := by kernel_rfl
theorem an11_ok : anB tb Tryz.f11.ntmps an11 (bodyOf Tryz.f11) = true := by kernel_rfl
theorem F11_eq : (fun (a0 : AV) (M : Mem) (Q : AV → Mem → Prop) => zCs [.l .any] [a0] fun args => wZ tb an11 (bodyOf Tryz.f11) (enterA Tryz.f11 args M) (retQ tb Tryz.f11 Q)) = fun (a0 : AV) (M : Mem) (Q : AV → Mem → Prop) => F11 a0 M Q := by kernel_rfl
theorem F11_ok {a0 : AV} {M : Mem} {Q : AV → Mem → Prop} (h : F11 a0 M Q) : CallA tb.P 11 [a0] M Q :=
  calla_wZ tb_ok tb_mix fn11 (c := bodyOf Tryz.f11) rfl an11_ok (ks := [.l .any]) (cast (congrFun (congrFun (congrFun F11_eq a0) M) Q).symm h)

def F13 (a0 : AV) (M : Mem) (Q : AV → Mem → Prop) : Prop :=
  CallA tb.P 12 [a0] M fun y1 M2 => zI .i64 y1 fun z3 => ∃ J4 : AV → Int → Nat → Mem → Prop, (∃ n5 : Nat, J4 (.val (.slice none 0 0)) (0 : Int) n5 M2) ∧
  ∀ (_ : Nat → Option AV) (x6 : AV) (z7 : Int) (n8 : Nat) (M9 : Mem), J4 x6 z7 n8 M9 → (condB (decide (z7 < z3)) (letP (fun (x16 : AV) (M17 : Mem) => ∃ k19 : Nat, k19 < n8 ∧
  (J4 x16 (iAdd .i64 z7 1) k19 M17)) fun K18 => CallA tb.P 24 [a0, (.val (.int .i64 z7))] M9 fun y10 M11 => ∃ (x12 : AV) (b13 : Bool), y10 = (.tup [x12, (.val (.bool b13))]) ∧
  (condB (b13) (letP (M11.new (.cells [(.val (.int .i64 z7))] true)) fun M14 => bindO (evAppend tb 36 36 x6 (.sl M11.next 0 1 1 none) M14) fun y15 => K18 y15.1 y15.2) (K18 x6 M11))) (Q x6 M9))
def an13 : An := (.seq (.reg []) (.seq (.reg []) (.seq (.seq (.reg [.non, .int .i64]) (.blk (.lop [(3, .any), (9, .int .i64)] [4, 5, 6, 10, 11, 12, 13, 14, 15, 16, 17, 18, 19, 20, 21, 22, 23] (.seq (.reg [.bool]) (.seq (.cnd .z .z) (.seq (.blk (.seq (.reg []) (.seq (.reg [.non, .non, .tup [.l .any, .l .bool], .non, .non, .bool]) (.seq (.reg []) (.cnd (.reg []) .z))))) (.reg [.int .i64]))))))) (.seq (.reg []) .z))))
theorem fn13 : tb.fn.get 13 = some Tryz.f13 := by kernel_rfl
theorem an13_ok : anB tb Tryz.f13.ntmps an13 (bodyOf Tryz.f13) = true := by kernel_rfl
theorem F13_eq : (fun (a0 : AV) (M : Mem) (Q : AV → Mem → Prop) => zCs [.l .any] [a0] fun args => wZ tb an13 (bodyOf Tryz.f13) (enterA Tryz.f13 args M) (retQ tb Tryz.f13 Q)) = fun (a0 : AV) (M : Mem) (Q : AV → Mem → Prop) => F13 a0 M Q := by kernel_rfl
theorem F13_ok {a0 : AV} {M : Mem} {Q : AV → Mem → Prop} (h : F13 a0 M Q) : CallA tb.P 13 [a0] M Q :=
  calla_wZ tb_ok tb_mix fn13 (c := bodyOf Tryz.f13) rfl an13_ok (ks := [.l .any]) (cast (congrFun (congrFun (congrFun F13_eq a0) M) Q).symm h)

def F17 (a0 a1 : AV) (M : Mem) (Q : AV → Mem → Prop) : Prop :=
  bindO (eLen tb false 23 a0 M) fun y1 => zI .i64 y1.1 fun z2 => bindO (eLen tb false 23 a0 M) fun y3 => zI .i64 y3.1 fun z4 => bindO (eSl tb 23 a0 (some (.val (.int .i64 z2))) (some (.val (.int .i64 (iAdd .i64 z4 3)))) none M) fun y5 => ∃ J6 : Int → Nat → Mem → Prop, (∃ n7 : Nat, J6 (0 : Int) n7 M) ∧
  ∀ (_ : Nat → Option AV) (z8 : Int) (n9 : Nat) (M10 : Mem), J6 z8 n9 M10 →
  (condB (decide (z8 < (3 : Int))) (bindO (eIA tb 23 y5.1 (.val (.int .i64 z8)) M10) fun y11 => zP y11.1 fun p12 o13 => bindO (eLd tb 5 (.ptr p12 o13) M10) fun y14 => zI .u8 y14.1 fun z15 => condB (z15 !=
  (119 : Int)) (Q (.val (.bool false)) M10) (∃ k16 : Nat, k16 < n9 ∧ (J6 (iAdd .i64 z8 1) k16 M10))) (CallA tb.P 19 [a0, a1] M10 fun y17 M18 => zB y17 fun b19 => Q (.val (.bool b19)) M18))
def an17 : An := (.seq (.reg []) (.seq (.reg [.non, .non, .int .i64, .non, .int .i64, .int .i64]) (.seq (.seq (.reg []) (.blk (.lop [(6, .int .i64)] [4, 14, 15, 16, 17, 18, 19, 20, 21, 22] (.seq (.seq (.reg [.non, .bool]) (.cnd .z .z)) (.seq (.blk (.seq (.reg [.non, .non, .ptr, .int .u8, .bool]) (.cnd (.seq (.reg []) .z) .z))) (.reg [.non, .int .i64])))))) (.seq (.reg [.non, .non, .bool]) .z))))
theorem fn17 : tb.fn.get 17 = some Tryz.f17 := by kernel_rfl
theorem an17_ok : anB tb Tryz.f17.ntmps an17 (bodyOf Tryz.f17) = true := by kernel_rfl
theorem F17_eq : (fun (a0 a1 : AV) (M : Mem) (Q : AV → Mem → Prop) => zCs [.l .any, .l .any] [a0, a1] fun args => wZ tb an17 (bodyOf Tryz.f17) (enterA Tryz.f17 args M) (retQ tb Tryz.f17 Q)) = fun (a0 a1 : AV) (M : Mem) (Q : AV → Mem → Prop) => F17 a0 a1 M Q := by kernel_rfl
theorem F17_ok {a0 a1 : AV} {M : Mem} {Q : AV → Mem → Prop} (h : F17 a0 a1 M Q) : CallA tb.P 17 [a0, a1] M Q :=
  calla_wZ tb_ok tb_mix fn17 (c := bodyOf Tryz.f17) rfl an17_ok (ks := [.l .any, .l .any]) (cast (congrFun (congrFun (congrFun (congrFun F17_eq a0) a1) M) Q).symm h)

def F19 (a0 a1 : AV) (M : Mem) (Q : AV → Mem → Prop) : Prop :=
  bindO (eLen tb false 23 a0 M) fun y1 => zI .i64 y1.1 fun z2 => bindO (eLen tb false 23 a1 M) fun y3 => zI .i64 y3.1 fun z4 => condB (z2 !=
  z4) (Q (.val (.bool false)) M) (∃ J5 : Int → Nat → Mem → Prop, (∃ n6 : Nat, J5 (0 : Int) n6 M) ∧ ∀ (_ : Nat → Option AV) (z7 : Int) (n8 : Nat) (M9 : Mem), J5 z7 n8 M9 →
  (bindO (eLen tb false 23 a0 M9) fun y10 => zI .i64 y10.1 fun z11 => condB (decide (z7 < z11)) (bindO (eIA tb 23 a0 (.val (.int .i64 z7)) M9) fun y12 => zP y12.1 fun p13 o14 => bindO (eIA tb 23 a1 (.val (.int .i64 z7)) M9) fun y15 => zP y15.1 fun p16 o17 => bindO (eLd tb 5 (.ptr p13 o14) M9) fun y18 => zI .u8 y18.1 fun z19 => bindO (eLd tb 5 (.ptr p16 o17) M9) fun y20 => zI .u8 y20.1 fun z21 => condB (z19 !=
  z21) (Q (.val (.bool false)) M9) (∃ k22 : Nat, k22 < n8 ∧ (J5 (iAdd .i64 z7 1) k22 M9))) (Q (.val (.bool true)) M9)))
def an19 : An := (.seq (.reg []) (.seq (.seq (.reg [.non, .int .i64, .non, .int .i64, .bool]) (.cnd (.seq (.reg []) .z) .z)) (.seq (.seq (.reg []) (.blk (.lop [(5, .int .i64)] [4, 11, 12, 13, 14, 15, 16, 17, 18, 19, 20, 21, 22, 23, 24, 25] (.seq (.seq (.reg [.non, .non, .int .i64, .bool]) (.cnd .z .z)) (.seq (.blk (.seq (.opn [(0, []), (1, []), (2, []), (4, []), (5, []), (6, []), (3, []), (7, []), (8, [])] [] [] 0 [.non, .non, .ptr, .non, .non, .ptr, .int .u8, .int .u8, .bool]) (.cnd (.seq (.reg []) .z) .z))) (.reg [.non, .int .i64])))))) (.seq (.reg []) .z))))
theorem fn19 : tb.fn.get 19 = some Tryz.f19 := by kernel_rfl
theorem an19_ok : anB tb Tryz.f19.ntmps an19 (bodyOf Tryz.f19) = true := by kernel_rfl
theorem F19_eq : (fun (a0 a1 : AV) (M : Mem) (Q : AV → Mem → Prop) => zCs [.l .any, .l .any] [a0, a1] fun args => wZ tb an19 (bodyOf Tryz.f19) (enterA Tryz.f19 args M) (retQ tb Tryz.f19 Q)) = fun (a0 a1 : AV) (M : Mem) (Q : AV → Mem → Prop) => F19 a0 a1 M Q := by kernel_rfl
theorem F19_ok {a0 a1 : AV} {M : Mem} {Q : AV → Mem → Prop} (h : F19 a0 a1 M Q) : CallA tb.P 19 [a0, a1] M Q :=
  calla_wZ tb_ok tb_mix fn19 (c := bodyOf Tryz.f19) rfl an19_ok (ks := [.l .any, .l .any]) (cast (congrFun (congrFun (congrFun (congrFun F19_eq a0) a1) M) Q).symm h)

def F28 (a0 a1 : AV) (M : Mem) (Q : AV → Mem → Prop) : Prop :=
  ∃ (z1 : Int) (z2 : Int) (z3 : Int) (z4 : Int) (z5 : Int), a0 = (.agg [(.val (.int .i64 z1)), (.val (.int .i64 z2)), (.val (.int .i64 z3)), (.val (.int .i64 z4)), (.val (.int .i64 z5))]) ∧
  ∃ (z6 : Int) (z7 : Int), a1 = (.agg [(.val (.int .i64 z6)), (.val (.int .i64 z7))]) ∧
  letP (M.new (.cells [(.val (.int .i64 z1)), (.val (.int .i64 z2)), (.val (.int .i64 z3)), (.val (.int .i64 z4)), (.val (.int .i64 z5))] true)) fun M8 => letP (M8.new (.cells [(.val (.int .i64 z6)), (.val (.int .i64 z7))] true)) fun M9 => letP (M9.new (.cells [(.val (.int .i64 0)), (.val (.int .i64 0))] true)) fun M10 => bindO (eLd tb 40 (.ptr M.next 0) M10) fun y11 => ∃ (z12 : Int) (z13 : Int) (z14 : Int) (z15 : Int) (z16 : Int), y11.1 =
  (.agg [(.val (.int .i64 z12)), (.val (.int .i64 z13)), (.val (.int .i64 z14)), (.val (.int .i64 z15)), (.val (.int .i64 z16))]) ∧
  (bindO (eLd tb 50 (.ptr M8.next 0) M10) fun y17 => ∃ (z18 : Int) (z19 : Int), y17.1 = (.agg [(.val (.int .i64 z18)), (.val (.int .i64 z19))]) ∧
  (CallA tb.P 48 [(.agg [(.val (.int .i64 z12)), (.val (.int .i64 z13)), (.val (.int .i64 z14)), (.val (.int .i64 z15)), (.val (.int .i64 z16))]), (.agg [(.val (.int .i64 z18)), (.val (.int .i64 z19))])] M10 fun y20 M21 => zI .i64 y20 fun z22 => letP (fun (b36 : Bool) (M37 : Mem) => condB (b36) (bindO (eSt tb 50 (.ptr M9.next 0) (.agg [(.val (.int .i64 0)), (.val (.int .i64 0))]) M37) fun y39 => bindO (eRes tb [.c 50 (.ptr M9.next 0), .v (.val (.bool false))] y39.2) fun x40 => Q x40 y39.2) (bindO (eLd tb 3 (.ptr M.next 1) M37) fun y41 => zI .i64 y41.1 fun z42 => bindO (eBin tb .quo 3 (.tmp 28) (.tmp 30) (.val (.int .i64 (iAdd .i64 z22 1))) (.val (.int .i64 z42)) M37) fun y43 => zI .i64 y43.1 fun z44 => bindO (eLd tb 3 (.ptr M.next 1) M37) fun y45 => zI .i64 y45.1 fun z46 => bindO (eBin tb .rem 3 (.tmp 32) (.tmp 34) (.val (.int .i64 (iAdd .i64 z22 1))) (.val (.int .i64 z46)) M37) fun y47 => zI .i64 y47.1 fun z48 => bindO (eSt tb 50 (.ptr M9.next 0) (.agg [(.val (.int .i64 z44)), (.val (.int .i64 z48))]) M37) fun y49 => bindO (eRes tb [.c 50 (.ptr M9.next 0), .v (.val (.bool true))] y49.2) fun x50 => Q x50 y49.2)) fun K38 => bindO (eLd tb 40 (.ptr M.next 0) M21) fun y23 => ∃ (z24 : Int) (z25 : Int) (z26 : Int) (z27 : Int) (z28 : Int), y23.1 =
  (.agg [(.val (.int .i64 z24)), (.val (.int .i64 z25)), (.val (.int .i64 z26)), (.val (.int .i64 z27)), (.val (.int .i64 z28))]) ∧
  (CallA tb.P 49 [(.agg [(.val (.int .i64 z24)), (.val (.int .i64 z25)), (.val (.int .i64 z26)), (.val (.int .i64 z27)), (.val (.int .i64 z28))])] M21 fun y29 M30 => zB y29 fun b31 => condB (!b31) (K38 true M30) (condB ((iAdd .i64 z22 1) ==
  (0 : Int)) (K38 true M30) (bindO (eLd tb 3 (.ptr M.next 0) M30) fun y32 => zI .i64 y32.1 fun z33 => bindO (eLd tb 3 (.ptr M.next 1) M30) fun y34 => zI .i64 y34.1 fun z35 => K38 ((iAdd .i64 z22 1) ==
  (iMul .i64 z33 z35)) M30)))))
def an28 : An := (.seq (.reg []) (.seq (.reg [.agg [.int .i64, .int .i64, .int .i64, .int .i64, .int .i64], .agg [.int .i64, .int .i64], .int .i64, .int .i64]) (.seq (.seq (.reg [.agg [.int .i64, .int .i64, .int .i64, .int .i64, .int .i64], .bool, .bool, .spl, .non, .bool, .non, .spl, .non, .ptr, .int .i64, .ptr, .int .i64, .int .i64, .bool]) (.cnd (.seq (.reg []) .z) .z)) (.seq (.opn [(0, []), (1, []), (4, []), (5, []), (2, []), (3, []), (6, []), (7, []), (8, []), (9, []), (10, [])] [] [] 0 [.non, .ptr, .non, .ptr, .int .i64, .int .i64, .int .i64, .int .i64, .non, .non, .non]) .z))))
theorem fn28 : tb.fn.get 28 = some Tryz.f28 := by kernel_rfl
theorem an28_ok : anB tb Tryz.f28.ntmps an28 (bodyOf Tryz.f28) = true := by kernel_rfl
theorem F28_eq : (fun (a0 a1 : AV) (M : Mem) (Q : AV → Mem → Prop) => zCs [.a [.int .i64, .int .i64, .int .i64, .int .i64, .int .i64], .a [.int .i64, .int .i64]] [a0, a1] fun args => wZ tb an28 (bodyOf Tryz.f28) (enterA Tryz.f28 args M) (retQ tb Tryz.f28 Q)) = fun (a0 a1 : AV) (M : Mem) (Q : AV → Mem → Prop) => F28 a0 a1 M Q := by kernel_rfl
theorem F28_ok {a0 a1 : AV} {M : Mem} {Q : AV → Mem → Prop} (h : F28 a0 a1 M Q) : CallA tb.P 28 [a0, a1] M Q :=
  calla_wZ tb_ok tb_mix fn28 (c := bodyOf Tryz.f28) rfl an28_ok (ks := [.a [.int .i64, .int .i64, .int .i64, .int .i64, .int .i64], .a [.int .i64, .int .i64]]) (cast (congrFun (congrFun (congrFun (congrFun F28_eq a0) a1) M) Q).symm h)

def F44 (a0 : AV) (M : Mem) (Q : AV → Mem → Prop) : Prop :=
  ∃ (z1 : Int) (z2 : Int) (z3 : Int) (z4 : Int) (z5 : Int), a0 = (.agg [(.val (.int .i64 z1)), (.val (.int .i64 z2)), (.val (.int .i64 z3)), (.val (.int .i64 z4)), (.val (.int .i64 z5))]) ∧
  letP (M.new (.cells [(.val (.int .i64 z1)), (.val (.int .i64 z2)), (.val (.int .i64 z3)), (.val (.int .i64 z4)), (.val (.int .i64 z5))] true)) fun M6 => bindO (eLd tb 40 (.ptr M.next 0) M6) fun y7 => ∃ (z8 : Int) (z9 : Int) (z10 : Int) (z11 : Int) (z12 : Int), y7.1 =
  (.agg [(.val (.int .i64 z8)), (.val (.int .i64 z9)), (.val (.int .i64 z10)), (.val (.int .i64 z11)), (.val (.int .i64 z12))]) ∧
  (bindO (eLd tb 3 (.ptr M.next 2) M6) fun y13 => zI .i64 y13.1 fun z14 => bindO (eLd tb 40 (.ptr M.next 0) M6) fun y15 => ∃ (z16 : Int) (z17 : Int) (z18 : Int) (z19 : Int) (z20 : Int), y15.1 =
  (.agg [(.val (.int .i64 z16)), (.val (.int .i64 z17)), (.val (.int .i64 z18)), (.val (.int .i64 z19)), (.val (.int .i64 z20))]) ∧
  (CallA tb.P 75 [(.agg [(.val (.int .i64 z8)), (.val (.int .i64 z9)), (.val (.int .i64 z10)), (.val (.int .i64 z11)), (.val (.int .i64 z12))]), (.val (.int .i64 z14))] M6 fun y21 M22 => zI .i64 y21 fun z23 => (bindO (eLd tb 40 (.ptr M.next 0) M22) fun y24 => (some (.agg [(.val (.int .i64 z16)), (.val (.int .i64 z17)), (.val (.int .i64 z18)), (.val (.int .i64 z19)), (.val (.int .i64 z20))]) : Option AV) =
  some y24.1) ∧
  (CallA tb.P 75 [(.agg [(.val (.int .i64 z16)), (.val (.int .i64 z17)), (.val (.int .i64 z18)), (.val (.int .i64 z19)), (.val (.int .i64 z20))]), (.val (.int .i64 16))] M22 fun y25 M26 => zI .i64 y25 fun z27 => Q (.val (.int .i64 (iAdd .i64 z23 z27))) M26)))
def an44 : An := (.seq (.reg []) (.seq (.opn [(1, []), (0, []), (2, []), (4, []), (3, [4]), (5, []), (6, []), (7, [])] [] [[], [], [], [4]] 0 [.ptr, .agg [.int .i64, .int .i64, .int .i64, .int .i64, .int .i64], .int .i64, .agg [.int .i64, .int .i64, .int .i64, .int .i64, .int .i64], .int .i64, .int .i64, .int .i64, .non]) .z))
theorem fn44 : tb.fn.get 44 = some Tryz.f44 := by kernel_rfl
theorem an44_ok : anB tb Tryz.f44.ntmps an44 (bodyOf Tryz.f44) = true := by kernel_rfl
theorem F44_eq : (fun (a0 : AV) (M : Mem) (Q : AV → Mem → Prop) => zCs [.a [.int .i64, .int .i64, .int .i64, .int .i64, .int .i64]] [a0] fun args => wZ tb an44 (bodyOf Tryz.f44) (enterA Tryz.f44 args M) (retQ tb Tryz.f44 Q)) = fun (a0 : AV) (M : Mem) (Q : AV → Mem → Prop) => F44 a0 M Q := by kernel_rfl
theorem F44_ok {a0 : AV} {M : Mem} {Q : AV → Mem → Prop} (h : F44 a0 M Q) : CallA tb.P 44 [a0] M Q :=
  calla_wZ tb_ok tb_mix fn44 (c := bodyOf Tryz.f44) rfl an44_ok (ks := [.a [.int .i64, .int .i64, .int .i64, .int .i64, .int .i64]]) (cast (congrFun (congrFun (congrFun F44_eq a0) M) Q).symm h)

def F48 (a0 a1 : AV) (M : Mem) (Q : AV → Mem → Prop) : Prop :=
  ∃ (z1 : Int) (z2 : Int) (z3 : Int) (z4 : Int) (z5 : Int), a0 = (.agg [(.val (.int .i64 z1)), (.val (.int .i64 z2)), (.val (.int .i64 z3)), (.val (.int .i64 z4)), (.val (.int .i64 z5))]) ∧
  ∃ (z6 : Int) (z7 : Int), a1 = (.agg [(.val (.int .i64 z6)), (.val (.int .i64 z7))]) ∧
  letP (M.new (.cells [(.val (.int .i64 z1)), (.val (.int .i64 z2)), (.val (.int .i64 z3)), (.val (.int .i64 z4)), (.val (.int .i64 z5))] true)) fun M8 => letP (M8.new (.cells [(.val (.int .i64 z6)), (.val (.int .i64 z7))] true)) fun M9 => bindO (eLd tb 40 (.ptr M.next 0) M9) fun y10 => ∃ (z11 : Int) (z12 : Int) (z13 : Int) (z14 : Int) (z15 : Int), y10.1 =
  (.agg [(.val (.int .i64 z11)), (.val (.int .i64 z12)), (.val (.int .i64 z13)), (.val (.int .i64 z14)), (.val (.int .i64 z15))]) ∧
  (CallA tb.P 49 [(.agg [(.val (.int .i64 z11)), (.val (.int .i64 z12)), (.val (.int .i64 z13)), (.val (.int .i64 z14)), (.val (.int .i64 z15))])] M9 fun y16 M17 => zB y16 fun b18 => condB (!b18) (Q (.val (.int .i64 0)) M17) (bindO (eLd tb 40 (.ptr M.next 0) M17) fun y19 => ∃ (z20 : Int) (z21 : Int) (z22 : Int) (z23 : Int) (z24 : Int), y19.1 =
  (.agg [(.val (.int .i64 z20)), (.val (.int .i64 z21)), (.val (.int .i64 z22)), (.val (.int .i64 z23)), (.val (.int .i64 z24))]) ∧
  (bindO (eLd tb 50 (.ptr M8.next 0) M17) fun y25 => ∃ (z26 : Int) (z27 : Int), y25.1 = (.agg [(.val (.int .i64 z26)), (.val (.int .i64 z27))]) ∧
  (CallA tb.P 76 [(.agg [(.val (.int .i64 z20)), (.val (.int .i64 z21)), (.val (.int .i64 z22)), (.val (.int .i64 z23)), (.val (.int .i64 z24))]), (.agg [(.val (.int .i64 z26)), (.val (.int .i64 z27))])] M17 fun y28 M29 => zB y28 fun b30 => condB (!b30) (Q (.val (.int .i64 (-1))) M29) (bindO (eLd tb 3 (.ptr M8.next 0) M29) fun y31 => zI .i64 y31.1 fun z32 => bindO (eLd tb 3 (.ptr M.next 1) M29) fun y33 => zI .i64 y33.1 fun z34 => bindO (eLd tb 3 (.ptr M8.next 1) M29) fun y35 => zI .i64 y35.1 fun z36 => Q (.val (.int .i64 (iAdd .i64 (iMul .i64 z32 z34) z36))) M29)))))
def an48 : An := (.seq (.reg []) (.seq (.seq (.reg [.agg [.int .i64, .int .i64, .int .i64, .int .i64, .int .i64], .bool, .bool]) (.cnd (.seq (.reg []) .z) .z)) (.seq (.seq (.reg [.agg [.int .i64, .int .i64, .int .i64, .int .i64, .int .i64], .agg [.int .i64, .int .i64], .bool, .bool]) (.cnd (.seq (.reg []) .z) .z)) (.seq (.reg [.ptr, .int .i64, .ptr, .int .i64, .int .i64, .ptr, .int .i64, .int .i64]) .z))))
theorem fn48 : tb.fn.get 48 = some Tryz.f48 := by kernel_rfl
theorem an48_ok : anB tb Tryz.f48.ntmps an48 (bodyOf Tryz.f48) = true := by kernel_rfl
theorem F48_eq : (fun (a0 a1 : AV) (M : Mem) (Q : AV → Mem → Prop) => zCs [.a [.int .i64, .int .i64, .int .i64, .int .i64, .int .i64], .a [.int .i64, .int .i64]] [a0, a1] fun args => wZ tb an48 (bodyOf Tryz.f48) (enterA Tryz.f48 args M) (retQ tb Tryz.f48 Q)) = fun (a0 a1 : AV) (M : Mem) (Q : AV → Mem → Prop) => F48 a0 a1 M Q := by kernel_rfl
theorem F48_ok {a0 a1 : AV} {M : Mem} {Q : AV → Mem → Prop} (h : F48 a0 a1 M Q) : CallA tb.P 48 [a0, a1] M Q :=
  calla_wZ tb_ok tb_mix fn48 (c := bodyOf Tryz.f48) rfl an48_ok (ks := [.a [.int .i64, .int .i64, .int .i64, .int .i64, .int .i64], .a [.int .i64, .int .i64]]) (cast (congrFun (congrFun (congrFun (congrFun F48_eq a0) a1) M) Q).symm h)

def F49 (a0 : AV) (M : Mem) (Q : AV → Mem → Prop) : Prop :=
  ∃ (z1 : Int) (z2 : Int) (z3 : Int) (z4 : Int) (z5 : Int), a0 = (.agg [(.val (.int .i64 z1)), (.val (.int .i64 z2)), (.val (.int .i64 z3)), (.val (.int .i64 z4)), (.val (.int .i64 z5))]) ∧
  letP (M.new (.cells [(.val (.int .i64 z1)), (.val (.int .i64 z2)), (.val (.int .i64 z3)), (.val (.int .i64 z4)), (.val (.int .i64 z5))] true)) fun M6 => letP (fun (b41 : Bool) (M42 : Mem) => Q (.val (.bool b41)) M42) fun K43 => bindO (eLd tb 3 (.ptr M.next 0) M6) fun y7 => zI .i64 y7.1 fun z8 => CallA tb.P 77 [(.val (.int .i64 z8)), (.val (.int .i64 8)), (.val (.int .i64 20))] M6 fun y9 M10 => zB y9 fun b11 => condB (b11) (bindO (eLd tb 3 (.ptr M.next 1) M10) fun y12 => zI .i64 y12.1 fun z13 => CallA tb.P 77 [(.val (.int .i64 z13)), (.val (.int .i64 4)), (.val (.int .i64 8))] M10 fun y14 M15 => zB y14 fun b16 => condB (b16) (bindO (eLd tb 3 (.ptr M.next 2) M15) fun y17 => zI .i64 y17.1 fun z18 => CallA tb.P 77 [(.val (.int .i64 z18)), (.val (.int .i64 24)), (.val (.int .i64 64))] M15 fun y19 M20 => zB y19 fun b21 => condB (b21) (bindO (eLd tb 3 (.ptr M.next 3) M20) fun y22 => zI .i64 y22.1 fun z23 => CallA tb.P 77 [(.val (.int .i64 z23)), (.val (.int .i64 0)), (.val (.int .i64 4))] M20 fun y24 M25 => zB y24 fun b26 => condB (b26) (bindO (eLd tb 3 (.ptr M.next 4) M25) fun y27 => zI .i64 y27.1 fun z28 => CallA tb.P 77 [(.val (.int .i64 z28)), (.val (.int .i64 2)), (.val (.int .i64 20))] M25 fun y29 M30 => zB y29 fun b31 => condB (b31) (bindO (eLd tb 40 (.ptr M.next 0) M30) fun y32 => ∃ (z33 : Int) (z34 : Int) (z35 : Int) (z36 : Int) (z37 : Int), y32.1 =
  (.agg [(.val (.int .i64 z33)), (.val (.int .i64 z34)), (.val (.int .i64 z35)), (.val (.int .i64 z36)), (.val (.int .i64 z37))]) ∧
  (CallA tb.P 72 [(.agg [(.val (.int .i64 z33)), (.val (.int .i64 z34)), (.val (.int .i64 z35)), (.val (.int .i64 z36)), (.val (.int .i64 z37))])] M30 fun y38 M39 => zI .i64 y38 fun z40 => K43 (decide (z40 ≥ (4 : Int))) M39)) (K43 false M30)) (K43 false M25)) (K43 false M20)) (K43 false M15)) (K43 false M10)
def an49 : An := (.seq (.reg []) (.seq (.reg [.ptr, .int .i64, .bool, .spl, .ptr, .int .i64, .bool, .non, .spl, .ptr, .int .i64, .bool, .non, .spl, .ptr, .int .i64, .bool, .non, .spl, .ptr, .int .i64, .bool, .non, .spl, .agg [.int .i64, .int .i64, .int .i64, .int .i64, .int .i64], .int .i64, .bool]) .z))
theorem fn49 : tb.fn.get 49 = some Tryz.f49 := by kernel_rfl
theorem an49_ok : anB tb Tryz.f49.ntmps an49 (bodyOf Tryz.f49) = true := by kernel_rfl
theorem F49_eq : (fun (a0 : AV) (M : Mem) (Q : AV → Mem → Prop) => zCs [.a [.int .i64, .int .i64, .int .i64, .int .i64, .int .i64]] [a0] fun args => wZ tb an49 (bodyOf Tryz.f49) (enterA Tryz.f49 args M) (retQ tb Tryz.f49 Q)) = fun (a0 : AV) (M : Mem) (Q : AV → Mem → Prop) => F49 a0 M Q := by kernel_rfl
theorem F49_ok {a0 : AV} {M : Mem} {Q : AV → Mem → Prop} (h : F49 a0 M Q) : CallA tb.P 49 [a0] M Q :=
  calla_wZ tb_ok tb_mix fn49 (c := bodyOf Tryz.f49) rfl an49_ok (ks := [.a [.int .i64, .int .i64, .int .i64, .int .i64, .int .i64]]) (cast (congrFun (congrFun (congrFun F49_eq a0) M) Q).symm h)

def F72 (a0 : AV) (M : Mem) (Q : AV → Mem → Prop) : Prop :=
  ∃ (z1 : Int) (z2 : Int) (z3 : Int) (z4 : Int) (z5 : Int), a0 = (.agg [(.val (.int .i64 z1)), (.val (.int .i64 z2)), (.val (.int .i64 z3)), (.val (.int .i64 z4)), (.val (.int .i64 z5))]) ∧
  letP (M.new (.cells [(.val (.int .i64 z1)), (.val (.int .i64 z2)), (.val (.int .i64 z3)), (.val (.int .i64 z4)), (.val (.int .i64 z5))] true)) fun M6 => bindO (eLd tb 3 (.ptr M.next 0) M6) fun y7 => zI .i64 y7.1 fun z8 => bindO (eLd tb 3 (.ptr M.next 3) M6) fun y9 => zI .i64 y9.1 fun z10 => bindO (eLd tb 3 (.ptr M.next 1) M6) fun y11 => zI .i64 y11.1 fun z12 => Q (.val (.int .i64 (iQuo .i64 (iSub .i64 (iMul .i64 (iSub .i64 (iSub .i64 z8 z10) 3) z12) 4) 2))) M6
def an72 : An := (.seq (.reg []) (.seq (.reg [.ptr, .int .i64, .ptr, .int .i64, .int .i64, .int .i64, .ptr, .int .i64, .int .i64, .int .i64, .int .i64]) .z))
theorem fn72 : tb.fn.get 72 = some Tryz.f72 := by kernel_rfl
theorem an72_ok : anB tb Tryz.f72.ntmps an72 (bodyOf Tryz.f72) = true := by kernel_rfl
theorem F72_eq : (fun (a0 : AV) (M : Mem) (Q : AV → Mem → Prop) => zCs [.a [.int .i64, .int .i64, .int .i64, .int .i64, .int .i64]] [a0] fun args => wZ tb an72 (bodyOf Tryz.f72) (enterA Tryz.f72 args M) (retQ tb Tryz.f72 Q)) = fun (a0 : AV) (M : Mem) (Q : AV → Mem → Prop) => F72 a0 M Q := by kernel_rfl
theorem F72_ok {a0 : AV} {M : Mem} {Q : AV → Mem → Prop} (h : F72 a0 M Q) : CallA tb.P 72 [a0] M Q :=
  calla_wZ tb_ok tb_mix fn72 (c := bodyOf Tryz.f72) rfl an72_ok (ks := [.a [.int .i64, .int .i64, .int .i64, .int .i64, .int .i64]]) (cast (congrFun (congrFun (congrFun F72_eq a0) M) Q).symm h)

def F75 (a0 a1 : AV) (M : Mem) (Q : AV → Mem → Prop) : Prop :=
  ∃ (z1 : Int) (z2 : Int) (z3 : Int) (z4 : Int) (z5 : Int), a0 = (.agg [(.val (.int .i64 z1)), (.val (.int .i64 z2)), (.val (.int .i64 z3)), (.val (.int .i64 z4)), (.val (.int .i64 z5))]) ∧
  zI .i64 a1 fun z6 => letP (M.new (.cells [(.val (.int .i64 z1)), (.val (.int .i64 z2)), (.val (.int .i64 z3)), (.val (.int .i64 z4)), (.val (.int .i64 z5))] true)) fun M7 => bindO (eLd tb 40 (.ptr M.next 0) M7) fun y8 => ∃ (z9 : Int) (z10 : Int) (z11 : Int) (z12 : Int) (z13 : Int), y8.1 =
  (.agg [(.val (.int .i64 z9)), (.val (.int .i64 z10)), (.val (.int .i64 z11)), (.val (.int .i64 z12)), (.val (.int .i64 z13))]) ∧
  (CallA tb.P 49 [(.agg [(.val (.int .i64 z9)), (.val (.int .i64 z10)), (.val (.int .i64 z11)), (.val (.int .i64 z12)), (.val (.int .i64 z13))])] M7 fun y14 M15 => zB y14 fun b16 => condB (!b16) (Q (.val (.int .i64 0)) M15) (Q (.val (.int .i64 z6)) M15))
def an75 : An := (.seq (.reg []) (.seq (.seq (.reg [.agg [.int .i64, .int .i64, .int .i64, .int .i64, .int .i64], .bool, .bool]) (.cnd (.seq (.reg []) .z) .z)) (.seq (.reg []) .z)))
theorem fn75 : tb.fn.get 75 = some Tryz.f75 := by kernel_rfl
theorem an75_ok : anB tb Tryz.f75.ntmps an75 (bodyOf Tryz.f75) = true := by kernel_rfl
theorem F75_eq : (fun (a0 a1 : AV) (M : Mem) (Q : AV → Mem → Prop) => zCs [.a [.int .i64, .int .i64, .int .i64, .int .i64, .int .i64], .l (.int .i64)] [a0, a1] fun args => wZ tb an75 (bodyOf Tryz.f75) (enterA Tryz.f75 args M) (retQ tb Tryz.f75 Q)) = fun (a0 a1 : AV) (M : Mem) (Q : AV → Mem → Prop) => F75 a0 a1 M Q := by kernel_rfl
theorem F75_ok {a0 a1 : AV} {M : Mem} {Q : AV → Mem → Prop} (h : F75 a0 a1 M Q) : CallA tb.P 75 [a0, a1] M Q :=
  calla_wZ tb_ok tb_mix fn75 (c := bodyOf Tryz.f75) rfl an75_ok (ks := [.a [.int .i64, .int .i64, .int .i64, .int .i64, .int .i64], .l (.int .i64)]) (cast (congrFun (congrFun (congrFun (congrFun F75_eq a0) a1) M) Q).symm h)

def F76 (a0 a1 : AV) (M : Mem) (Q : AV → Mem → Prop) : Prop :=
  ∃ (z1 : Int) (z2 : Int) (z3 : Int) (z4 : Int) (z5 : Int), a0 = (.agg [(.val (.int .i64 z1)), (.val (.int .i64 z2)), (.val (.int .i64 z3)), (.val (.int .i64 z4)), (.val (.int .i64 z5))]) ∧
  ∃ (z6 : Int) (z7 : Int), a1 = (.agg [(.val (.int .i64 z6)), (.val (.int .i64 z7))]) ∧
  letP (M.new (.cells [(.val (.int .i64 z1)), (.val (.int .i64 z2)), (.val (.int .i64 z3)), (.val (.int .i64 z4)), (.val (.int .i64 z5))] true)) fun M8 => letP (M8.new (.cells [(.val (.int .i64 z6)), (.val (.int .i64 z7))] true)) fun M9 => letP (fun (b33 : Bool) (M34 : Mem) => Q (.val (.bool b33)) M34) fun K35 => bindO (eLd tb 40 (.ptr M.next 0) M9) fun y10 => ∃ (z11 : Int) (z12 : Int) (z13 : Int) (z14 : Int) (z15 : Int), y10.1 =
  (.agg [(.val (.int .i64 z11)), (.val (.int .i64 z12)), (.val (.int .i64 z13)), (.val (.int .i64 z14)), (.val (.int .i64 z15))]) ∧
  (CallA tb.P 49 [(.agg [(.val (.int .i64 z11)), (.val (.int .i64 z12)), (.val (.int .i64 z13)), (.val (.int .i64 z14)), (.val (.int .i64 z15))])] M9 fun y16 M17 => zB y16 fun b18 => condB (b18) (bindO (eLd tb 3 (.ptr M8.next 0) M17) fun y19 => zI .i64 y19.1 fun z20 => bindO (eLd tb 3 (.ptr M.next 0) M17) fun y21 => zI .i64 y21.1 fun z22 => CallA tb.P 77 [(.val (.int .i64 z20)), (.val (.int .i64 0)), (.val (.int .i64 (iSub .i64 z22 1)))] M17 fun y23 M24 => zB y23 fun b25 => condB (b25) (bindO (eLd tb 3 (.ptr M8.next 1) M24) fun y26 => zI .i64 y26.1 fun z27 => bindO (eLd tb 3 (.ptr M.next 1) M24) fun y28 => zI .i64 y28.1 fun z29 => CallA tb.P 77 [(.val (.int .i64 z27)), (.val (.int .i64 0)), (.val (.int .i64 (iSub .i64 z29 1)))] M24 fun y30 M31 => zB y30 fun b32 => K35 b32 M31) (K35 false M24)) (K35 false M17))
def an76 : An := (.seq (.reg []) (.seq (.reg [.agg [.int .i64, .int .i64, .int .i64, .int .i64, .int .i64], .bool, .spl, .ptr, .int .i64, .ptr, .int .i64, .int .i64, .bool, .non, .spl, .ptr, .int .i64, .ptr, .int .i64, .int .i64, .bool]) .z))
theorem fn76 : tb.fn.get 76 = some Tryz.f76 := by kernel_rfl
theorem an76_ok : anB tb Tryz.f76.ntmps an76 (bodyOf Tryz.f76) = true := by kernel_rfl
theorem F76_eq : (fun (a0 a1 : AV) (M : Mem) (Q : AV → Mem → Prop) => zCs [.a [.int .i64, .int .i64, .int .i64, .int .i64, .int .i64], .a [.int .i64, .int .i64]] [a0, a1] fun args => wZ tb an76 (bodyOf Tryz.f76) (enterA Tryz.f76 args M) (retQ tb Tryz.f76 Q)) = fun (a0 a1 : AV) (M : Mem) (Q : AV → Mem → Prop) => F76 a0 a1 M Q := by kernel_rfl
theorem F76_ok {a0 a1 : AV} {M : Mem} {Q : AV → Mem → Prop} (h : F76 a0 a1 M Q) : CallA tb.P 76 [a0, a1] M Q :=
  calla_wZ tb_ok tb_mix fn76 (c := bodyOf Tryz.f76) rfl an76_ok (ks := [.a [.int .i64, .int .i64, .int .i64, .int .i64, .int .i64], .a [.int .i64, .int .i64]]) (cast (congrFun (congrFun (congrFun (congrFun F76_eq a0) a1) M) Q).symm h)

def F77 (a0 a1 a2 : AV) (M : Mem) (Q : AV → Mem → Prop) : Prop :=
  zI .i64 a0 fun z1 => zI .i64 a1 fun z2 => zI .i64 a2 fun z3 => letP (fun (b4 : Bool) => Q (.val (.bool b4)) M) fun K5 => condB (decide (z1 ≥ z2)) (K5 (decide (z1 ≤ z3))) (K5 false)
def an77 : An := (.seq (.reg []) (.seq (.reg [.non, .non, .bool, .spl, .non, .non, .bool]) .z))
theorem fn77 : tb.fn.get 77 = some Tryz.f77 := by kernel_rfl
theorem an77_ok : anB tb Tryz.f77.ntmps an77 (bodyOf Tryz.f77) = true := by kernel_rfl
theorem F77_eq : (fun (a0 a1 a2 : AV) (M : Mem) (Q : AV → Mem → Prop) => zCs [.l (.int .i64), .l (.int .i64), .l (.int .i64)] [a0, a1, a2] fun args => wZ tb an77 (bodyOf Tryz.f77) (enterA Tryz.f77 args M) (retQ tb Tryz.f77 Q)) = fun (a0 a1 a2 : AV) (M : Mem) (Q : AV → Mem → Prop) => F77 a0 a1 a2 M Q := by kernel_rfl
theorem F77_ok {a0 a1 a2 : AV} {M : Mem} {Q : AV → Mem → Prop} (h : F77 a0 a1 a2 M Q) : CallA tb.P 77 [a0, a1, a2] M Q :=
  calla_wZ tb_ok tb_mix fn77 (c := bodyOf Tryz.f77) rfl an77_ok (ks := [.l (.int .i64), .l (.int .i64), .l (.int .i64)]) (cast (congrFun (congrFun (congrFun (congrFun (congrFun F77_eq a0) a1) a2) M) Q).symm h)

def F108 (a0 : AV) (M : Mem) (Q : AV → Mem → Prop) : Prop :=
  zI .u8 a0 fun z1 => Q (.val (.bool (z1 != (255 : Int)))) M
def an108 : An := (.seq (.reg []) (.seq (.reg [.non, .bool]) .z))
theorem fn108 : tb.fn.get 108 = some Tryz.f108 := by kernel_rfl
theorem an108_ok : anB tb Tryz.f108.ntmps an108 (bodyOf Tryz.f108) = true := by kernel_rfl
theorem F108_eq : (fun (a0 : AV) (M : Mem) (Q : AV → Mem → Prop) => zCs [.l (.int .u8)] [a0] fun args => wZ tb an108 (bodyOf Tryz.f108) (enterA Tryz.f108 args M) (retQ tb Tryz.f108 Q)) = fun (a0 : AV) (M : Mem) (Q : AV → Mem → Prop) => F108 a0 M Q := by kernel_rfl
theorem F108_ok {a0 : AV} {M : Mem} {Q : AV → Mem → Prop} (h : F108 a0 M Q) : CallA tb.P 108 [a0] M Q :=
  calla_wZ tb_ok tb_mix fn108 (c := bodyOf Tryz.f108) rfl an108_ok (ks := [.l (.int .u8)]) (cast (congrFun (congrFun (congrFun F108_eq a0) M) Q).symm h)

def F134 (a0 a1 : AV) (M : Mem) (Q : AV → Mem → Prop) : Prop :=
  bindO (eLen tb false 23 a0 M) fun y1 => zI .i64 y1.1 fun z2 => ∃ J3 : Int → Nat → Mem → Prop, (∃ n4 : Nat, J3 (0 : Int) n4 M) ∧ ∀ (_ : Nat → Option AV) (z5 : Int) (n6 : Nat) (M7 : Mem), J3 z5 n6 M7 →
  (condB (decide (z5 < z2)) (bindO (eIA tb 23 a0 (.val (.int .i64 z5)) M7) fun y8 => zP y8.1 fun p9 o10 => bindO (eLd tb 5 (.ptr p9 o10) M7) fun y11 => zI .u8 y11.1 fun z12 => eCall tb a1 [(.val (.int .u8 z12))] M7 fun y13 M14 => zB y13 fun b15 => condB (b15) (Q (.val (.int .i64 z5)) M14) (∃ k16 : Nat, k16 < n6 ∧
  (J3 (iAdd .i64 z5 1) k16 M14))) (Q (.val (.int .i64 (-1))) M7))
def an134 : An := (.seq (.reg []) (.seq (.seq (.reg [.non, .int .i64]) (.blk (.lop [(8, .int .i64)] [4, 5, 9, 10, 11, 12, 13, 14, 15, 16, 17, 18] (.seq (.reg []) (.seq (.cnd .z .z) (.seq (.blk (.seq (.reg []) (.seq (.reg [.non, .non, .non, .ptr, .int .u8, .bool]) (.cnd (.seq (.reg []) .z) .z)))) (.reg [.int .i64]))))))) (.seq (.reg []) .z)))
theorem fn134 : tb.fn.get 134 = some Tryz.f134 := by kernel_rfl
theorem an134_ok : anB tb Tryz.f134.ntmps an134 (bodyOf Tryz.f134) = true := by kernel_rfl
theorem F134_eq : (fun (a0 a1 : AV) (M : Mem) (Q : AV → Mem → Prop) => zCs [.l .any, .l .any] [a0, a1] fun args => wZ tb an134 (bodyOf Tryz.f134) (enterA Tryz.f134 args M) (retQ tb Tryz.f134 Q)) = fun (a0 a1 : AV) (M : Mem) (Q : AV → Mem → Prop) => F134 a0 a1 M Q := by kernel_rfl
theorem F134_ok {a0 a1 : AV} {M : Mem} {Q : AV → Mem → Prop} (h : F134 a0 a1 M Q) : CallA tb.P 134 [a0, a1] M Q :=
  calla_wZ tb_ok tb_mix fn134 (c := bodyOf Tryz.f134) rfl an134_ok (ks := [.l .any, .l .any]) (cast (congrFun (congrFun (congrFun (congrFun F134_eq a0) a1) M) Q).symm h)

def F135 (a0 a1 : AV) (M : Mem) (Q : AV → Mem → Prop) : Prop :=
  zI .u32 a0 fun z1 => bindO (eUn tb .xor (.val (.int .u32 z1)) M) fun y2 => zI .u32 y2.1 fun z3 => bindO (eLen tb false 23 a1 M) fun y4 => zI .i64 y4.1 fun z5 => ∃ J6 : Int → Int → Nat → Mem → Prop, (∃ n7 : Nat, J6 z3 (0 : Int) n7 M) ∧
  ∀ (_ : Nat → Option AV) (z8 : Int) (z9 : Int) (n10 : Nat) (M11 : Mem), J6 z8 z9 n10 M11 →
  (condB (decide (z9 < z5)) (bindO (eIA tb 23 a1 (.val (.int .i64 z9)) M11) fun y12 => zP y12.1 fun p13 o14 => bindO (eLd tb 5 (.ptr p13 o14) M11) fun y15 => zI .u8 y15.1 fun z16 => ∃ J17 : Int → Int → Nat → Mem → Prop, (∃ n18 : Nat, J17 (iXor .u32 z8 (IntKind.wrap .u32 z16)) (0 : Int) n18 M11) ∧
  ∀ (_ : Nat → Option AV) (z19 : Int) (z20 : Int) (n21 : Nat) (M22 : Mem), J17 z19 z20 n21 M22 → (condB (decide (z20 < (8 : Int))) (letP (fun (z23 : Int) => ∃ k25 : Nat, k25 < n21 ∧
  (J17 z23 (iAdd .i64 z20 1) k25 M22)) fun K24 => condB ((iAnd .u32 z19 1) == (1 : Int)) (K24 (iXor .u32 (iShr .u32 z19 1) 3988292384)) (K24 (iShr .u32 z19 1))) (∃ k26 : Nat, k26 < n10 ∧
  (J6 z19 (iAdd .i64 z9 1) k26 M22)))) (bindO (eUn tb .xor (.val (.int .u32 z8)) M11) fun y27 => zI .u32 y27.1 fun z28 => Q (.val (.int .u32 z28)) M11))
def an135 : An := (.seq (.reg []) (.seq (.reg [.non, .int .u32]) (.seq (.seq (.reg [.non, .int .i64]) (.blk (.lop [(5, .int .u32), (13, .int .i64)] [7, 8, 14, 15, 16, 17, 18, 19, 20, 21, 22, 23, 24, 25, 26, 27, 28, 29, 30, 31, 32] (.seq (.reg []) (.seq (.cnd .z .z) (.seq (.blk (.seq (.reg [.ptr, .int .u8]) (.seq (.reg [.non, .non, .int .u32, .int .u32]) (.seq (.reg []) (.blk (.lop [(5, .int .u32), (21, .int .i64)] [8, 22, 23, 24, 25, 26, 27, 28, 29, 30, 31] (.seq (.reg [.bool]) (.seq (.cnd .z .z) (.seq (.blk (.seq (.reg [.non, .int .u32]) (.seq (.reg [.non, .int .u32]) (.seq (.reg [.non, .bool]) (.cnd (.reg [.non, .int .u32]) .z))))) (.reg [.int .i64])))))))))) (.reg [.int .i64]))))))) (.seq (.reg [.non, .int .u32]) .z))))
theorem fn135 : tb.fn.get 135 = some Tryz.f135 := by kernel_rfl
theorem an135_ok : anB tb Tryz.f135.ntmps an135 (bodyOf Tryz.f135) = true := by kernel_rfl
theorem F135_eq : (fun (a0 a1 : AV) (M : Mem) (Q : AV → Mem → Prop) => zCs [.l (.int .u32), .l .any] [a0, a1] fun args => wZ tb an135 (bodyOf Tryz.f135) (enterA Tryz.f135 args M) (retQ tb Tryz.f135 Q)) = fun (a0 a1 : AV) (M : Mem) (Q : AV → Mem → Prop) => F135 a0 a1 M Q := by kernel_rfl
theorem F135_ok {a0 a1 : AV} {M : Mem} {Q : AV → Mem → Prop} (h : F135 a0 a1 M Q) : CallA tb.P 135 [a0, a1] M Q :=
  calla_wZ tb_ok tb_mix fn135 (c := bodyOf Tryz.f135) rfl an135_ok (ks := [.l (.int .u32), .l .any]) (cast (congrFun (congrFun (congrFun (congrFun F135_eq a0) a1) M) Q).symm h)

end Go.Proofs.YtfkkmhadipfobaaGreat
