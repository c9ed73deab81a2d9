import Derived.Test.YtjffimbigamadaaA37
import Derived.Test.YtjffimbigamadaaTb2
set_option linter.unusedSimpArgs false
set_option linter.unusedVariables false
set_option linter.unusedSectionVars false
/- Functions as what has to be shown. (Printed by pr.py.) -/
namespace Go.Proofs.Ytjffimbigamadaa
open Go.AM
def F15 (a0 a1 : AV) (M : Mem) (Q : AV → Mem → Prop) : Prop :=
  ∃ (z1 : Int) (z2 : Int) (z3 : Int) (z4 : Int) (z5 : Int), a0 = (.agg [(.val (.int .i64 z1)), (.val (.int .i64 z2)), (.val (.int .i64 z3)), (.val (.int .i64 z4)), (.val (.int .i64 z5))]) ∧
  letP (M.new (.cells [(.val (.int .i64 z1)), (.val (.int .i64 z2)), (.val (.int .i64 z3)), (.val (.int .i64 z4)), (.val (.int .i64 z5))] true)) fun M6 => bindO (eLd tb 23 (.ptr M.next 0) M6) fun y7 => ∃ (z8 : Int) (z9 : Int) (z10 : Int) (z11 : Int) (z12 : Int), y7.1 =
  (.agg [(.val (.int .i64 z8)), (.val (.int .i64 z9)), (.val (.int .i64 z10)), (.val (.int .i64 z11)), (.val (.int .i64 z12))]) ∧
  (CallA tb.P 62 [(.agg [(.val (.int .i64 z8)), (.val (.int .i64 z9)), (.val (.int .i64 z10)), (.val (.int .i64 z11)), (.val (.int .i64 z12))]), a1] M6 fun y13 M14 => zB y13 fun b15 => condB (!b15) (Q (.val (.pointer none)) M14) (letP (⟨M14.next + 1, M14.rows⟩ : Mem) fun M16 => bindO (eLd tb 23 (.ptr M.next 0) M16) fun y17 => ∃ (z18 : Int) (z19 : Int) (z20 : Int) (z21 : Int) (z22 : Int), y17.1 =
  (.agg [(.val (.int .i64 z18)), (.val (.int .i64 z19)), (.val (.int .i64 z20)), (.val (.int .i64 z21)), (.val (.int .i64 z22))]) ∧
  (CallA tb.P 63 [a1] M16 fun y23 M24 => (bindO (eLd tb 23 (.ptr M.next 0) M24) fun y25 => (some (.agg [(.val (.int .i64 z18)), (.val (.int .i64 z19)), (.val (.int .i64 z20)), (.val (.int .i64 z21)), (.val (.int .i64 z22))]) : Option AV) =
  some y25.1) ∧
  (bindO (eBd tb 114 [(0, (.agg [(.val (.int .i64 z18)), (.val (.int .i64 z19)), (.val (.int .i64 z20)), (.val (.int .i64 z21)), (.val (.int .i64 z22))])), (1, y23)] M24) fun y26 => ∃ (z27 : Int) (z28 : Int) (z29 : Int) (z30 : Int) (z31 : Int) (x32 : AV) (x33 : AV) (b34 : Bool) (z35 : Int) (z36 : Int) (z37 : Int) (z38 : Int) (z39 : Int) (z40 : Int), y26.1 =
  (.agg [(.val (.int .i64 z27)), (.val (.int .i64 z28)), (.val (.int .i64 z29)), (.val (.int .i64 z30)), (.val (.int .i64 z31)), x32, x33, (.val (.bool b34)), (.val (.int .i64 z35)), (.val (.int .i64 z36)), (.val (.int .i64 z37)), (.val (.int .i64 z38)), (.val (.int .u8 z39)), (.val (.int .i64 z40))]) ∧
  (letP (M24.put M14.next (.cells [(.val (.int .i64 z27)), (.val (.int .i64 z28)), (.val (.int .i64 z29)), (.val (.int .i64 z30)), (.val (.int .i64 z31)), x32, x33, (.val (.bool b34)), (.val (.int .i64 z35)), (.val (.int .i64 z36)), (.val (.int .i64 z37)), (.val (.int .i64 z38)), (.val (.int .u8 z39)), (.val (.int .i64 z40))] true)) fun M41 => bindO (eLd tb 3 (.ptr M.next 0) M41) fun y42 => zI .i64 y42.1 fun z43 => ∃ J44 : Int → Nat → Mem → Prop, (∃ n45 : Nat, J44 (0 : Int) n45 M41) ∧
  ∀ (_ : Nat → Option AV) (z46 : Int) (n47 : Nat) (M48 : Mem), J44 z46 n47 M48 →
  (condB (decide (z46 < z43)) (letP (⟨M48.next + 2, M48.rows⟩ : Mem) fun M49 => bindO (eLd tb 112 (.ptr M14.next 6) M49) fun y50 => bindO (eLd tb 3 (.ptr M.next 1) M49) fun y51 => zI .i64 y51.1 fun z52 => bindO (eLd tb 23 (.ptr M.next 0) M49) fun y53 => ∃ (z54 : Int) (z55 : Int) (z56 : Int) (z57 : Int) (z58 : Int), y53.1 =
  (.agg [(.val (.int .i64 z54)), (.val (.int .i64 z55)), (.val (.int .i64 z56)), (.val (.int .i64 z57)), (.val (.int .i64 z58))]) ∧
  (CallA tb.P 65 [(.agg [(.val (.int .i64 z54)), (.val (.int .i64 z55)), (.val (.int .i64 z56)), (.val (.int .i64 z57)), (.val (.int .i64 z58))])] M49 fun y59 M60 => zI .i64 y59 fun z61 => (bindO (eLd tb 112 (.ptr M14.next 6) M60) fun y62 => (some y50.1 : Option AV) =
  some y62.1) ∧ (bindO (eLd tb 3 (.ptr M.next 1) M60) fun y63 => (some (.val (.int .i64 z52)) : Option AV) = some y63.1) ∧
  (letP (M60.put M48.next (.cells [(.val (.int .u8 255))] true)) fun M64 => CallA tb.P 64 [(.sl M48.next 0 1 1 none), (.val (.int .i64 (iMul .i64 z52 z61)))] M64 fun y65 M66 => (bindO (eLd tb 112 (.ptr M14.next 6) M66) fun y67 => (some y50.1 : Option AV) =
  some y67.1) ∧ (bindO (eBd tb 117 [(0, y65)] M66) fun y68 => ∃ (x69 : AV) (z70 : Int) (z71 : Int) (z72 : Int), y68.1 =
  (.agg [x69, (.val (.int .i64 z70)), (.val (.int .i64 z71)), (.val (.int .i64 z72))]) ∧
  (letP (M66.put (M48.next + 1) (.cells [x69, (.val (.int .i64 z70)), (.val (.int .i64 z71)), (.val (.int .i64 z72))] true)) fun M73 => bindO (evAppend tb 112 112 y50.1 (.sl (M48.next + 1) 0 1 1 none) M73) fun y74 => bindO (eSt tb 112 (.ptr M14.next 6) y74.1 y74.2) fun y75 => ∃ k76 : Nat, k76 < n47 ∧
  (J44 (iAdd .i64 z46 1) k76 y75.2)))))) (Q (.ptr M14.next 0) M48)))))))
def an15 : An := (.seq (.reg []) (.seq (.seq (.reg [.agg [.int .i64, .int .i64, .int .i64, .int .i64, .int .i64], .non, .bool, .bool]) (.cnd (.seq (.reg []) .z) .z)) (.seq (.opn [(1, []), (0, []), (2, [0]), (3, []), (4, []), (5, [])] [0, 0, 0, 0, 0, 0] [[], [], [0]] 1 [.non, .agg [.int .i64, .int .i64, .int .i64, .int .i64, .int .i64], .non, .agg [.int .i64, .int .i64, .int .i64, .int .i64, .int .i64, .any, .any, .bool, .int .i64, .int .i64, .int .i64, .int .i64, .int .u8, .int .i64], .non, .non]) (.seq (.seq (.reg [.ptr, .int .i64]) (.blk (.lop [(17, .int .i64)] [18, 19, 20, 21, 22, 23, 24, 25, 26, 27, 28, 29, 30, 31, 32, 33, 34, 35, 36] (.seq (.reg [.bool]) (.seq (.cnd .z .z) (.seq (.blk (.opn [(0, []), (1, []), (2, []), (3, []), (6, []), (4, []), (7, []), (8, []), (9, [4, 7]), (10, []), (5, []), (11, [4]), (12, []), (13, []), (14, []), (15, []), (16, []), (17, [])] [0, 0, 0, 0, 0, 0, 0, 0, 0, 0, 0, 0, 0, 1, 0, 0, 0, 0] [[], [], [], [], [], [], [], [], [], [4, 7], [], [4]] 2 [.non, .non, .non, .ptr, .ptr, .non, .int .i64, .agg [.int .i64, .int .i64, .int .i64, .int .i64, .int .i64], .int .i64, .int .i64, .non, .non, .agg [.any, .int .i64, .int .i64, .int .i64], .non, .non, .non, .ptr, .non])) (.reg [.int .i64]))))))) (.seq (.reg []) .z)))))
theorem fn15 : tb.fn.get 15 = some Try.f15 := by kernel_rfl
theorem an15_ok : anB tb Try.f15.ntmps an15 (bodyOf Try.f15) = true := by kernel_rfl
theorem F15_eq : (fun (a0 a1 : AV) (M : Mem) (Q : AV → Mem → Prop) => zCs [.a [.int .i64, .int .i64, .int .i64, .int .i64, .int .i64], .l .any] [a0, a1] fun args => wZ tb an15 (bodyOf Try.f15) (enterA Try.f15 args M) (retQ tb Try.f15 Q)) = fun (a0 a1 : AV) (M : Mem) (Q : AV → Mem → Prop) => F15 a0 a1 M Q := by kernel_rfl
theorem F15_ok {a0 a1 : AV} {M : Mem} {Q : AV → Mem → Prop} (h : F15 a0 a1 M Q) : CallA tb.P 15 [a0, a1] M Q :=
  calla_wZ tb_ok tb_mix fn15 (c := bodyOf Try.f15) rfl an15_ok (ks := [.a [.int .i64, .int .i64, .int .i64, .int .i64, .int .i64], .l .any]) (cast (congrFun (congrFun (congrFun (congrFun F15_eq a0) a1) M) Q).symm h)

def F16 (a0 : AV) (M : Mem) (Q : AV → Mem → Prop) : Prop :=
  ∃ (z1 : Int) (z2 : Int) (z3 : Int) (z4 : Int) (z5 : Int), a0 = (.agg [(.val (.int .i64 z1)), (.val (.int .i64 z2)), (.val (.int .i64 z3)), (.val (.int .i64 z4)), (.val (.int .i64 z5))]) ∧
  letP (M.new (.cells [(.val (.int .i64 z1)), (.val (.int .i64 z2)), (.val (.int .i64 z3)), (.val (.int .i64 z4)), (.val (.int .i64 z5))] true)) fun M6 => letP (fun (b41 : Bool) (M42 : Mem) => Q (.val (.bool b41)) M42) fun K43 => bindO (eLd tb 3 (.ptr M.next 0) M6) fun y7 => zI .i64 y7.1 fun z8 => CallA tb.P 66 [(.val (.int .i64 z8)), (.val (.int .i64 8)), (.val (.int .i64 20))] M6 fun y9 M10 => zB y9 fun b11 => condB (b11) (bindO (eLd tb 3 (.ptr M.next 1) M10) fun y12 => zI .i64 y12.1 fun z13 => CallA tb.P 66 [(.val (.int .i64 z13)), (.val (.int .i64 4)), (.val (.int .i64 8))] M10 fun y14 M15 => zB y14 fun b16 => condB (b16) (bindO (eLd tb 3 (.ptr M.next 2) M15) fun y17 => zI .i64 y17.1 fun z18 => CallA tb.P 66 [(.val (.int .i64 z18)), (.val (.int .i64 24)), (.val (.int .i64 64))] M15 fun y19 M20 => zB y19 fun b21 => condB (b21) (bindO (eLd tb 3 (.ptr M.next 3) M20) fun y22 => zI .i64 y22.1 fun z23 => CallA tb.P 66 [(.val (.int .i64 z23)), (.val (.int .i64 0)), (.val (.int .i64 4))] M20 fun y24 M25 => zB y24 fun b26 => condB (b26) (bindO (eLd tb 3 (.ptr M.next 4) M25) fun y27 => zI .i64 y27.1 fun z28 => CallA tb.P 66 [(.val (.int .i64 z28)), (.val (.int .i64 2)), (.val (.int .i64 20))] M25 fun y29 M30 => zB y29 fun b31 => condB (b31) (bindO (eLd tb 23 (.ptr M.next 0) M30) fun y32 => ∃ (z33 : Int) (z34 : Int) (z35 : Int) (z36 : Int) (z37 : Int), y32.1 =
  (.agg [(.val (.int .i64 z33)), (.val (.int .i64 z34)), (.val (.int .i64 z35)), (.val (.int .i64 z36)), (.val (.int .i64 z37))]) ∧
  (CallA tb.P 67 [(.agg [(.val (.int .i64 z33)), (.val (.int .i64 z34)), (.val (.int .i64 z35)), (.val (.int .i64 z36)), (.val (.int .i64 z37))])] M30 fun y38 M39 => zI .i64 y38 fun z40 => K43 (decide (z40 ≥ (4 : Int))) M39)) (K43 false M30)) (K43 false M25)) (K43 false M20)) (K43 false M15)) (K43 false M10)
def an16 : An := (.seq (.reg []) (.seq (.reg [.ptr, .int .i64, .bool, .spl, .ptr, .int .i64, .bool, .non, .spl, .ptr, .int .i64, .bool, .non, .spl, .ptr, .int .i64, .bool, .non, .spl, .ptr, .int .i64, .bool, .non, .spl, .agg [.int .i64, .int .i64, .int .i64, .int .i64, .int .i64], .int .i64, .bool]) .z))
theorem fn16 : tb.fn.get 16 = some Try.f16 := by kernel_rfl
theorem an16_ok : anB tb Try.f16.ntmps an16 (bodyOf Try.f16) = true := by kernel_rfl
theorem F16_eq : (fun (a0 : AV) (M : Mem) (Q : AV → Mem → Prop) => zCs [.a [.int .i64, .int .i64, .int .i64, .int .i64, .int .i64]] [a0] fun args => wZ tb an16 (bodyOf Try.f16) (enterA Try.f16 args M) (retQ tb Try.f16 Q)) = fun (a0 : AV) (M : Mem) (Q : AV → Mem → Prop) => F16 a0 M Q := by kernel_rfl
theorem F16_ok {a0 : AV} {M : Mem} {Q : AV → Mem → Prop} (h : F16 a0 M Q) : CallA tb.P 16 [a0] M Q :=
  calla_wZ tb_ok tb_mix fn16 (c := bodyOf Try.f16) rfl an16_ok (ks := [.a [.int .i64, .int .i64, .int .i64, .int .i64, .int .i64]]) (cast (congrFun (congrFun (congrFun F16_eq a0) M) Q).symm h)

def F18 (a0 a1 : AV) (M : Mem) (Q : AV → Mem → Prop) : Prop :=
  zI .i64 a0 fun z1 => zI .i64 a1 fun z2 => bindO (eBin tb .rem 119 (.tmp 6) (.tmp 8) (.val (.int .u64 (IntKind.wrap .u64 z1))) (.val (.int .u64 (IntKind.wrap .u64 z2))) M) fun y3 => zI .u64 y3.1 fun z4 => Q (.val (.int .i64 (IntKind.wrap .i64 z4))) M
def an18 : An := (.seq (.reg []) (.seq (.reg [.non, .int .u64, .non, .int .u64, .int .u64, .int .i64]) .z))
theorem fn18 : tb.fn.get 18 = some Try.f18 := by kernel_rfl
theorem an18_ok : anB tb Try.f18.ntmps an18 (bodyOf Try.f18) = true := by kernel_rfl
theorem F18_eq : (fun (a0 a1 : AV) (M : Mem) (Q : AV → Mem → Prop) => zCs [.l (.int .i64), .l (.int .i64)] [a0, a1] fun args => wZ tb an18 (bodyOf Try.f18) (enterA Try.f18 args M) (retQ tb Try.f18 Q)) = fun (a0 a1 : AV) (M : Mem) (Q : AV → Mem → Prop) => F18 a0 a1 M Q := by kernel_rfl
theorem F18_ok {a0 a1 : AV} {M : Mem} {Q : AV → Mem → Prop} (h : F18 a0 a1 M Q) : CallA tb.P 18 [a0, a1] M Q :=
  calla_wZ tb_ok tb_mix fn18 (c := bodyOf Try.f18) rfl an18_ok (ks := [.l (.int .i64), .l (.int .i64)]) (cast (congrFun (congrFun (congrFun (congrFun F18_eq a0) a1) M) Q).symm h)

def F19 (a0 a1 a2 : AV) (M : Mem) (Q : AV → Mem → Prop) : Prop :=
  ∃ (z1 : Int) (z2 : Int), a1 = (.agg [(.val (.int .i64 z1)), (.val (.int .i64 z2))]) ∧
  letP (M.new (.cells [(.val (.int .i64 z1)), (.val (.int .i64 z2))] true)) fun M3 => bindO (eLd tb 30 (.ptr M.next 0) M3) fun y4 => ∃ (z5 : Int) (z6 : Int), y4.1 =
  (.agg [(.val (.int .i64 z5)), (.val (.int .i64 z6))]) ∧ (CallA tb.P 69 [a0, (.agg [(.val (.int .i64 z5)), (.val (.int .i64 z6))])] M3 fun y7 M8 => zI .i64 y7 fun z9 => condB (z9 !=
  (0 : Int)) (Q (.val (.int .i64 z9)) M8) (bindO (eLen tb false 33 a2 M8) fun y10 => zI .i64 y10.1 fun z11 => bindO (eNil a0 M8) fun y12 => bindO (eFA tb 114 y12.1 0 M8) fun y13 => zP y13.1 fun p14 o15 => bindO (eLd tb 23 (.ptr p14 o15) M8) fun y16 => ∃ (z17 : Int) (z18 : Int) (z19 : Int) (z20 : Int) (z21 : Int), y16.1 =
  (.agg [(.val (.int .i64 z17)), (.val (.int .i64 z18)), (.val (.int .i64 z19)), (.val (.int .i64 z20)), (.val (.int .i64 z21))]) ∧
  (CallA tb.P 65 [(.agg [(.val (.int .i64 z17)), (.val (.int .i64 z18)), (.val (.int .i64 z19)), (.val (.int .i64 z20)), (.val (.int .i64 z21))])] M8 fun y22 M23 => zI .i64 y22 fun z24 => condB (z11 !=
  z24) (Q (.val (.int .i64 2)) M23) (bindO (eNil a0 M23) fun y25 => bindO (eFA tb 114 y25.1 2 M23) fun y26 => zP y26.1 fun p27 o28 => bindO (eLd tb 112 (.ptr p27 o28) M23) fun y29 => bindO (eLd tb 3 (.ptr M.next 0) M23) fun y30 => zI .i64 y30.1 fun z31 => bindO (eIA tb 112 y29.1 (.val (.int .i64 z31)) M23) fun y32 => zP y32.1 fun p33 o34 => CallA tb.P 70 [a0] M23 fun y35 M36 => zB y35 fun b37 => letP (fun (z83 : Int) (M84 : Mem) => condB (b37) (Q (.val (.int .i64 9)) M84) (Q (.val (.int .i64 z83)) M84)) fun K85 => bindO (eLd tb 3 (.ptr M.next 0) M36) fun y38 => zI .i64 y38.1 fun z39 => CallA tb.P 31 [a0, (.val (.int .i64 z39))] M36 fun y40 M41 => zB y40 fun b42 => condB (b42) (K85 (10 : Int) M41) (bindO (eLd tb 3 (.ptr M.next 1) M41) fun y43 => zI .i64 y43.1 fun z44 => bindO (eLd tb 3 (.ptr p33 (o34 + 1)) M41) fun y45 => zI .i64 y45.1 fun z46 => condB (z44 !=
  z46) (K85 (11 : Int) M41) (condB (b37) (bindO (eNil a0 M41) fun y47 => bindO (eFA tb 114 y47.1 6 M41) fun y48 => zP y48.1 fun p49 o50 => bindO (eLd tb 30 (.ptr M.next 0) M41) fun y51 => ∃ (z52 : Int) (z53 : Int), y51.1 =
  (.agg [(.val (.int .i64 z52)), (.val (.int .i64 z53))]) ∧
  (bindO (eLd tb 3 (.ptr p49 (o50 + 1)) M41) fun y54 => zI .i64 y54.1 fun z55 => bindO (eLen tb false 33 a2 M41) fun y56 => zI .i64 y56.1 fun z57 => bindO (eMin tb #[3, 3] 3 [.int .i64 z55, .int .i64 z57] M41) fun y58 => zI .i64 y58.1 fun z59 => bindO (eSl tb 33 a2 none (some (.val (.int .i64 z59))) none M41) fun y60 => CallA tb.P 71 [a0, (.agg [(.val (.int .i64 z52)), (.val (.int .i64 z53))])] M41 fun y61 M62 => (bindO (eLd tb 3 (.ptr p49 (o50 + 1)) M62) fun y63 => (some (.val (.int .i64 z55)) : Option AV) =
  some y63.1) ∧ (bindO (eLen tb false 33 a2 M62) fun y64 => (some (.val (.int .i64 z57)) : Option AV) = some y64.1) ∧
  (bindO (evCopy tb 33 y61 y60.1 M62) fun y65 => zI .i64 y65.1 fun z66 => bindO (eLd tb 3 (.ptr p33 (o34 + 1)) y65.2) fun y67 => zI .i64 y67.1 fun z68 => bindO (eSt tb 3 (.ptr p33 (o34 + 1)) (.val (.int .i64 (iAdd .i64 z68 1))) y65.2) fun y69 => K85 (0 : Int) y69.2))) (bindO (eLd tb 30 (.ptr M.next 0) M41) fun y70 => ∃ (z71 : Int) (z72 : Int), y70.1 =
  (.agg [(.val (.int .i64 z71)), (.val (.int .i64 z72))]) ∧
  (CallA tb.P 71 [a0, (.agg [(.val (.int .i64 z71)), (.val (.int .i64 z72))])] M41 fun y73 M74 => bindO (evCopy tb 33 y73 a2 M74) fun y75 => zI .i64 y75.1 fun z76 => bindO (eLd tb 3 (.ptr p33 (o34 + 1)) y75.2) fun y77 => zI .i64 y77.1 fun z78 => bindO (eSt tb 3 (.ptr p33 (o34 + 1)) (.val (.int .i64 (iAdd .i64 z78 1))) y75.2) fun y79 => bindO (eLd tb 3 (.ptr p33 (o34 + 3)) y79.2) fun y80 => zI .i64 y80.1 fun z81 => bindO (eSt tb 3 (.ptr p33 (o34 + 3)) (.val (.int .i64 (iAdd .i64 z81 1))) y79.2) fun y82 => K85 (0 : Int) y82.2))))))))
def an19 : An := (.seq (.reg []) (.seq (.seq (.reg [.non, .agg [.int .i64, .int .i64], .int .i64]) (.seq (.reg [.non, .bool]) (.cnd (.seq (.reg []) .z) .z))) (.seq (.seq (.reg [.non, .int .i64, .non, .non, .ptr, .agg [.int .i64, .int .i64, .int .i64, .int .i64, .int .i64], .int .i64, .bool]) (.cnd (.seq (.reg []) .z) .z)) (.seq (.opn [(0, []), (1, []), (2, []), (4, []), (3, []), (5, []), (6, []), (7, [])] [] [] 0 [.non, .non, .ptr, .ptr, .non, .int .i64, .ptr, .non]) (.seq (.reg [.non, .bool]) (.seq (.reg []) (.seq (.blk (.seq (.reg [.non, .ptr, .int .i64, .bool]) (.cnd (.reg []) (.seq (.opn [(0, []), (2, []), (3, []), (4, []), (1, []), (5, []), (6, []), (7, [])] [] [] 0 [.ptr, .non, .non, .ptr, .int .i64, .int .i64, .bool, .non]) (.cnd (.reg []) (.seq (.reg []) (.cnd (.seq (.opn [(0, []), (3, []), (4, []), (5, []), (6, []), (7, []), (9, []), (1, []), (8, []), (10, []), (11, []), (12, []), (2, [8, 10]), (13, [])] [] [[], [], [8, 10]] 0 [.non, .non, .non, .non, .ptr, .ptr, .non, .agg [.int .i64, .int .i64], .int .i64, .int .i64, .int .i64, .non, .non, .int .i64]) (.reg [.non, .non, .ptr, .int .i64, .int .i64, .non, .ptr])) (.seq (.reg [.non, .agg [.int .i64, .int .i64], .non, .non, .int .i64]) (.seq (.reg [.non, .non, .ptr, .int .i64, .int .i64, .non, .ptr]) (.reg [.non, .non, .ptr, .int .i64, .int .i64, .non, .ptr])))))))))) (.seq (.seq (.reg []) (.cnd (.seq (.reg []) .z) .z)) (.seq (.reg []) .z)))))))))
theorem fn19 : tb.fn.get 19 = some Try.f19 := by kernel_rfl
theorem an19_ok : anB tb Try.f19.ntmps an19 (bodyOf Try.f19) = true := by kernel_rfl
theorem F19_eq : (fun (a0 a1 a2 : AV) (M : Mem) (Q : AV → Mem → Prop) => zCs [.l .any, .a [.int .i64, .int .i64], .l .any] [a0, a1, a2] fun args => wZ tb an19 (bodyOf Try.f19) (enterA Try.f19 args M) (retQ tb Try.f19 Q)) = fun (a0 a1 a2 : AV) (M : Mem) (Q : AV → Mem → Prop) => F19 a0 a1 a2 M Q := by kernel_rfl
theorem F19_ok {a0 a1 a2 : AV} {M : Mem} {Q : AV → Mem → Prop} (h : F19 a0 a1 a2 M Q) : CallA tb.P 19 [a0, a1, a2] M Q :=
  calla_wZ tb_ok tb_mix fn19 (c := bodyOf Try.f19) rfl an19_ok (ks := [.l .any, .a [.int .i64, .int .i64], .l .any]) (cast (congrFun (congrFun (congrFun (congrFun (congrFun F19_eq a0) a1) a2) M) Q).symm h)

def F21 (a0 a1 : AV) (M : Mem) (Q : AV → Mem → Prop) : Prop :=
  ∃ (z1 : Int) (z2 : Int), a1 = (.agg [(.val (.int .i64 z1)), (.val (.int .i64 z2))]) ∧
  letP (M.new (.cells [(.val (.int .i64 z1)), (.val (.int .i64 z2))] true)) fun M3 => bindO (eLd tb 30 (.ptr M.next 0) M3) fun y4 => ∃ (z5 : Int) (z6 : Int), y4.1 =
  (.agg [(.val (.int .i64 z5)), (.val (.int .i64 z6))]) ∧ (CallA tb.P 69 [a0, (.agg [(.val (.int .i64 z5)), (.val (.int .i64 z6))])] M3 fun y7 M8 => zI .i64 y7 fun z9 => condB (z9 !=
  (0 : Int)) (Q (.tup [(.val (.slice none 0 0)), (.val (.int .i64 z9))]) M8) (CallA tb.P 70 [a0] M8 fun y10 M11 => zB y10 fun b12 => condB (b12) (Q (.tup [(.val (.slice none 0 0)), (.val (.int .i64 9))]) M11) (bindO (eLd tb 30 (.ptr M.next 0) M11) fun y13 => ∃ (z14 : Int) (z15 : Int), y13.1 =
  (.agg [(.val (.int .i64 z14)), (.val (.int .i64 z15))]) ∧
  (CallA tb.P 71 [a0, (.agg [(.val (.int .i64 z14)), (.val (.int .i64 z15))])] M11 fun y16 M17 => CallA tb.P 72 [y16] M17 fun y18 M19 => Q (.tup [y18, (.val (.int .i64 0))]) M19))))
def an21 : An := (.seq (.reg []) (.seq (.seq (.reg [.non, .agg [.int .i64, .int .i64], .int .i64]) (.seq (.reg [.non, .bool]) (.cnd (.seq (.reg []) .z) .z))) (.seq (.seq (.reg [.non, .bool]) (.cnd (.seq (.reg []) .z) .z)) (.seq (.reg [.non, .agg [.int .i64, .int .i64]]) .z))))
theorem fn21 : tb.fn.get 21 = some Try.f21 := by kernel_rfl
theorem an21_ok : anB tb Try.f21.ntmps an21 (bodyOf Try.f21) = true := by kernel_rfl
theorem F21_eq : (fun (a0 a1 : AV) (M : Mem) (Q : AV → Mem → Prop) => zCs [.l .any, .a [.int .i64, .int .i64]] [a0, a1] fun args => wZ tb an21 (bodyOf Try.f21) (enterA Try.f21 args M) (retQ tb Try.f21 Q)) = fun (a0 a1 : AV) (M : Mem) (Q : AV → Mem → Prop) => F21 a0 a1 M Q := by kernel_rfl
theorem F21_ok {a0 a1 : AV} {M : Mem} {Q : AV → Mem → Prop} (h : F21 a0 a1 M Q) : CallA tb.P 21 [a0, a1] M Q :=
  calla_wZ tb_ok tb_mix fn21 (c := bodyOf Try.f21) rfl an21_ok (ks := [.l .any, .a [.int .i64, .int .i64]]) (cast (congrFun (congrFun (congrFun (congrFun F21_eq a0) a1) M) Q).symm h)

def F22 (a0 a1 : AV) (M : Mem) (Q : AV → Mem → Prop) : Prop :=
  bindO (eLen tb false 33 a0 M) fun y1 => zI .i64 y1.1 fun z2 => bindO (eLen tb false 33 a1 M) fun y3 => zI .i64 y3.1 fun z4 => condB (z2 !=
  z4) (Q (.val (.bool false)) M) (∃ J5 : Int → Nat → Mem → Prop, (∃ n6 : Nat, J5 (0 : Int) n6 M) ∧ ∀ (_ : Nat → Option AV) (z7 : Int) (n8 : Nat) (M9 : Mem), J5 z7 n8 M9 →
  (bindO (eLen tb false 33 a0 M9) fun y10 => zI .i64 y10.1 fun z11 => condB (decide (z7 < z11)) (bindO (eIA tb 33 a0 (.val (.int .i64 z7)) M9) fun y12 => zP y12.1 fun p13 o14 => bindO (eIA tb 33 a1 (.val (.int .i64 z7)) M9) fun y15 => zP y15.1 fun p16 o17 => bindO (eLd tb 5 (.ptr p13 o14) M9) fun y18 => zI .u8 y18.1 fun z19 => bindO (eLd tb 5 (.ptr p16 o17) M9) fun y20 => zI .u8 y20.1 fun z21 => condB (z19 !=
  z21) (Q (.val (.bool false)) M9) (∃ k22 : Nat, k22 < n8 ∧ (J5 (iAdd .i64 z7 1) k22 M9))) (Q (.val (.bool true)) M9)))
def an22 : An := (.seq (.reg []) (.seq (.seq (.reg [.non, .int .i64, .non, .int .i64, .bool]) (.cnd (.seq (.reg []) .z) .z)) (.seq (.seq (.reg []) (.blk (.lop [(5, .int .i64)] [4, 11, 12, 13, 14, 15, 16, 17, 18, 19, 20, 21, 22, 23, 24, 25] (.seq (.seq (.reg [.non, .non, .int .i64, .bool]) (.cnd .z .z)) (.seq (.blk (.seq (.opn [(0, []), (1, []), (2, []), (4, []), (5, []), (6, []), (3, []), (7, []), (8, [])] [] [] 0 [.non, .non, .ptr, .non, .non, .ptr, .int .u8, .int .u8, .bool]) (.cnd (.seq (.reg []) .z) .z))) (.reg [.non, .int .i64])))))) (.seq (.reg []) .z))))
theorem fn22 : tb.fn.get 22 = some Try.f22 := by kernel_rfl
theorem an22_ok : anB tb Try.f22.ntmps an22 (bodyOf Try.f22) = true := by kernel_rfl
theorem F22_eq : (fun (a0 a1 : AV) (M : Mem) (Q : AV → Mem → Prop) => zCs [.l .any, .l .any] [a0, a1] fun args => wZ tb an22 (bodyOf Try.f22) (enterA Try.f22 args M) (retQ tb Try.f22 Q)) = fun (a0 a1 : AV) (M : Mem) (Q : AV → Mem → Prop) => F22 a0 a1 M Q := by kernel_rfl
theorem F22_ok {a0 a1 : AV} {M : Mem} {Q : AV → Mem → Prop} (h : F22 a0 a1 M Q) : CallA tb.P 22 [a0, a1] M Q :=
  calla_wZ tb_ok tb_mix fn22 (c := bodyOf Try.f22) rfl an22_ok (ks := [.l .any, .l .any]) (cast (congrFun (congrFun (congrFun (congrFun F22_eq a0) a1) M) Q).symm h)

def F25 (a0 a1 : AV) (M : Mem) (Q : AV → Mem → Prop) : Prop :=
  zI .i64 a1 fun z1 => CallA tb.P 73 [a0, (.val (.int .i64 z1))] M fun y2 M3 => ∃ (x4 : AV) (z5 : Int) (z6 : Int) (z7 : Int), y2 =
  (.agg [x4, (.val (.int .i64 z5)), (.val (.int .i64 z6)), (.val (.int .i64 z7))]) ∧ (Q (.val (.int .i64 z6)) M3)
def an25 : An := (.seq (.reg []) (.seq (.reg [.non, .non, .agg [.any, .int .i64, .int .i64, .int .i64], .int .i64]) .z))
theorem fn25 : tb.fn.get 25 = some Try.f25 := by kernel_rfl
theorem an25_ok : anB tb Try.f25.ntmps an25 (bodyOf Try.f25) = true := by kernel_rfl
theorem F25_eq : (fun (a0 a1 : AV) (M : Mem) (Q : AV → Mem → Prop) => zCs [.l .any, .l (.int .i64)] [a0, a1] fun args => wZ tb an25 (bodyOf Try.f25) (enterA Try.f25 args M) (retQ tb Try.f25 Q)) = fun (a0 a1 : AV) (M : Mem) (Q : AV → Mem → Prop) => F25 a0 a1 M Q := by kernel_rfl
theorem F25_ok {a0 a1 : AV} {M : Mem} {Q : AV → Mem → Prop} (h : F25 a0 a1 M Q) : CallA tb.P 25 [a0, a1] M Q :=
  calla_wZ tb_ok tb_mix fn25 (c := bodyOf Try.f25) rfl an25_ok (ks := [.l .any, .l (.int .i64)]) (cast (congrFun (congrFun (congrFun (congrFun F25_eq a0) a1) M) Q).symm h)

def F26 (a0 a1 : AV) (M : Mem) (Q : AV → Mem → Prop) : Prop :=
  ∃ (z1 : Int) (z2 : Int) (z3 : Int), a1 = (.agg [(.val (.int .i64 z1)), (.val (.int .i64 z2)), (.val (.int .u8 z3))]) ∧
  letP (M.new (.cells [(.val (.int .i64 z1)), (.val (.int .i64 z2)), (.val (.int .u8 z3))] true)) fun M4 => bindO (eBin tb .eql 24 (.tmp 6) (.const (.pointer none)) a0 (.val (.pointer none)) M4) fun y5 => zB y5.1 fun b6 => condB (b6) (Q (.val (.int .i64 1)) M4) (bindO (eNil a0 M4) fun y7 => bindO (eFA tb 114 y7.1 3 M4) fun y8 => zP y8.1 fun p9 o10 => bindO (eLd tb 4 (.ptr p9 o10) M4) fun y11 => zB y11.1 fun b12 => condB (b12) (Q (.val (.int .i64 9)) M4) (letP (fun (b21 : Bool) => condB (b21) (Q (.val (.int .i64 2)) M4) (bindO (eNil a0 M4) fun y23 => bindO (eFA tb 114 y23.1 4 M4) fun y24 => zP y24.1 fun p25 o26 => bindO (eLd tb 42 (.ptr M.next 0) M4) fun y27 => ∃ (z28 : Int) (z29 : Int) (z30 : Int), y27.1 =
  (.agg [(.val (.int .i64 z28)), (.val (.int .i64 z29)), (.val (.int .u8 z30))]) ∧
  (bindO (eLd tb 3 (.ptr p25 o26) M4) fun y31 => zI .i64 y31.1 fun z32 => bindO (eNil a0 M4) fun y33 => bindO (eFA tb 114 y33.1 6 M4) fun y34 => zP y34.1 fun p35 o36 => bindO (eLd tb 3 (.ptr M.next 0) M4) fun y37 => zI .i64 y37.1 fun z38 => bindO (eSt tb 42 (.ptr p35 o36) (.agg [(.val (.int .i64 z28)), (.val (.int .i64 z29)), (.val (.int .u8 z30))]) M4) fun y39 => (bindO (eLd tb 3 (.ptr M.next 0) y39.2) fun y40 => (some (.val (.int .i64 z38)) : Option AV) =
  some y40.1) ∧
  (bindO (eNil a0 y39.2) fun y41 => bindO (eFA tb 114 y41.1 7 y39.2) fun y42 => zP y42.1 fun p43 o44 => bindO (eSt tb 3 (.ptr p43 o44) (.val (.int .i64 (iAdd .i64 z32 z38))) y39.2) fun y45 => Q (.val (.int .i64 0)) y45.2)))) fun K22 => bindO (eLd tb 3 (.ptr M.next 0) M4) fun y13 => zI .i64 y13.1 fun z14 => condB (decide (z14 < (1 : Int))) (K22 true) (bindO (eLd tb 3 (.ptr M.next 0) M4) fun y15 => zI .i64 y15.1 fun z16 => condB (decide (z16 > (1073741824 : Int))) (K22 true) (bindO (eLd tb 3 (.ptr M.next 1) M4) fun y17 => zI .i64 y17.1 fun z18 => condB (decide (z18 < (0 : Int))) (K22 true) (bindO (eLd tb 3 (.ptr M.next 1) M4) fun y19 => zI .i64 y19.1 fun z20 => K22 (decide (z20 > (1073741824 : Int))))))))
def an26 : An := (.seq (.reg []) (.seq (.blk (.seq (.reg [.non, .bool]) (.cnd (.seq (.reg []) .z) (.seq (.reg [.non, .non, .ptr, .bool]) (.cnd (.seq (.reg []) .z) (.seq (.reg [.ptr, .int .i64, .bool, .spl, .ptr, .int .i64, .bool, .non, .spl, .ptr, .int .i64, .bool, .non, .spl, .ptr, .int .i64, .bool]) (.cnd (.seq (.reg []) .z) .z))))))) (.seq (.opn [(0, []), (1, []), (3, []), (4, []), (5, []), (7, []), (2, []), (6, []), (10, []), (11, []), (8, []), (9, []), (12, [8]), (13, []), (14, []), (15, [])] [] [[], [], [], [], [], [], [], [], [], [], [], [], [8]] 0 [.non, .non, .non, .non, .ptr, .ptr, .agg [.int .i64, .int .i64, .int .u8], .int .i64, .non, .ptr, .int .i64, .int .i64, .non, .non, .ptr, .non]) (.seq (.reg []) .z))))
theorem fn26 : tb.fn.get 26 = some Try.f26 := by kernel_rfl
theorem an26_ok : anB tb Try.f26.ntmps an26 (bodyOf Try.f26) = true := by kernel_rfl
theorem F26_eq : (fun (a0 a1 : AV) (M : Mem) (Q : AV → Mem → Prop) => zCs [.l .any, .a [.int .i64, .int .i64, .int .u8]] [a0, a1] fun args => wZ tb an26 (bodyOf Try.f26) (enterA Try.f26 args M) (retQ tb Try.f26 Q)) = fun (a0 a1 : AV) (M : Mem) (Q : AV → Mem → Prop) => F26 a0 a1 M Q := by kernel_rfl
theorem F26_ok {a0 a1 : AV} {M : Mem} {Q : AV → Mem → Prop} (h : F26 a0 a1 M Q) : CallA tb.P 26 [a0, a1] M Q :=
  calla_wZ tb_ok tb_mix fn26 (c := bodyOf Try.f26) rfl an26_ok (ks := [.l .any, .a [.int .i64, .int .i64, .int .u8]]) (cast (congrFun (congrFun (congrFun (congrFun F26_eq a0) a1) M) Q).symm h)

def F27 (a0 : AV) (M : Mem) (Q : AV → Mem → Prop) : Prop :=
  letP (fun (b9 : Bool) => Q (.val (.bool b9)) M) fun K10 => bindO (eBin tb .neq 24 (.tmp 3) (.const (.pointer none)) a0 (.val (.pointer none)) M) fun y1 => zB y1.1 fun b2 => condB (b2) (bindO (eNil a0 M) fun y3 => bindO (eFA tb 114 y3.1 3 M) fun y4 => zP y4.1 fun p5 o6 => bindO (eLd tb 4 (.ptr p5 o6) M) fun y7 => zB y7.1 fun b8 => K10 (!b8)) (K10 false)
def an27 : An := (.seq (.reg []) (.seq (.reg [.non, .bool, .spl, .non, .non, .ptr, .bool, .bool]) .z))
theorem fn27 : tb.fn.get 27 = some Try.f27 := by kernel_rfl
theorem an27_ok : anB tb Try.f27.ntmps an27 (bodyOf Try.f27) = true := by kernel_rfl
theorem F27_eq : (fun (a0 : AV) (M : Mem) (Q : AV → Mem → Prop) => zCs [.l .any] [a0] fun args => wZ tb an27 (bodyOf Try.f27) (enterA Try.f27 args M) (retQ tb Try.f27 Q)) = fun (a0 : AV) (M : Mem) (Q : AV → Mem → Prop) => F27 a0 M Q := by kernel_rfl
theorem F27_ok {a0 : AV} {M : Mem} {Q : AV → Mem → Prop} (h : F27 a0 M Q) : CallA tb.P 27 [a0] M Q :=
  calla_wZ tb_ok tb_mix fn27 (c := bodyOf Try.f27) rfl an27_ok (ks := [.l .any]) (cast (congrFun (congrFun (congrFun F27_eq a0) M) Q).symm h)

def F30 (a0 : AV) (M : Mem) (Q : AV → Mem → Prop) : Prop :=
  bindO (eBin tb .eql 24 (.tmp 3) (.const (.pointer none)) a0 (.val (.pointer none)) M) fun y1 => zB y1.1 fun b2 => condB (b2) (Q (.val (.int .i64 0)) M) (bindO (eNil a0 M) fun y3 => bindO (eFA tb 114 y3.1 5 M) fun y4 => zP y4.1 fun p5 o6 => bindO (eLd tb 3 (.ptr p5 o6) M) fun y7 => zI .i64 y7.1 fun z8 => Q (.val (.int .i64 z8)) M)
def an30 : An := (.seq (.reg []) (.seq (.seq (.reg [.non, .bool]) (.cnd (.seq (.reg []) .z) .z)) (.seq (.reg [.non, .non, .ptr, .int .i64]) .z)))
theorem fn30 : tb.fn.get 30 = some Try.f30 := by kernel_rfl
theorem an30_ok : anB tb Try.f30.ntmps an30 (bodyOf Try.f30) = true := by kernel_rfl
theorem F30_eq : (fun (a0 : AV) (M : Mem) (Q : AV → Mem → Prop) => zCs [.l .any] [a0] fun args => wZ tb an30 (bodyOf Try.f30) (enterA Try.f30 args M) (retQ tb Try.f30 Q)) = fun (a0 : AV) (M : Mem) (Q : AV → Mem → Prop) => F30 a0 M Q := by kernel_rfl
theorem F30_ok {a0 : AV} {M : Mem} {Q : AV → Mem → Prop} (h : F30 a0 M Q) : CallA tb.P 30 [a0] M Q :=
  calla_wZ tb_ok tb_mix fn30 (c := bodyOf Try.f30) rfl an30_ok (ks := [.l .any]) (cast (congrFun (congrFun (congrFun F30_eq a0) M) Q).symm h)

def F31 (a0 a1 : AV) (M : Mem) (Q : AV → Mem → Prop) : Prop :=
  zI .i64 a1 fun z1 => letP (fun (b29 : Bool) (M30 : Mem) => Q (.val (.bool b29)) M30) fun K31 => bindO (eBin tb .neq 24 (.tmp 5) (.const (.pointer none)) a0 (.val (.pointer none)) M) fun y2 => zB y2.1 fun b3 => condB (b3) (condB (decide (z1 ≥ (0 : Int))) (bindO (eNil a0 M) fun y4 => bindO (eFA tb 114 y4.1 2 M) fun y5 => zP y5.1 fun p6 o7 => bindO (eLd tb 112 (.ptr p6 o7) M) fun y8 => bindO (eLen tb false 112 y8.1 M) fun y9 => zI .i64 y9.1 fun z10 => condB (decide (z1 < z10)) (bindO (eNil a0 M) fun y11 => bindO (eFA tb 114 y11.1 1 M) fun y12 => zP y12.1 fun p13 o14 => bindO (eNil a0 M) fun y15 => bindO (eFA tb 114 y15.1 2 M) fun y16 => zP y16.1 fun p17 o18 => bindO (eLd tb 54 (.ptr p13 o14) M) fun y19 => bindO (eLd tb 112 (.ptr p17 o18) M) fun y20 => bindO (eIA tb 112 y20.1 (.val (.int .i64 z1)) M) fun y21 => zP y21.1 fun p22 o23 => bindO (eLd tb 3 (.ptr p22 (o23 + 3)) M) fun y24 => zI .i64 y24.1 fun z25 => CallA tb.P 74 [y19.1, (.val (.int .i64 z1)), (.val (.int .i64 z25))] M fun y26 M27 => zB y26 fun b28 => K31 b28 M27) (K31 false M)) (K31 false M)) (K31 false M)
def an31 : An := (.seq (.reg []) (.seq (.opn [(0, []), (1, []), (2, []), (3, []), (4, []), (5, []), (6, []), (7, []), (8, []), (9, []), (10, []), (11, []), (12, []), (13, []), (14, []), (15, []), (16, []), (17, []), (18, []), (20, []), (21, []), (22, []), (23, []), (25, []), (19, []), (24, []), (26, []), (27, []), (28, []), (29, []), (30, []), (31, [])] [] [] 0 [.non, .bool, .spl, .non, .bool, .non, .spl, .non, .non, .non, .ptr, .non, .int .i64, .bool, .non, .spl, .non, .non, .ptr, .non, .non, .non, .ptr, .non, .non, .non, .ptr, .ptr, .int .i64, .bool, .non, .non]) .z))
theorem fn31 : tb.fn.get 31 = some Try.f31 := by kernel_rfl
theorem an31_ok : anB tb Try.f31.ntmps an31 (bodyOf Try.f31) = true := by kernel_rfl
theorem F31_eq : (fun (a0 a1 : AV) (M : Mem) (Q : AV → Mem → Prop) => zCs [.l .any, .l (.int .i64)] [a0, a1] fun args => wZ tb an31 (bodyOf Try.f31) (enterA Try.f31 args M) (retQ tb Try.f31 Q)) = fun (a0 a1 : AV) (M : Mem) (Q : AV → Mem → Prop) => F31 a0 a1 M Q := by kernel_rfl
theorem F31_ok {a0 a1 : AV} {M : Mem} {Q : AV → Mem → Prop} (h : F31 a0 a1 M Q) : CallA tb.P 31 [a0, a1] M Q :=
  calla_wZ tb_ok tb_mix fn31 (c := bodyOf Try.f31) rfl an31_ok (ks := [.l .any, .l (.int .i64)]) (cast (congrFun (congrFun (congrFun (congrFun F31_eq a0) a1) M) Q).symm h)

def F32 (a0 a1 : AV) (M : Mem) (Q : AV → Mem → Prop) : Prop :=
  zI .i64 a1 fun z1 => letP (fun (b12 : Bool) (M13 : Mem) => Q (.val (.bool b12)) M13) fun K14 => bindO (eBin tb .neq 24 (.tmp 5) (.const (.pointer none)) a0 (.val (.pointer none)) M) fun y2 => zB y2.1 fun b3 => condB (b3) (bindO (eNil a0 M) fun y4 => bindO (eFA tb 114 y4.1 1 M) fun y5 => zP y5.1 fun p6 o7 => bindO (eLd tb 54 (.ptr p6 o7) M) fun y8 => CallA tb.P 75 [y8.1, (.val (.int .i64 z1))] M fun y9 M10 => zB y9 fun b11 => K14 b11 M10) (K14 false M)
def an32 : An := (.seq (.reg []) (.seq (.reg [.non, .bool, .spl, .non, .non, .ptr, .non, .non, .bool]) .z))
theorem fn32 : tb.fn.get 32 = some Try.f32 := by kernel_rfl
theorem an32_ok : anB tb Try.f32.ntmps an32 (bodyOf Try.f32) = true := by kernel_rfl
theorem F32_eq : (fun (a0 a1 : AV) (M : Mem) (Q : AV → Mem → Prop) => zCs [.l .any, .l (.int .i64)] [a0, a1] fun args => wZ tb an32 (bodyOf Try.f32) (enterA Try.f32 args M) (retQ tb Try.f32 Q)) = fun (a0 a1 : AV) (M : Mem) (Q : AV → Mem → Prop) => F32 a0 a1 M Q := by kernel_rfl
theorem F32_ok {a0 a1 : AV} {M : Mem} {Q : AV → Mem → Prop} (h : F32 a0 a1 M Q) : CallA tb.P 32 [a0, a1] M Q :=
  calla_wZ tb_ok tb_mix fn32 (c := bodyOf Try.f32) rfl an32_ok (ks := [.l .any, .l (.int .i64)]) (cast (congrFun (congrFun (congrFun (congrFun F32_eq a0) a1) M) Q).symm h)

def F62 (a0 a1 : AV) (M : Mem) (Q : AV → Mem → Prop) : Prop :=
  ∃ (z1 : Int) (z2 : Int) (z3 : Int) (z4 : Int) (z5 : Int), a0 = (.agg [(.val (.int .i64 z1)), (.val (.int .i64 z2)), (.val (.int .i64 z3)), (.val (.int .i64 z4)), (.val (.int .i64 z5))]) ∧
  letP (M.new (.cells [(.val (.int .i64 z1)), (.val (.int .i64 z2)), (.val (.int .i64 z3)), (.val (.int .i64 z4)), (.val (.int .i64 z5))] true)) fun M6 => letP (fun (b18 : Bool) (M19 : Mem) => condB (b18) (Q (.val (.bool false)) M19) (bindO (eLen tb false 54 a1 M19) fun y21 => zI .i64 y21.1 fun z22 => ∃ J23 : Int → Nat → Mem → Prop, (∃ n24 : Nat, J23 (0 : Int) n24 M19) ∧
  ∀ (_ : Nat → Option AV) (z25 : Int) (n26 : Nat) (M27 : Mem), J23 z25 n26 M27 →
  (condB (decide (z25 < z22)) (bindO (eIA tb 54 a1 (.val (.int .i64 z25)) M27) fun y28 => zP y28.1 fun p29 o30 => bindO (eLd tb 53 (.ptr p29 o30) M27) fun y31 => ∃ (z32 : Int) (b33 : Bool) (z34 : Int), y31.1 =
  (.agg [(.val (.int .i64 z32)), (.val (.bool b33)), (.val (.int .i64 z34))]) ∧
  (letP (M27.new (.cells [(.val (.int .i64 0)), (.val (.bool false)), (.val (.int .i64 0))] true)) fun M35 => bindO (eSt tb 53 (.ptr M27.next 0) (.agg [(.val (.int .i64 z32)), (.val (.bool b33)), (.val (.int .i64 z34))]) M35) fun y36 => letP (⟨y36.2.next + 1, y36.2.rows⟩ : Mem) fun M37 => bindO (eSl tb 54 a1 none (some (.val (.int .i64 z25))) none M37) fun y38 => bindO (eLd tb 3 (.ptr M27.next 0) M37) fun y39 => zI .i64 y39.1 fun z40 => CallA tb.P 108 [y38.1, (.val (.int .i64 z40))] M37 fun y41 M42 => ∃ (z43 : Int) (b44 : Bool) (z45 : Int) (b46 : Bool), y41 =
  (.tup [(.agg [(.val (.int .i64 z43)), (.val (.bool b44)), (.val (.int .i64 z45))]), (.val (.bool b46))]) ∧
  (letP (M42.put y36.2.next (.cells [(.val (.int .i64 0)), (.val (.bool false)), (.val (.int .i64 0))] true)) fun M47 => bindO (eSt tb 53 (.ptr y36.2.next 0) (.agg [(.val (.int .i64 z43)), (.val (.bool b44)), (.val (.int .i64 z45))]) M47) fun y48 => letP (fun (b63 : Bool) => condB (b63) (Q (.val (.bool false)) y48.2) (∃ k65 : Nat, k65 < n26 ∧
  (J23 (iAdd .i64 z25 1) k65 y48.2))) fun K64 => condB (b46) (K64 true) (bindO (eLd tb 3 (.ptr M27.next 0) y48.2) fun y49 => zI .i64 y49.1 fun z50 => condB (decide (z50 < (0 : Int))) (K64 true) (bindO (eLd tb 3 (.ptr M27.next 0) y48.2) fun y51 => zI .i64 y51.1 fun z52 => bindO (eLd tb 3 (.ptr M.next 0) y48.2) fun y53 => zI .i64 y53.1 fun z54 => condB (decide (z52 ≥ z54)) (K64 true) (bindO (eLd tb 3 (.ptr M27.next 2) y48.2) fun y55 => zI .i64 y55.1 fun z56 => condB (decide (z56 < (0 : Int))) (K64 true) (bindO (eLd tb 3 (.ptr M27.next 2) y48.2) fun y57 => zI .i64 y57.1 fun z58 => condB (decide (z58 > (1073741824 : Int))) (K64 true) (bindO (eLd tb 4 (.ptr M27.next 1) y48.2) fun y59 => zB y59.1 fun b60 => condB (b60) (bindO (eLd tb 3 (.ptr M27.next 2) y48.2) fun y61 => zI .i64 y61.1 fun z62 => K64 (z62 !=
  (0 : Int))) (K64 false))))))))) (Q (.val (.bool true)) M27)))) fun K20 => bindO (eLd tb 23 (.ptr M.next 0) M6) fun y7 => ∃ (z8 : Int) (z9 : Int) (z10 : Int) (z11 : Int) (z12 : Int), y7.1 =
  (.agg [(.val (.int .i64 z8)), (.val (.int .i64 z9)), (.val (.int .i64 z10)), (.val (.int .i64 z11)), (.val (.int .i64 z12))]) ∧
  (CallA tb.P 102 [(.agg [(.val (.int .i64 z8)), (.val (.int .i64 z9)), (.val (.int .i64 z10)), (.val (.int .i64 z11)), (.val (.int .i64 z12))])] M6 fun y13 M14 => zB y13 fun b15 => condB (!b15) (K20 true M14) (bindO (eLen tb false 54 a1 M14) fun y16 => zI .i64 y16.1 fun z17 => K20 (decide (z17 > (8 : Int))) M14))
def an62 : An := (.seq (.reg []) (.seq (.seq (.reg [.agg [.int .i64, .int .i64, .int .i64, .int .i64, .int .i64], .bool, .bool, .spl, .non, .int .i64, .bool]) (.cnd (.seq (.reg []) .z) .z)) (.seq (.seq (.reg [.non, .int .i64]) (.blk (.lop [(19, .int .i64)] [4, 5, 6, 7, 8, 20, 21, 22, 23, 24, 25, 26, 27, 28, 29, 30, 31, 32, 33, 34, 35, 36, 37, 38, 39, 40, 41, 42, 43, 44, 45, 46, 47, 48, 49, 50, 51, 52, 53, 54, 55, 56, 57, 58, 59, 60, 61, 62, 63, 64, 65] (.seq (.reg []) (.seq (.cnd .z .z) (.seq (.blk (.seq (.reg [.non, .ptr, .agg [.int .i64, .bool, .int .i64]]) (.seq (.opn [(0, []), (1, []), (2, []), (3, []), (4, []), (5, []), (6, []), (7, []), (8, []), (9, []), (10, []), (11, [])] [0, 0, 0, 0, 0, 0, 0, 0, 0, 0, 0, 0] [] 1 [.non, .non, .non, .ptr, .int .i64, .tup [.a [.int .i64, .bool, .int .i64], .l .bool], .non, .non, .bool, .non, .non, .non]) (.seq (.reg [.non, .spl, .ptr, .int .i64, .bool, .non, .spl, .ptr, .int .i64, .ptr, .int .i64, .bool, .non, .spl, .ptr, .int .i64, .bool, .non, .spl, .ptr, .int .i64, .bool, .non, .spl, .ptr, .bool, .spl, .ptr, .int .i64, .bool]) (.cnd (.seq (.reg []) .z) .z))))) (.reg [.int .i64]))))))) (.seq (.reg []) .z))))
theorem fn62 : tb.fn.get 62 = some Try.f62 := by kernel_rfl
theorem an62_ok : anB tb Try.f62.ntmps an62 (bodyOf Try.f62) = true := by kernel_rfl
theorem F62_eq : (fun (a0 a1 : AV) (M : Mem) (Q : AV → Mem → Prop) => zCs [.a [.int .i64, .int .i64, .int .i64, .int .i64, .int .i64], .l .any] [a0, a1] fun args => wZ tb an62 (bodyOf Try.f62) (enterA Try.f62 args M) (retQ tb Try.f62 Q)) = fun (a0 a1 : AV) (M : Mem) (Q : AV → Mem → Prop) => F62 a0 a1 M Q := by kernel_rfl
theorem F62_ok {a0 a1 : AV} {M : Mem} {Q : AV → Mem → Prop} (h : F62 a0 a1 M Q) : CallA tb.P 62 [a0, a1] M Q :=
  calla_wZ tb_ok tb_mix fn62 (c := bodyOf Try.f62) rfl an62_ok (ks := [.a [.int .i64, .int .i64, .int .i64, .int .i64, .int .i64], .l .any]) (cast (congrFun (congrFun (congrFun (congrFun F62_eq a0) a1) M) Q).symm h)

def F63 (a0 : AV) (M : Mem) (Q : AV → Mem → Prop) : Prop :=
  bindO (eBin tb .eql 54 (.tmp 3) (.const (.slice none 0 0)) a0 (.val (.slice none 0 0)) M) fun y1 => zB y1.1 fun b2 => condB (b2) (Q (.val (.slice none 0 0)) M) (letP (M.new (.cells [] true)) fun M3 => bindO (evAppend tb 54 54 (.sl M.next 0 0 0 none) a0 M3) fun y4 => Q y4.1 y4.2)
def an63 : An := (.seq (.reg []) (.seq (.seq (.reg [.non, .bool]) (.cnd (.seq (.reg []) .z) .z)) (.seq (.reg []) .z)))
theorem fn63 : tb.fn.get 63 = some Try.f63 := by kernel_rfl
theorem an63_ok : anB tb Try.f63.ntmps an63 (bodyOf Try.f63) = true := by kernel_rfl
theorem F63_eq : (fun (a0 : AV) (M : Mem) (Q : AV → Mem → Prop) => zCs [.l .any] [a0] fun args => wZ tb an63 (bodyOf Try.f63) (enterA Try.f63 args M) (retQ tb Try.f63 Q)) = fun (a0 : AV) (M : Mem) (Q : AV → Mem → Prop) => F63 a0 M Q := by kernel_rfl
theorem F63_ok {a0 : AV} {M : Mem} {Q : AV → Mem → Prop} (h : F63 a0 M Q) : CallA tb.P 63 [a0] M Q :=
  calla_wZ tb_ok tb_mix fn63 (c := bodyOf Try.f63) rfl an63_ok (ks := [.l .any]) (cast (congrFun (congrFun (congrFun F63_eq a0) M) Q).symm h)

def F64 (a0 a1 : AV) (M : Mem) (Q : AV → Mem → Prop) : Prop :=
  zI .i64 a1 fun z1 => condB (decide (z1 < (0 : Int))) (False) (bindO (eLen tb false 33 a0 M) fun y2 => zI .i64 y2.1 fun z3 => CallA tb.P 109 [(.val (.int .u64 (IntKind.wrap .u64 z3))), (.val (.int .u64 (IntKind.wrap .u64 z1)))] M fun y4 M5 => ∃ (z6 : Int) (z7 : Int), y4 =
  (.tup [(.val (.int .u64 z6)), (.val (.int .u64 z7))]) ∧
  (letP (fun (b8 : Bool) => condB (b8) (False) (bindO (evMakeSlice tb 33 (.val (.int .i64 (IntKind.wrap .i64 z7))) (.val (.int .i64 (IntKind.wrap .i64 z7))) M5) fun y10 => bindO (evCopy tb 33 y10.1 a0 y10.2) fun y11 => zI .i64 y11.1 fun z12 => ∃ J13 : Int → Nat → Mem → Prop, (∃ n14 : Nat, J13 z12 n14 y11.2) ∧
  ∀ (_ : Nat → Option AV) (z15 : Int) (n16 : Nat) (M17 : Mem), J13 z15 n16 M17 →
  (bindO (eLen tb false 33 y10.1 M17) fun y18 => zI .i64 y18.1 fun z19 => condB (decide (z15 < z19)) (bindO (eSl tb 33 y10.1 (some (.val (.int .i64 z15))) none none M17) fun y20 => bindO (eSl tb 33 y10.1 none (some (.val (.int .i64 z15))) none M17) fun y21 => bindO (evCopy tb 33 y20.1 y21.1 M17) fun y22 => zI .i64 y22.1 fun z23 => ∃ k24 : Nat, k24 < n16 ∧
  (J13 (iAdd .i64 z15 z23) k24 y22.2)) (Q y10.1 M17)))) fun K9 => condB (decide (z6 > (0 : Int))) (K9 true) (K9 (decide (z7 > (9223372036854775807 : Int))))))
def an64 : An := (.seq (.reg []) (.seq (.seq (.reg [.non, .bool]) (.cnd (.reg []) .z)) (.seq (.reg [.non, .int .i64, .int .u64, .non, .int .u64, .tup [.l (.int .u64), .l (.int .u64)], .non, .int .u64, .int .u64]) (.seq (.seq (.reg [.non, .bool, .spl, .non, .bool]) (.cnd (.reg []) .z)) (.seq (.reg [.non, .int .i64]) (.seq (.reg [.non, .non, .int .i64]) (.seq (.blk (.lop [(8, .int .i64)] [34, 35, 36, 37, 38, 39, 40, 41, 42, 43, 44, 45, 46] (.seq (.seq (.reg [.non, .non, .int .i64, .bool]) (.cnd .z .z)) (.blk (.opn [(0, []), (1, []), (2, []), (3, []), (4, []), (5, []), (6, []), (7, []), (8, []), (9, [])] [] [] 0 [.non, .non, .non, .non, .non, .non, .non, .int .i64, .int .i64, .non]))))) (.seq (.reg []) .z))))))))
theorem fn64 : tb.fn.get 64 = some Try.f64 := by kernel_rfl
theorem an64_ok : anB tb Try.f64.ntmps an64 (bodyOf Try.f64) = true := by kernel_rfl
theorem F64_eq : (fun (a0 a1 : AV) (M : Mem) (Q : AV → Mem → Prop) => zCs [.l .any, .l (.int .i64)] [a0, a1] fun args => wZ tb an64 (bodyOf Try.f64) (enterA Try.f64 args M) (retQ tb Try.f64 Q)) = fun (a0 a1 : AV) (M : Mem) (Q : AV → Mem → Prop) => F64 a0 a1 M Q := by kernel_rfl
theorem F64_ok {a0 a1 : AV} {M : Mem} {Q : AV → Mem → Prop} (h : F64 a0 a1 M Q) : CallA tb.P 64 [a0, a1] M Q :=
  calla_wZ tb_ok tb_mix fn64 (c := bodyOf Try.f64) rfl an64_ok (ks := [.l .any, .l (.int .i64)]) (cast (congrFun (congrFun (congrFun (congrFun F64_eq a0) a1) M) Q).symm h)

def F65 (a0 : AV) (M : Mem) (Q : AV → Mem → Prop) : Prop :=
  ∃ (z1 : Int) (z2 : Int) (z3 : Int) (z4 : Int) (z5 : Int), a0 = (.agg [(.val (.int .i64 z1)), (.val (.int .i64 z2)), (.val (.int .i64 z3)), (.val (.int .i64 z4)), (.val (.int .i64 z5))]) ∧
  letP (M.new (.cells [(.val (.int .i64 z1)), (.val (.int .i64 z2)), (.val (.int .i64 z3)), (.val (.int .i64 z4)), (.val (.int .i64 z5))] true)) fun M6 => bindO (eLd tb 23 (.ptr M.next 0) M6) fun y7 => ∃ (z8 : Int) (z9 : Int) (z10 : Int) (z11 : Int) (z12 : Int), y7.1 =
  (.agg [(.val (.int .i64 z8)), (.val (.int .i64 z9)), (.val (.int .i64 z10)), (.val (.int .i64 z11)), (.val (.int .i64 z12))]) ∧
  (bindO (eLd tb 3 (.ptr M.next 2) M6) fun y13 => zI .i64 y13.1 fun z14 => bindO (eLd tb 23 (.ptr M.next 0) M6) fun y15 => ∃ (z16 : Int) (z17 : Int) (z18 : Int) (z19 : Int) (z20 : Int), y15.1 =
  (.agg [(.val (.int .i64 z16)), (.val (.int .i64 z17)), (.val (.int .i64 z18)), (.val (.int .i64 z19)), (.val (.int .i64 z20))]) ∧
  (CallA tb.P 110 [(.agg [(.val (.int .i64 z8)), (.val (.int .i64 z9)), (.val (.int .i64 z10)), (.val (.int .i64 z11)), (.val (.int .i64 z12))]), (.val (.int .i64 z14))] M6 fun y21 M22 => zI .i64 y21 fun z23 => (bindO (eLd tb 23 (.ptr M.next 0) M22) fun y24 => (some (.agg [(.val (.int .i64 z16)), (.val (.int .i64 z17)), (.val (.int .i64 z18)), (.val (.int .i64 z19)), (.val (.int .i64 z20))]) : Option AV) =
  some y24.1) ∧
  (CallA tb.P 110 [(.agg [(.val (.int .i64 z16)), (.val (.int .i64 z17)), (.val (.int .i64 z18)), (.val (.int .i64 z19)), (.val (.int .i64 z20))]), (.val (.int .i64 16))] M22 fun y25 M26 => zI .i64 y25 fun z27 => Q (.val (.int .i64 (iAdd .i64 z23 z27))) M26)))
def an65 : An := (.seq (.reg []) (.seq (.opn [(1, []), (0, []), (2, []), (4, []), (3, [4]), (5, []), (6, []), (7, [])] [] [[], [], [], [4]] 0 [.ptr, .agg [.int .i64, .int .i64, .int .i64, .int .i64, .int .i64], .int .i64, .agg [.int .i64, .int .i64, .int .i64, .int .i64, .int .i64], .int .i64, .int .i64, .int .i64, .non]) .z))
theorem fn65 : tb.fn.get 65 = some Try.f65 := by kernel_rfl
theorem an65_ok : anB tb Try.f65.ntmps an65 (bodyOf Try.f65) = true := by kernel_rfl
theorem F65_eq : (fun (a0 : AV) (M : Mem) (Q : AV → Mem → Prop) => zCs [.a [.int .i64, .int .i64, .int .i64, .int .i64, .int .i64]] [a0] fun args => wZ tb an65 (bodyOf Try.f65) (enterA Try.f65 args M) (retQ tb Try.f65 Q)) = fun (a0 : AV) (M : Mem) (Q : AV → Mem → Prop) => F65 a0 M Q := by kernel_rfl
theorem F65_ok {a0 : AV} {M : Mem} {Q : AV → Mem → Prop} (h : F65 a0 M Q) : CallA tb.P 65 [a0] M Q :=
  calla_wZ tb_ok tb_mix fn65 (c := bodyOf Try.f65) rfl an65_ok (ks := [.a [.int .i64, .int .i64, .int .i64, .int .i64, .int .i64]]) (cast (congrFun (congrFun (congrFun F65_eq a0) M) Q).symm h)

def F66 (a0 a1 a2 : AV) (M : Mem) (Q : AV → Mem → Prop) : Prop :=
  zI .i64 a0 fun z1 => zI .i64 a1 fun z2 => zI .i64 a2 fun z3 => letP (fun (b4 : Bool) => Q (.val (.bool b4)) M) fun K5 => condB (decide (z1 ≥ z2)) (K5 (decide (z1 ≤ z3))) (K5 false)
def an66 : An := (.seq (.reg []) (.seq (.reg [.non, .non, .bool, .spl, .non, .non, .bool]) .z))
theorem fn66 : tb.fn.get 66 = some Try.f66 := by kernel_rfl
theorem an66_ok : anB tb Try.f66.ntmps an66 (bodyOf Try.f66) = true := by kernel_rfl
theorem F66_eq : (fun (a0 a1 a2 : AV) (M : Mem) (Q : AV → Mem → Prop) => zCs [.l (.int .i64), .l (.int .i64), .l (.int .i64)] [a0, a1, a2] fun args => wZ tb an66 (bodyOf Try.f66) (enterA Try.f66 args M) (retQ tb Try.f66 Q)) = fun (a0 a1 a2 : AV) (M : Mem) (Q : AV → Mem → Prop) => F66 a0 a1 a2 M Q := by kernel_rfl
theorem F66_ok {a0 a1 a2 : AV} {M : Mem} {Q : AV → Mem → Prop} (h : F66 a0 a1 a2 M Q) : CallA tb.P 66 [a0, a1, a2] M Q :=
  calla_wZ tb_ok tb_mix fn66 (c := bodyOf Try.f66) rfl an66_ok (ks := [.l (.int .i64), .l (.int .i64), .l (.int .i64)]) (cast (congrFun (congrFun (congrFun (congrFun (congrFun F66_eq a0) a1) a2) M) Q).symm h)

def F67 (a0 : AV) (M : Mem) (Q : AV → Mem → Prop) : Prop :=
  ∃ (z1 : Int) (z2 : Int) (z3 : Int) (z4 : Int) (z5 : Int), a0 = (.agg [(.val (.int .i64 z1)), (.val (.int .i64 z2)), (.val (.int .i64 z3)), (.val (.int .i64 z4)), (.val (.int .i64 z5))]) ∧
  letP (M.new (.cells [(.val (.int .i64 z1)), (.val (.int .i64 z2)), (.val (.int .i64 z3)), (.val (.int .i64 z4)), (.val (.int .i64 z5))] true)) fun M6 => bindO (eLd tb 3 (.ptr M.next 0) M6) fun y7 => zI .i64 y7.1 fun z8 => bindO (eLd tb 3 (.ptr M.next 3) M6) fun y9 => zI .i64 y9.1 fun z10 => bindO (eLd tb 3 (.ptr M.next 1) M6) fun y11 => zI .i64 y11.1 fun z12 => bindO (eMax tb #[3, 3] 3 [.int .i64 (iSub .i64 (iMul .i64 (iSub .i64 (iSub .i64 z8 z10) 3) z12) 4), .int .i64 0] M6) fun y13 => zI .i64 y13.1 fun z14 => Q (.val (.int .i64 (iQuo .i64 z14 2))) M6
def an67 : An := (.seq (.reg []) (.seq (.reg [.ptr, .int .i64, .ptr, .int .i64, .int .i64, .int .i64, .ptr, .int .i64, .int .i64, .int .i64]) (.seq (.reg [.non, .int .i64, .int .i64]) .z)))
theorem fn67 : tb.fn.get 67 = some Try.f67 := by kernel_rfl
theorem an67_ok : anB tb Try.f67.ntmps an67 (bodyOf Try.f67) = true := by kernel_rfl
theorem F67_eq : (fun (a0 : AV) (M : Mem) (Q : AV → Mem → Prop) => zCs [.a [.int .i64, .int .i64, .int .i64, .int .i64, .int .i64]] [a0] fun args => wZ tb an67 (bodyOf Try.f67) (enterA Try.f67 args M) (retQ tb Try.f67 Q)) = fun (a0 : AV) (M : Mem) (Q : AV → Mem → Prop) => F67 a0 M Q := by kernel_rfl
theorem F67_ok {a0 : AV} {M : Mem} {Q : AV → Mem → Prop} (h : F67 a0 M Q) : CallA tb.P 67 [a0] M Q :=
  calla_wZ tb_ok tb_mix fn67 (c := bodyOf Try.f67) rfl an67_ok (ks := [.a [.int .i64, .int .i64, .int .i64, .int .i64, .int .i64]]) (cast (congrFun (congrFun (congrFun F67_eq a0) M) Q).symm h)

def F69 (a0 a1 : AV) (M : Mem) (Q : AV → Mem → Prop) : Prop :=
  ∃ (z1 : Int) (z2 : Int), a1 = (.agg [(.val (.int .i64 z1)), (.val (.int .i64 z2))]) ∧
  letP (M.new (.cells [(.val (.int .i64 z1)), (.val (.int .i64 z2))] true)) fun M3 => bindO (eBin tb .eql 24 (.tmp 6) (.const (.pointer none)) a0 (.val (.pointer none)) M3) fun y4 => zB y4.1 fun b5 => condB (b5) (Q (.val (.int .i64 1)) M3) (bindO (eNil a0 M3) fun y6 => bindO (eFA tb 114 y6.1 3 M3) fun y7 => zP y7.1 fun p8 o9 => bindO (eLd tb 4 (.ptr p8 o9) M3) fun y10 => zB y10.1 fun b11 => condB (b11) (Q (.val (.int .i64 9)) M3) (bindO (eNil a0 M3) fun y12 => bindO (eFA tb 114 y12.1 0 M3) fun y13 => zP y13.1 fun p14 o15 => bindO (eLd tb 23 (.ptr p14 o15) M3) fun y16 => ∃ (z17 : Int) (z18 : Int) (z19 : Int) (z20 : Int) (z21 : Int), y16.1 =
  (.agg [(.val (.int .i64 z17)), (.val (.int .i64 z18)), (.val (.int .i64 z19)), (.val (.int .i64 z20)), (.val (.int .i64 z21))]) ∧
  (bindO (eLd tb 30 (.ptr M.next 0) M3) fun y22 => ∃ (z23 : Int) (z24 : Int), y22.1 = (.agg [(.val (.int .i64 z23)), (.val (.int .i64 z24))]) ∧
  (CallA tb.P 111 [(.agg [(.val (.int .i64 z17)), (.val (.int .i64 z18)), (.val (.int .i64 z19)), (.val (.int .i64 z20)), (.val (.int .i64 z21))]), (.agg [(.val (.int .i64 z23)), (.val (.int .i64 z24))])] M3 fun y25 M26 => zI .i64 y25 fun z27 => condB (decide (z27 < (0 : Int))) (Q (.val (.int .i64 2)) M26) (Q (.val (.int .i64 0)) M26)))))
def an69 : An := (.seq (.reg []) (.seq (.blk (.seq (.reg [.non, .bool]) (.cnd (.seq (.reg []) .z) (.seq (.reg [.non, .non, .ptr, .bool]) (.cnd (.seq (.reg []) .z) (.seq (.opn [(0, []), (1, []), (2, []), (3, []), (4, []), (5, []), (6, []), (7, [])] [] [] 0 [.non, .non, .ptr, .agg [.int .i64, .int .i64, .int .i64, .int .i64, .int .i64], .agg [.int .i64, .int .i64], .int .i64, .bool, .non]) (.cnd (.seq (.reg []) .z) .z))))))) (.seq (.reg []) .z)))
theorem fn69 : tb.fn.get 69 = some Try.f69 := by kernel_rfl
theorem an69_ok : anB tb Try.f69.ntmps an69 (bodyOf Try.f69) = true := by kernel_rfl
theorem F69_eq : (fun (a0 a1 : AV) (M : Mem) (Q : AV → Mem → Prop) => zCs [.l .any, .a [.int .i64, .int .i64]] [a0, a1] fun args => wZ tb an69 (bodyOf Try.f69) (enterA Try.f69 args M) (retQ tb Try.f69 Q)) = fun (a0 a1 : AV) (M : Mem) (Q : AV → Mem → Prop) => F69 a0 a1 M Q := by kernel_rfl
theorem F69_ok {a0 a1 : AV} {M : Mem} {Q : AV → Mem → Prop} (h : F69 a0 a1 M Q) : CallA tb.P 69 [a0, a1] M Q :=
  calla_wZ tb_ok tb_mix fn69 (c := bodyOf Try.f69) rfl an69_ok (ks := [.l .any, .a [.int .i64, .int .i64]]) (cast (congrFun (congrFun (congrFun (congrFun F69_eq a0) a1) M) Q).symm h)

def F70 (a0 : AV) (M : Mem) (Q : AV → Mem → Prop) : Prop :=
  bindO (eNil a0 M) fun y1 => bindO (eFA tb 114 y1.1 4 M) fun y2 => zP y2.1 fun p3 o4 => bindO (eLd tb 3 (.ptr p3 o4) M) fun y5 => zI .i64 y5.1 fun z6 => bindO (eNil a0 M) fun y7 => bindO (eFA tb 114 y7.1 4 M) fun y8 => zP y8.1 fun p9 o10 => bindO (eSt tb 3 (.ptr p9 o10) (.val (.int .i64 (iAdd .i64 z6 1))) M) fun y11 => letP (fun (b30 : Bool) => condB (b30) (Q (.val (.bool false)) y11.2) (bindO (eNil a0 y11.2) fun y32 => bindO (eFA tb 114 y32.1 7 y11.2) fun y33 => zP y33.1 fun p34 o35 => bindO (eSt tb 3 (.ptr p34 o35) (.val (.int .i64 0)) y11.2) fun y36 => bindO (eNil a0 y36.2) fun y37 => bindO (eFA tb 114 y37.1 3 y36.2) fun y38 => zP y38.1 fun p39 o40 => bindO (eSt tb 4 (.ptr p39 o40) (.val (.bool true)) y36.2) fun y41 => bindO (eNil a0 y41.2) fun y42 => bindO (eFA tb 114 y42.1 5 y41.2) fun y43 => zP y43.1 fun p44 o45 => bindO (eLd tb 3 (.ptr p44 o45) y41.2) fun y46 => zI .i64 y46.1 fun z47 => bindO (eNil a0 y41.2) fun y48 => bindO (eFA tb 114 y48.1 5 y41.2) fun y49 => zP y49.1 fun p50 o51 => bindO (eSt tb 3 (.ptr p50 o51) (.val (.int .i64 (iAdd .i64 z47 1))) y41.2) fun y52 => Q (.val (.bool true)) y52.2)) fun K31 => bindO (eNil a0 y11.2) fun y12 => bindO (eFA tb 114 y12.1 7 y11.2) fun y13 => zP y13.1 fun p14 o15 => bindO (eLd tb 3 (.ptr p14 o15) y11.2) fun y16 => zI .i64 y16.1 fun z17 => condB (z17 ==
  (0 : Int)) (K31 true) (bindO (eNil a0 y11.2) fun y18 => bindO (eFA tb 114 y18.1 4 y11.2) fun y19 => zP y19.1 fun p20 o21 => bindO (eNil a0 y11.2) fun y22 => bindO (eFA tb 114 y22.1 7 y11.2) fun y23 => zP y23.1 fun p24 o25 => bindO (eLd tb 3 (.ptr p20 o21) y11.2) fun y26 => zI .i64 y26.1 fun z27 => bindO (eLd tb 3 (.ptr p24 o25) y11.2) fun y28 => zI .i64 y28.1 fun z29 => K31 (z27 !=
  z29))
def an70 : An := (.seq (.reg []) (.seq (.reg [.non, .non, .ptr, .int .i64, .int .i64, .non, .ptr]) (.seq (.seq (.opn [(0, []), (1, []), (2, []), (3, []), (4, []), (5, []), (6, []), (7, []), (8, []), (10, []), (11, []), (12, []), (9, []), (13, []), (14, []), (15, [])] [] [] 0 [.non, .non, .ptr, .int .i64, .bool, .spl, .non, .non, .ptr, .non, .non, .ptr, .int .i64, .int .i64, .bool, .non]) (.cnd (.seq (.reg []) .z) .z)) (.seq (.reg [.non, .non, .non, .ptr, .non, .non, .ptr]) (.seq (.reg [.non, .non, .ptr, .int .i64, .int .i64, .non, .ptr]) (.seq (.reg []) .z))))))
theorem fn70 : tb.fn.get 70 = some Try.f70 := by kernel_rfl
theorem an70_ok : anB tb Try.f70.ntmps an70 (bodyOf Try.f70) = true := by kernel_rfl
theorem F70_eq : (fun (a0 : AV) (M : Mem) (Q : AV → Mem → Prop) => zCs [.l .any] [a0] fun args => wZ tb an70 (bodyOf Try.f70) (enterA Try.f70 args M) (retQ tb Try.f70 Q)) = fun (a0 : AV) (M : Mem) (Q : AV → Mem → Prop) => F70 a0 M Q := by kernel_rfl
theorem F70_ok {a0 : AV} {M : Mem} {Q : AV → Mem → Prop} (h : F70 a0 M Q) : CallA tb.P 70 [a0] M Q :=
  calla_wZ tb_ok tb_mix fn70 (c := bodyOf Try.f70) rfl an70_ok (ks := [.l .any]) (cast (congrFun (congrFun (congrFun F70_eq a0) M) Q).symm h)

def F71 (a0 a1 : AV) (M : Mem) (Q : AV → Mem → Prop) : Prop :=
  ∃ (z1 : Int) (z2 : Int), a1 = (.agg [(.val (.int .i64 z1)), (.val (.int .i64 z2))]) ∧
  letP (M.new (.cells [(.val (.int .i64 z1)), (.val (.int .i64 z2))] true)) fun M3 => bindO (eNil a0 M3) fun y4 => bindO (eFA tb 114 y4.1 0 M3) fun y5 => zP y5.1 fun p6 o7 => bindO (eLd tb 23 (.ptr p6 o7) M3) fun y8 => ∃ (z9 : Int) (z10 : Int) (z11 : Int) (z12 : Int) (z13 : Int), y8.1 =
  (.agg [(.val (.int .i64 z9)), (.val (.int .i64 z10)), (.val (.int .i64 z11)), (.val (.int .i64 z12)), (.val (.int .i64 z13))]) ∧
  (CallA tb.P 65 [(.agg [(.val (.int .i64 z9)), (.val (.int .i64 z10)), (.val (.int .i64 z11)), (.val (.int .i64 z12)), (.val (.int .i64 z13))])] M3 fun y14 M15 => zI .i64 y14 fun z16 => bindO (eNil a0 M15) fun y17 => bindO (eFA tb 114 y17.1 2 M15) fun y18 => zP y18.1 fun p19 o20 => bindO (eLd tb 112 (.ptr p19 o20) M15) fun y21 => bindO (eLd tb 3 (.ptr M.next 0) M15) fun y22 => zI .i64 y22.1 fun z23 => bindO (eIA tb 112 y21.1 (.val (.int .i64 z23)) M15) fun y24 => zP y24.1 fun p25 o26 => bindO (eLd tb 33 (.ptr p25 o26) M15) fun y27 => bindO (eLd tb 3 (.ptr M.next 1) M15) fun y28 => zI .i64 y28.1 fun z29 => bindO (eLd tb 3 (.ptr M.next 1) M15) fun y30 => zI .i64 y30.1 fun z31 => bindO (eSl tb 33 y27.1 (some (.val (.int .i64 (iMul .i64 z29 z16)))) (some (.val (.int .i64 (iMul .i64 (iAdd .i64 z31 1) z16)))) none M15) fun y32 => Q y32.1 M15)
def an71 : An := (.seq (.reg []) (.seq (.reg [.non, .non, .ptr, .agg [.int .i64, .int .i64, .int .i64, .int .i64, .int .i64], .int .i64]) (.seq (.opn [(0, []), (1, []), (2, []), (4, []), (9, []), (11, []), (13, []), (16, []), (3, []), (5, []), (6, []), (7, []), (8, []), (10, []), (12, []), (14, []), (15, []), (17, []), (18, []), (19, [])] [] [] 0 [.non, .non, .ptr, .ptr, .ptr, .non, .ptr, .non, .non, .int .i64, .ptr, .ptr, .non, .int .i64, .int .i64, .int .i64, .int .i64, .int .i64, .non, .non]) .z)))
theorem fn71 : tb.fn.get 71 = some Try.f71 := by kernel_rfl
theorem an71_ok : anB tb Try.f71.ntmps an71 (bodyOf Try.f71) = true := by kernel_rfl
theorem F71_eq : (fun (a0 a1 : AV) (M : Mem) (Q : AV → Mem → Prop) => zCs [.l .any, .a [.int .i64, .int .i64]] [a0, a1] fun args => wZ tb an71 (bodyOf Try.f71) (enterA Try.f71 args M) (retQ tb Try.f71 Q)) = fun (a0 a1 : AV) (M : Mem) (Q : AV → Mem → Prop) => F71 a0 a1 M Q := by kernel_rfl
theorem F71_ok {a0 a1 : AV} {M : Mem} {Q : AV → Mem → Prop} (h : F71 a0 a1 M Q) : CallA tb.P 71 [a0, a1] M Q :=
  calla_wZ tb_ok tb_mix fn71 (c := bodyOf Try.f71) rfl an71_ok (ks := [.l .any, .a [.int .i64, .int .i64]]) (cast (congrFun (congrFun (congrFun (congrFun F71_eq a0) a1) M) Q).symm h)

def F72 (a0 : AV) (M : Mem) (Q : AV → Mem → Prop) : Prop :=
  bindO (eBin tb .eql 33 (.tmp 3) (.const (.slice none 0 0)) a0 (.val (.slice none 0 0)) M) fun y1 => zB y1.1 fun b2 => condB (b2) (Q (.val (.slice none 0 0)) M) (letP (M.new (.cells [] true)) fun M3 => bindO (evAppend tb 33 33 (.sl M.next 0 0 0 none) a0 M3) fun y4 => Q y4.1 y4.2)
def an72 : An := (.seq (.reg []) (.seq (.seq (.reg [.non, .bool]) (.cnd (.seq (.reg []) .z) .z)) (.seq (.reg []) .z)))
theorem fn72 : tb.fn.get 72 = some Try.f72 := by kernel_rfl
theorem an72_ok : anB tb Try.f72.ntmps an72 (bodyOf Try.f72) = true := by kernel_rfl
theorem F72_eq : (fun (a0 : AV) (M : Mem) (Q : AV → Mem → Prop) => zCs [.l .any] [a0] fun args => wZ tb an72 (bodyOf Try.f72) (enterA Try.f72 args M) (retQ tb Try.f72 Q)) = fun (a0 : AV) (M : Mem) (Q : AV → Mem → Prop) => F72 a0 M Q := by kernel_rfl
theorem F72_ok {a0 : AV} {M : Mem} {Q : AV → Mem → Prop} (h : F72 a0 M Q) : CallA tb.P 72 [a0] M Q :=
  calla_wZ tb_ok tb_mix fn72 (c := bodyOf Try.f72) rfl an72_ok (ks := [.l .any]) (cast (congrFun (congrFun (congrFun F72_eq a0) M) Q).symm h)

def F73 (a0 a1 : AV) (M : Mem) (Q : AV → Mem → Prop) : Prop :=
  zI .i64 a1 fun z1 => letP (M.new (.cells [(.val (.slice none 0 0)), (.val (.int .i64 0)), (.val (.int .i64 0)), (.val (.int .i64 0))] true)) fun M2 => letP (fun (b12 : Bool) => condB (b12) (bindO (eSt tb 117 (.ptr M.next 0) (.agg [(.val (.slice none 0 0)), (.val (.int .i64 0)), (.val (.int .i64 0)), (.val (.int .i64 0))]) M2) fun y14 => bindO (eRes tb [.c 117 (.ptr M.next 0)] y14.2) fun x15 => Q x15 y14.2) (bindO (eNil a0 M2) fun y16 => bindO (eFA tb 114 y16.1 2 M2) fun y17 => zP y17.1 fun p18 o19 => bindO (eLd tb 112 (.ptr p18 o19) M2) fun y20 => bindO (eIA tb 112 y20.1 (.val (.int .i64 z1)) M2) fun y21 => zP y21.1 fun p22 o23 => bindO (eLd tb 117 (.ptr p22 o23) M2) fun y24 => ∃ (x25 : AV) (z26 : Int) (z27 : Int) (z28 : Int), y24.1 =
  (.agg [x25, (.val (.int .i64 z26)), (.val (.int .i64 z27)), (.val (.int .i64 z28))]) ∧
  (bindO (eSt tb 117 (.ptr M.next 0) (.agg [x25, (.val (.int .i64 z26)), (.val (.int .i64 z27)), (.val (.int .i64 z28))]) M2) fun y29 => bindO (eRes tb [.c 117 (.ptr M.next 0)] y29.2) fun x30 => Q x30 y29.2))) fun K13 => bindO (eBin tb .eql 24 (.tmp 5) (.const (.pointer none)) a0 (.val (.pointer none)) M2) fun y3 => zB y3.1 fun b4 => condB (b4) (K13 true) (condB (decide (z1 < (0 : Int))) (K13 true) (bindO (eNil a0 M2) fun y5 => bindO (eFA tb 114 y5.1 2 M2) fun y6 => zP y6.1 fun p7 o8 => bindO (eLd tb 112 (.ptr p7 o8) M2) fun y9 => bindO (eLen tb false 112 y9.1 M2) fun y10 => zI .i64 y10.1 fun z11 => K13 (decide (z1 ≥ z11))))
def an73 : An := (.seq (.reg []) (.seq (.seq (.reg [.non, .bool, .spl, .non, .bool, .non, .spl, .non, .non, .non, .ptr, .non, .int .i64, .bool]) (.cnd (.seq (.reg []) .z) .z)) (.seq (.reg [.non, .non, .ptr, .non, .non, .ptr, .agg [.any, .int .i64, .int .i64, .int .i64]]) .z)))
theorem fn73 : tb.fn.get 73 = some Try.f73 := by kernel_rfl
theorem an73_ok : anB tb Try.f73.ntmps an73 (bodyOf Try.f73) = true := by kernel_rfl
theorem F73_eq : (fun (a0 a1 : AV) (M : Mem) (Q : AV → Mem → Prop) => zCs [.l .any, .l (.int .i64)] [a0, a1] fun args => wZ tb an73 (bodyOf Try.f73) (enterA Try.f73 args M) (retQ tb Try.f73 Q)) = fun (a0 a1 : AV) (M : Mem) (Q : AV → Mem → Prop) => F73 a0 a1 M Q := by kernel_rfl
theorem F73_ok {a0 a1 : AV} {M : Mem} {Q : AV → Mem → Prop} (h : F73 a0 a1 M Q) : CallA tb.P 73 [a0, a1] M Q :=
  calla_wZ tb_ok tb_mix fn73 (c := bodyOf Try.f73) rfl an73_ok (ks := [.l .any, .l (.int .i64)]) (cast (congrFun (congrFun (congrFun (congrFun F73_eq a0) a1) M) Q).symm h)

def F74 (a0 a1 a2 : AV) (M : Mem) (Q : AV → Mem → Prop) : Prop :=
  zI .i64 a1 fun z1 => zI .i64 a2 fun z2 => CallA tb.P 108 [a0, (.val (.int .i64 z1))] M fun y3 M4 => ∃ (z5 : Int) (b6 : Bool) (z7 : Int) (b8 : Bool), y3 =
  (.tup [(.agg [(.val (.int .i64 z5)), (.val (.bool b6)), (.val (.int .i64 z7))]), (.val (.bool b8))]) ∧
  (letP (M4.new (.cells [(.val (.int .i64 0)), (.val (.bool false)), (.val (.int .i64 0))] true)) fun M9 => bindO (eSt tb 53 (.ptr M4.next 0) (.agg [(.val (.int .i64 z5)), (.val (.bool b6)), (.val (.int .i64 z7))]) M9) fun y10 => letP (fun (b13 : Bool) => Q (.val (.bool b13)) y10.2) fun K14 => condB (b8) (bindO (eLd tb 3 (.ptr M4.next 2) y10.2) fun y11 => zI .i64 y11.1 fun z12 => K14 (decide (z2 ≥ z12))) (K14 false))
def an74 : An := (.seq (.reg []) (.seq (.reg [.non, .non, .tup [.a [.int .i64, .bool, .int .i64], .l .bool], .non, .non, .bool]) (.seq (.reg [.non, .spl, .non, .ptr, .int .i64, .bool]) .z)))
theorem fn74 : tb.fn.get 74 = some Try.f74 := by kernel_rfl
theorem an74_ok : anB tb Try.f74.ntmps an74 (bodyOf Try.f74) = true := by kernel_rfl
theorem F74_eq : (fun (a0 a1 a2 : AV) (M : Mem) (Q : AV → Mem → Prop) => zCs [.l .any, .l (.int .i64), .l (.int .i64)] [a0, a1, a2] fun args => wZ tb an74 (bodyOf Try.f74) (enterA Try.f74 args M) (retQ tb Try.f74 Q)) = fun (a0 a1 a2 : AV) (M : Mem) (Q : AV → Mem → Prop) => F74 a0 a1 a2 M Q := by kernel_rfl
theorem F74_ok {a0 a1 a2 : AV} {M : Mem} {Q : AV → Mem → Prop} (h : F74 a0 a1 a2 M Q) : CallA tb.P 74 [a0, a1, a2] M Q :=
  calla_wZ tb_ok tb_mix fn74 (c := bodyOf Try.f74) rfl an74_ok (ks := [.l .any, .l (.int .i64), .l (.int .i64)]) (cast (congrFun (congrFun (congrFun (congrFun (congrFun F74_eq a0) a1) a2) M) Q).symm h)

def F75 (a0 a1 : AV) (M : Mem) (Q : AV → Mem → Prop) : Prop :=
  zI .i64 a1 fun z1 => CallA tb.P 108 [a0, (.val (.int .i64 z1))] M fun y2 M3 => ∃ (z4 : Int) (b5 : Bool) (z6 : Int) (b7 : Bool), y2 =
  (.tup [(.agg [(.val (.int .i64 z4)), (.val (.bool b5)), (.val (.int .i64 z6))]), (.val (.bool b7))]) ∧
  (letP (M3.new (.cells [(.val (.int .i64 0)), (.val (.bool false)), (.val (.int .i64 0))] true)) fun M8 => bindO (eSt tb 53 (.ptr M3.next 0) (.agg [(.val (.int .i64 z4)), (.val (.bool b5)), (.val (.int .i64 z6))]) M8) fun y9 => letP (fun (b12 : Bool) => Q (.val (.bool b12)) y9.2) fun K13 => condB (b7) (bindO (eLd tb 4 (.ptr M3.next 1) y9.2) fun y10 => zB y10.1 fun b11 => K13 b11) (K13 false))
def an75 : An := (.seq (.reg []) (.seq (.reg [.non, .non, .tup [.a [.int .i64, .bool, .int .i64], .l .bool], .non, .non, .bool]) (.seq (.reg [.non, .spl, .ptr, .bool]) .z)))
theorem fn75 : tb.fn.get 75 = some Try.f75 := by kernel_rfl
theorem an75_ok : anB tb Try.f75.ntmps an75 (bodyOf Try.f75) = true := by kernel_rfl
theorem F75_eq : (fun (a0 a1 : AV) (M : Mem) (Q : AV → Mem → Prop) => zCs [.l .any, .l (.int .i64)] [a0, a1] fun args => wZ tb an75 (bodyOf Try.f75) (enterA Try.f75 args M) (retQ tb Try.f75 Q)) = fun (a0 a1 : AV) (M : Mem) (Q : AV → Mem → Prop) => F75 a0 a1 M Q := by kernel_rfl
theorem F75_ok {a0 a1 : AV} {M : Mem} {Q : AV → Mem → Prop} (h : F75 a0 a1 M Q) : CallA tb.P 75 [a0, a1] M Q :=
  calla_wZ tb_ok tb_mix fn75 (c := bodyOf Try.f75) rfl an75_ok (ks := [.l .any, .l (.int .i64)]) (cast (congrFun (congrFun (congrFun (congrFun F75_eq a0) a1) M) Q).symm h)

def F102 (a0 : AV) (M : Mem) (Q : AV → Mem → Prop) : Prop :=
  ∃ (z1 : Int) (z2 : Int) (z3 : Int) (z4 : Int) (z5 : Int), a0 = (.agg [(.val (.int .i64 z1)), (.val (.int .i64 z2)), (.val (.int .i64 z3)), (.val (.int .i64 z4)), (.val (.int .i64 z5))]) ∧
  letP (M.new (.cells [(.val (.int .i64 z1)), (.val (.int .i64 z2)), (.val (.int .i64 z3)), (.val (.int .i64 z4)), (.val (.int .i64 z5))] true)) fun M6 => letP (fun (b41 : Bool) (M42 : Mem) => Q (.val (.bool b41)) M42) fun K43 => bindO (eLd tb 3 (.ptr M.next 0) M6) fun y7 => zI .i64 y7.1 fun z8 => CallA tb.P 120 [(.val (.int .i64 z8)), (.val (.int .i64 8)), (.val (.int .i64 20))] M6 fun y9 M10 => zB y9 fun b11 => condB (b11) (bindO (eLd tb 3 (.ptr M.next 1) M10) fun y12 => zI .i64 y12.1 fun z13 => CallA tb.P 120 [(.val (.int .i64 z13)), (.val (.int .i64 4)), (.val (.int .i64 8))] M10 fun y14 M15 => zB y14 fun b16 => condB (b16) (bindO (eLd tb 3 (.ptr M.next 2) M15) fun y17 => zI .i64 y17.1 fun z18 => CallA tb.P 120 [(.val (.int .i64 z18)), (.val (.int .i64 24)), (.val (.int .i64 64))] M15 fun y19 M20 => zB y19 fun b21 => condB (b21) (bindO (eLd tb 3 (.ptr M.next 3) M20) fun y22 => zI .i64 y22.1 fun z23 => CallA tb.P 120 [(.val (.int .i64 z23)), (.val (.int .i64 0)), (.val (.int .i64 4))] M20 fun y24 M25 => zB y24 fun b26 => condB (b26) (bindO (eLd tb 3 (.ptr M.next 4) M25) fun y27 => zI .i64 y27.1 fun z28 => CallA tb.P 120 [(.val (.int .i64 z28)), (.val (.int .i64 2)), (.val (.int .i64 20))] M25 fun y29 M30 => zB y29 fun b31 => condB (b31) (bindO (eLd tb 23 (.ptr M.next 0) M30) fun y32 => ∃ (z33 : Int) (z34 : Int) (z35 : Int) (z36 : Int) (z37 : Int), y32.1 =
  (.agg [(.val (.int .i64 z33)), (.val (.int .i64 z34)), (.val (.int .i64 z35)), (.val (.int .i64 z36)), (.val (.int .i64 z37))]) ∧
  (CallA tb.P 121 [(.agg [(.val (.int .i64 z33)), (.val (.int .i64 z34)), (.val (.int .i64 z35)), (.val (.int .i64 z36)), (.val (.int .i64 z37))])] M30 fun y38 M39 => zI .i64 y38 fun z40 => K43 (decide (z40 ≥ (4 : Int))) M39)) (K43 false M30)) (K43 false M25)) (K43 false M20)) (K43 false M15)) (K43 false M10)
def an102 : An := (.seq (.reg []) (.seq (.reg [.ptr, .int .i64, .bool, .spl, .ptr, .int .i64, .bool, .non, .spl, .ptr, .int .i64, .bool, .non, .spl, .ptr, .int .i64, .bool, .non, .spl, .ptr, .int .i64, .bool, .non, .spl, .agg [.int .i64, .int .i64, .int .i64, .int .i64, .int .i64], .int .i64, .bool]) .z))
theorem fn102 : tb.fn.get 102 = some Try.f102 := by kernel_rfl
theorem an102_ok : anB tb Try.f102.ntmps an102 (bodyOf Try.f102) = true := by kernel_rfl
theorem F102_eq : (fun (a0 : AV) (M : Mem) (Q : AV → Mem → Prop) => zCs [.a [.int .i64, .int .i64, .int .i64, .int .i64, .int .i64]] [a0] fun args => wZ tb an102 (bodyOf Try.f102) (enterA Try.f102 args M) (retQ tb Try.f102 Q)) = fun (a0 : AV) (M : Mem) (Q : AV → Mem → Prop) => F102 a0 M Q := by kernel_rfl
theorem F102_ok {a0 : AV} {M : Mem} {Q : AV → Mem → Prop} (h : F102 a0 M Q) : CallA tb.P 102 [a0] M Q :=
  calla_wZ tb_ok tb_mix fn102 (c := bodyOf Try.f102) rfl an102_ok (ks := [.a [.int .i64, .int .i64, .int .i64, .int .i64, .int .i64]]) (cast (congrFun (congrFun (congrFun F102_eq a0) M) Q).symm h)

def F108 (a0 a1 : AV) (M : Mem) (Q : AV → Mem → Prop) : Prop :=
  zI .i64 a1 fun z1 => letP (M.new (.cells [(.val (.int .i64 z1))] true)) fun M2 => letP (M2.new (.cells [(.val (.int .i64 0)), (.val (.bool false)), (.val (.int .i64 0))] true)) fun M3 => CallA tb.P 123 [a0, (.fn 124 [] [(.ptr M.next 0)])] M3 fun y4 M5 => zI .i64 y4 fun z6 => condB (decide (z6 < (0 : Int))) (bindO (eSt tb 53 (.ptr M2.next 0) (.agg [(.val (.int .i64 0)), (.val (.bool false)), (.val (.int .i64 0))]) M5) fun y7 => bindO (eRes tb [.c 53 (.ptr M2.next 0), .v (.val (.bool false))] y7.2) fun x8 => Q x8 y7.2) (bindO (eIA tb 54 a0 (.val (.int .i64 z6)) M5) fun y9 => zP y9.1 fun p10 o11 => bindO (eLd tb 53 (.ptr p10 o11) M5) fun y12 => ∃ (z13 : Int) (b14 : Bool) (z15 : Int), y12.1 =
  (.agg [(.val (.int .i64 z13)), (.val (.bool b14)), (.val (.int .i64 z15))]) ∧
  (bindO (eSt tb 53 (.ptr M2.next 0) (.agg [(.val (.int .i64 z13)), (.val (.bool b14)), (.val (.int .i64 z15))]) M5) fun y16 => bindO (eRes tb [.c 53 (.ptr M2.next 0), .v (.val (.bool true))] y16.2) fun x17 => Q x17 y16.2))
def an108 : An := (.seq (.reg []) (.seq (.reg [.non, .non, .int .i64]) (.seq (.seq (.reg [.non, .bool]) (.cnd (.seq (.reg []) .z) .z)) (.seq (.reg [.non, .non, .ptr, .agg [.int .i64, .bool, .int .i64]]) .z))))
theorem fn108 : tb.fn.get 108 = some Try.f108 := by kernel_rfl
theorem an108_ok : anB tb Try.f108.ntmps an108 (bodyOf Try.f108) = true := by kernel_rfl
theorem F108_eq : (fun (a0 a1 : AV) (M : Mem) (Q : AV → Mem → Prop) => zCs [.l .any, .l (.int .i64)] [a0, a1] fun args => wZ tb an108 (bodyOf Try.f108) (enterA Try.f108 args M) (retQ tb Try.f108 Q)) = fun (a0 a1 : AV) (M : Mem) (Q : AV → Mem → Prop) => F108 a0 a1 M Q := by kernel_rfl
theorem F108_ok {a0 a1 : AV} {M : Mem} {Q : AV → Mem → Prop} (h : F108 a0 a1 M Q) : CallA tb.P 108 [a0, a1] M Q :=
  calla_wZ tb_ok tb_mix fn108 (c := bodyOf Try.f108) rfl an108_ok (ks := [.l .any, .l (.int .i64)]) (cast (congrFun (congrFun (congrFun (congrFun F108_eq a0) a1) M) Q).symm h)

def F109 (a0 a1 : AV) (M : Mem) (Q : AV → Mem → Prop) : Prop :=
  zI .u64 a0 fun z1 => zI .u64 a1 fun z2 => CallA tb.P 126 [(.val (.int .u64 z1)), (.val (.int .u64 z2))] M fun y3 M4 => ∃ (z5 : Int) (z6 : Int), y3 =
  (.tup [(.val (.int .u64 z5)), (.val (.int .u64 z6))]) ∧ (Q (.tup [(.val (.int .u64 z5)), (.val (.int .u64 z6))]) M4)
def an109 : An := (.seq (.reg []) (.seq (.cnd (.seq (.reg [.non, .int .u32, .non, .int .u32, .tup [.l (.int .u32), .l (.int .u32)], .non, .int .u32, .int .u32]) (.seq (.reg [.non, .int .u64, .non, .int .u64]) .z)) .z) (.seq (.reg [.non, .non, .tup [.l (.int .u64), .l (.int .u64)], .non, .int .u64, .int .u64]) (.seq (.reg []) .z))))
theorem fn109 : tb.fn.get 109 = some Try.f109 := by kernel_rfl
theorem an109_ok : anB tb Try.f109.ntmps an109 (bodyOf Try.f109) = true := by kernel_rfl
theorem F109_eq : (fun (a0 a1 : AV) (M : Mem) (Q : AV → Mem → Prop) => zCs [.l (.int .u64), .l (.int .u64)] [a0, a1] fun args => wZ tb an109 (bodyOf Try.f109) (enterA Try.f109 args M) (retQ tb Try.f109 Q)) = fun (a0 a1 : AV) (M : Mem) (Q : AV → Mem → Prop) => F109 a0 a1 M Q := by kernel_rfl
theorem F109_ok {a0 a1 : AV} {M : Mem} {Q : AV → Mem → Prop} (h : F109 a0 a1 M Q) : CallA tb.P 109 [a0, a1] M Q :=
  calla_wZ tb_ok tb_mix fn109 (c := bodyOf Try.f109) rfl an109_ok (ks := [.l (.int .u64), .l (.int .u64)]) (cast (congrFun (congrFun (congrFun (congrFun F109_eq a0) a1) M) Q).symm h)

def F110 (a0 a1 : AV) (M : Mem) (Q : AV → Mem → Prop) : Prop :=
  ∃ (z1 : Int) (z2 : Int) (z3 : Int) (z4 : Int) (z5 : Int), a0 = (.agg [(.val (.int .i64 z1)), (.val (.int .i64 z2)), (.val (.int .i64 z3)), (.val (.int .i64 z4)), (.val (.int .i64 z5))]) ∧
  zI .i64 a1 fun z6 => letP (M.new (.cells [(.val (.int .i64 z1)), (.val (.int .i64 z2)), (.val (.int .i64 z3)), (.val (.int .i64 z4)), (.val (.int .i64 z5))] true)) fun M7 => bindO (eLd tb 23 (.ptr M.next 0) M7) fun y8 => ∃ (z9 : Int) (z10 : Int) (z11 : Int) (z12 : Int) (z13 : Int), y8.1 =
  (.agg [(.val (.int .i64 z9)), (.val (.int .i64 z10)), (.val (.int .i64 z11)), (.val (.int .i64 z12)), (.val (.int .i64 z13))]) ∧
  (CallA tb.P 102 [(.agg [(.val (.int .i64 z9)), (.val (.int .i64 z10)), (.val (.int .i64 z11)), (.val (.int .i64 z12)), (.val (.int .i64 z13))])] M7 fun y14 M15 => zB y14 fun b16 => condB (!b16) (Q (.val (.int .i64 0)) M15) (Q (.val (.int .i64 z6)) M15))
def an110 : An := (.seq (.reg []) (.seq (.seq (.reg [.agg [.int .i64, .int .i64, .int .i64, .int .i64, .int .i64], .bool, .bool]) (.cnd (.seq (.reg []) .z) .z)) (.seq (.reg []) .z)))
theorem fn110 : tb.fn.get 110 = some Try.f110 := by kernel_rfl
theorem an110_ok : anB tb Try.f110.ntmps an110 (bodyOf Try.f110) = true := by kernel_rfl
theorem F110_eq : (fun (a0 a1 : AV) (M : Mem) (Q : AV → Mem → Prop) => zCs [.a [.int .i64, .int .i64, .int .i64, .int .i64, .int .i64], .l (.int .i64)] [a0, a1] fun args => wZ tb an110 (bodyOf Try.f110) (enterA Try.f110 args M) (retQ tb Try.f110 Q)) = fun (a0 a1 : AV) (M : Mem) (Q : AV → Mem → Prop) => F110 a0 a1 M Q := by kernel_rfl
theorem F110_ok {a0 a1 : AV} {M : Mem} {Q : AV → Mem → Prop} (h : F110 a0 a1 M Q) : CallA tb.P 110 [a0, a1] M Q :=
  calla_wZ tb_ok tb_mix fn110 (c := bodyOf Try.f110) rfl an110_ok (ks := [.a [.int .i64, .int .i64, .int .i64, .int .i64, .int .i64], .l (.int .i64)]) (cast (congrFun (congrFun (congrFun (congrFun F110_eq a0) a1) M) Q).symm h)

def F111 (a0 a1 : AV) (M : Mem) (Q : AV → Mem → Prop) : Prop :=
  ∃ (z1 : Int) (z2 : Int) (z3 : Int) (z4 : Int) (z5 : Int), a0 = (.agg [(.val (.int .i64 z1)), (.val (.int .i64 z2)), (.val (.int .i64 z3)), (.val (.int .i64 z4)), (.val (.int .i64 z5))]) ∧
  ∃ (z6 : Int) (z7 : Int), a1 = (.agg [(.val (.int .i64 z6)), (.val (.int .i64 z7))]) ∧
  letP (M.new (.cells [(.val (.int .i64 z1)), (.val (.int .i64 z2)), (.val (.int .i64 z3)), (.val (.int .i64 z4)), (.val (.int .i64 z5))] true)) fun M8 => letP (M8.new (.cells [(.val (.int .i64 z6)), (.val (.int .i64 z7))] true)) fun M9 => bindO (eLd tb 23 (.ptr M.next 0) M9) fun y10 => ∃ (z11 : Int) (z12 : Int) (z13 : Int) (z14 : Int) (z15 : Int), y10.1 =
  (.agg [(.val (.int .i64 z11)), (.val (.int .i64 z12)), (.val (.int .i64 z13)), (.val (.int .i64 z14)), (.val (.int .i64 z15))]) ∧
  (CallA tb.P 102 [(.agg [(.val (.int .i64 z11)), (.val (.int .i64 z12)), (.val (.int .i64 z13)), (.val (.int .i64 z14)), (.val (.int .i64 z15))])] M9 fun y16 M17 => zB y16 fun b18 => condB (!b18) (Q (.val (.int .i64 0)) M17) (bindO (eLd tb 23 (.ptr M.next 0) M17) fun y19 => ∃ (z20 : Int) (z21 : Int) (z22 : Int) (z23 : Int) (z24 : Int), y19.1 =
  (.agg [(.val (.int .i64 z20)), (.val (.int .i64 z21)), (.val (.int .i64 z22)), (.val (.int .i64 z23)), (.val (.int .i64 z24))]) ∧
  (bindO (eLd tb 30 (.ptr M8.next 0) M17) fun y25 => ∃ (z26 : Int) (z27 : Int), y25.1 = (.agg [(.val (.int .i64 z26)), (.val (.int .i64 z27))]) ∧
  (CallA tb.P 127 [(.agg [(.val (.int .i64 z20)), (.val (.int .i64 z21)), (.val (.int .i64 z22)), (.val (.int .i64 z23)), (.val (.int .i64 z24))]), (.agg [(.val (.int .i64 z26)), (.val (.int .i64 z27))])] M17 fun y28 M29 => zB y28 fun b30 => condB (!b30) (Q (.val (.int .i64 (-1))) M29) (bindO (eLd tb 3 (.ptr M8.next 0) M29) fun y31 => zI .i64 y31.1 fun z32 => bindO (eLd tb 3 (.ptr M.next 1) M29) fun y33 => zI .i64 y33.1 fun z34 => bindO (eLd tb 3 (.ptr M8.next 1) M29) fun y35 => zI .i64 y35.1 fun z36 => Q (.val (.int .i64 (iAdd .i64 (iMul .i64 z32 z34) z36))) M29)))))
def an111 : An := (.seq (.reg []) (.seq (.seq (.reg [.agg [.int .i64, .int .i64, .int .i64, .int .i64, .int .i64], .bool, .bool]) (.cnd (.seq (.reg []) .z) .z)) (.seq (.seq (.reg [.agg [.int .i64, .int .i64, .int .i64, .int .i64, .int .i64], .agg [.int .i64, .int .i64], .bool, .bool]) (.cnd (.seq (.reg []) .z) .z)) (.seq (.reg [.ptr, .int .i64, .ptr, .int .i64, .int .i64, .ptr, .int .i64, .int .i64]) .z))))
theorem fn111 : tb.fn.get 111 = some Try.f111 := by kernel_rfl
theorem an111_ok : anB tb Try.f111.ntmps an111 (bodyOf Try.f111) = true := by kernel_rfl
theorem F111_eq : (fun (a0 a1 : AV) (M : Mem) (Q : AV → Mem → Prop) => zCs [.a [.int .i64, .int .i64, .int .i64, .int .i64, .int .i64], .a [.int .i64, .int .i64]] [a0, a1] fun args => wZ tb an111 (bodyOf Try.f111) (enterA Try.f111 args M) (retQ tb Try.f111 Q)) = fun (a0 a1 : AV) (M : Mem) (Q : AV → Mem → Prop) => F111 a0 a1 M Q := by kernel_rfl
theorem F111_ok {a0 a1 : AV} {M : Mem} {Q : AV → Mem → Prop} (h : F111 a0 a1 M Q) : CallA tb.P 111 [a0, a1] M Q :=
  calla_wZ tb_ok tb_mix fn111 (c := bodyOf Try.f111) rfl an111_ok (ks := [.a [.int .i64, .int .i64, .int .i64, .int .i64, .int .i64], .a [.int .i64, .int .i64]]) (cast (congrFun (congrFun (congrFun (congrFun F111_eq a0) a1) M) Q).symm h)

def F120 (a0 a1 a2 : AV) (M : Mem) (Q : AV → Mem → Prop) : Prop :=
  zI .i64 a0 fun z1 => zI .i64 a1 fun z2 => zI .i64 a2 fun z3 => letP (fun (b4 : Bool) => Q (.val (.bool b4)) M) fun K5 => condB (decide (z1 ≥ z2)) (K5 (decide (z1 ≤ z3))) (K5 false)
def an120 : An := (.seq (.reg []) (.seq (.reg [.non, .non, .bool, .spl, .non, .non, .bool]) .z))
theorem fn120 : tb.fn.get 120 = some Try.f120 := by kernel_rfl
theorem an120_ok : anB tb Try.f120.ntmps an120 (bodyOf Try.f120) = true := by kernel_rfl
theorem F120_eq : (fun (a0 a1 a2 : AV) (M : Mem) (Q : AV → Mem → Prop) => zCs [.l (.int .i64), .l (.int .i64), .l (.int .i64)] [a0, a1, a2] fun args => wZ tb an120 (bodyOf Try.f120) (enterA Try.f120 args M) (retQ tb Try.f120 Q)) = fun (a0 a1 a2 : AV) (M : Mem) (Q : AV → Mem → Prop) => F120 a0 a1 a2 M Q := by kernel_rfl
theorem F120_ok {a0 a1 a2 : AV} {M : Mem} {Q : AV → Mem → Prop} (h : F120 a0 a1 a2 M Q) : CallA tb.P 120 [a0, a1, a2] M Q :=
  calla_wZ tb_ok tb_mix fn120 (c := bodyOf Try.f120) rfl an120_ok (ks := [.l (.int .i64), .l (.int .i64), .l (.int .i64)]) (cast (congrFun (congrFun (congrFun (congrFun (congrFun F120_eq a0) a1) a2) M) Q).symm h)

def F121 (a0 : AV) (M : Mem) (Q : AV → Mem → Prop) : Prop :=
  ∃ (z1 : Int) (z2 : Int) (z3 : Int) (z4 : Int) (z5 : Int), a0 = (.agg [(.val (.int .i64 z1)), (.val (.int .i64 z2)), (.val (.int .i64 z3)), (.val (.int .i64 z4)), (.val (.int .i64 z5))]) ∧
  letP (M.new (.cells [(.val (.int .i64 z1)), (.val (.int .i64 z2)), (.val (.int .i64 z3)), (.val (.int .i64 z4)), (.val (.int .i64 z5))] true)) fun M6 => bindO (eLd tb 3 (.ptr M.next 0) M6) fun y7 => zI .i64 y7.1 fun z8 => bindO (eLd tb 3 (.ptr M.next 3) M6) fun y9 => zI .i64 y9.1 fun z10 => bindO (eLd tb 3 (.ptr M.next 1) M6) fun y11 => zI .i64 y11.1 fun z12 => Q (.val (.int .i64 (iQuo .i64 (iSub .i64 (iMul .i64 (iSub .i64 (iSub .i64 z8 z10) 3) z12) 4) 2))) M6
def an121 : An := (.seq (.reg []) (.seq (.reg [.ptr, .int .i64, .ptr, .int .i64, .int .i64, .int .i64, .ptr, .int .i64, .int .i64, .int .i64, .int .i64]) .z))
theorem fn121 : tb.fn.get 121 = some Try.f121 := by kernel_rfl
theorem an121_ok : anB tb Try.f121.ntmps an121 (bodyOf Try.f121) = true := by kernel_rfl
theorem F121_eq : (fun (a0 : AV) (M : Mem) (Q : AV → Mem → Prop) => zCs [.a [.int .i64, .int .i64, .int .i64, .int .i64, .int .i64]] [a0] fun args => wZ tb an121 (bodyOf Try.f121) (enterA Try.f121 args M) (retQ tb Try.f121 Q)) = fun (a0 : AV) (M : Mem) (Q : AV → Mem → Prop) => F121 a0 M Q := by kernel_rfl
theorem F121_ok {a0 : AV} {M : Mem} {Q : AV → Mem → Prop} (h : F121 a0 M Q) : CallA tb.P 121 [a0] M Q :=
  calla_wZ tb_ok tb_mix fn121 (c := bodyOf Try.f121) rfl an121_ok (ks := [.a [.int .i64, .int .i64, .int .i64, .int .i64, .int .i64]]) (cast (congrFun (congrFun (congrFun F121_eq a0) M) Q).symm h)

def F123 (a0 a1 : AV) (M : Mem) (Q : AV → Mem → Prop) : Prop :=
  bindO (eLen tb false 54 a0 M) fun y1 => zI .i64 y1.1 fun z2 => ∃ J3 : Int → Nat → Mem → Prop, (∃ n4 : Nat, J3 (0 : Int) n4 M) ∧ ∀ (_ : Nat → Option AV) (z5 : Int) (n6 : Nat) (M7 : Mem), J3 z5 n6 M7 →
  (condB (decide (z5 < z2)) (bindO (eIA tb 54 a0 (.val (.int .i64 z5)) M7) fun y8 => zP y8.1 fun p9 o10 => bindO (eLd tb 53 (.ptr p9 o10) M7) fun y11 => ∃ (z12 : Int) (b13 : Bool) (z14 : Int), y11.1 =
  (.agg [(.val (.int .i64 z12)), (.val (.bool b13)), (.val (.int .i64 z14))]) ∧
  (eCall tb a1 [(.agg [(.val (.int .i64 z12)), (.val (.bool b13)), (.val (.int .i64 z14))])] M7 fun y15 M16 => zB y15 fun b17 => condB (b17) (Q (.val (.int .i64 z5)) M16) (∃ k18 : Nat, k18 < n6 ∧
  (J3 (iAdd .i64 z5 1) k18 M16)))) (Q (.val (.int .i64 (-1))) M7))
def an123 : An := (.seq (.reg []) (.seq (.seq (.reg [.non, .int .i64]) (.blk (.lop [(8, .int .i64)] [4, 5, 9, 10, 11, 12, 13, 14, 15, 16, 17, 18] (.seq (.reg []) (.seq (.cnd .z .z) (.seq (.blk (.seq (.reg []) (.seq (.reg [.non, .non, .non, .ptr, .agg [.int .i64, .bool, .int .i64], .bool]) (.cnd (.seq (.reg []) .z) .z)))) (.reg [.int .i64]))))))) (.seq (.reg []) .z)))
theorem fn123 : tb.fn.get 123 = some Try.f123 := by kernel_rfl
theorem an123_ok : anB tb Try.f123.ntmps an123 (bodyOf Try.f123) = true := by kernel_rfl
theorem F123_eq : (fun (a0 a1 : AV) (M : Mem) (Q : AV → Mem → Prop) => zCs [.l .any, .l .any] [a0, a1] fun args => wZ tb an123 (bodyOf Try.f123) (enterA Try.f123 args M) (retQ tb Try.f123 Q)) = fun (a0 a1 : AV) (M : Mem) (Q : AV → Mem → Prop) => F123 a0 a1 M Q := by kernel_rfl
theorem F123_ok {a0 a1 : AV} {M : Mem} {Q : AV → Mem → Prop} (h : F123 a0 a1 M Q) : CallA tb.P 123 [a0, a1] M Q :=
  calla_wZ tb_ok tb_mix fn123 (c := bodyOf Try.f123) rfl an123_ok (ks := [.l .any, .l .any]) (cast (congrFun (congrFun (congrFun (congrFun F123_eq a0) a1) M) Q).symm h)

def F124 (a0 a1 : AV) (M : Mem) (Q : AV → Mem → Prop) : Prop :=
  ∃ (z1 : Int) (b2 : Bool) (z3 : Int), a0 = (.agg [(.val (.int .i64 z1)), (.val (.bool b2)), (.val (.int .i64 z3))]) ∧
  letP (M.new (.cells [(.val (.int .i64 z1)), (.val (.bool b2)), (.val (.int .i64 z3))] true)) fun M4 => bindO (eLd tb 3 (.ptr M.next 0) M4) fun y5 => zI .i64 y5.1 fun z6 => bindO (eLd tb 3 a1 M4) fun y7 => zI .i64 y7.1 fun z8 => Q (.val (.bool (z6 ==
  z8))) M4
def an124 : An := (.seq (.reg []) (.seq (.reg [.ptr, .int .i64, .int .i64, .bool]) .z))
theorem fn124 : tb.fn.get 124 = some Try.f124 := by kernel_rfl
theorem an124_ok : anB tb Try.f124.ntmps an124 (bodyOf Try.f124) = true := by kernel_rfl
theorem F124_eq : (fun (a0 a1 : AV) (M : Mem) (Q : AV → Mem → Prop) => zCs [.a [.int .i64, .bool, .int .i64], .l .any] [a0, a1] fun args => wZ tb an124 (bodyOf Try.f124) (enterA Try.f124 args M) (retQ tb Try.f124 Q)) = fun (a0 a1 : AV) (M : Mem) (Q : AV → Mem → Prop) => F124 a0 a1 M Q := by kernel_rfl
theorem F124_ok {a0 a1 : AV} {M : Mem} {Q : AV → Mem → Prop} (h : F124 a0 a1 M Q) : CallA tb.P 124 [a0, a1] M Q :=
  calla_wZ tb_ok tb_mix fn124 (c := bodyOf Try.f124) rfl an124_ok (ks := [.a [.int .i64, .bool, .int .i64], .l .any]) (cast (congrFun (congrFun (congrFun (congrFun F124_eq a0) a1) M) Q).symm h)

def F126 (a0 a1 : AV) (M : Mem) (Q : AV → Mem → Prop) : Prop :=
  zI .u64 a0 fun z1 => zI .u64 a1 fun z2 => Q (.tup [(.val (.int .u64 (iAdd .u64 (iAdd .u64 (iMul .u64 (iShr .u64 z1 32) (iShr .u64 z2 32)) (iShr .u64 (iAdd .u64 (iMul .u64 (iShr .u64 z1 32) (iAnd .u64 z2 4294967295)) (iShr .u64 (iMul .u64 (iAnd .u64 z1 4294967295) (iAnd .u64 z2 4294967295)) 32)) 32)) (iShr .u64 (iAdd .u64 (iAnd .u64 (iAdd .u64 (iMul .u64 (iShr .u64 z1 32) (iAnd .u64 z2 4294967295)) (iShr .u64 (iMul .u64 (iAnd .u64 z1 4294967295) (iAnd .u64 z2 4294967295)) 32)) 4294967295) (iMul .u64 (iAnd .u64 z1 4294967295) (iShr .u64 z2 32))) 32)))), (.val (.int .u64 (iMul .u64 z1 z2)))]) M
def an126 : An := (.seq (.reg []) (.seq (.reg [.non, .int .u64]) (.seq (.reg [.non, .int .u64]) (.seq (.reg [.non, .int .u64]) (.seq (.reg [.non, .int .u64]) (.seq (.reg [.non, .non, .int .u64]) (.seq (.reg [.non, .non, .int .u64, .non, .int .u64, .int .u64]) (.seq (.reg [.non, .int .u64]) (.seq (.reg [.non, .int .u64]) (.seq (.reg [.non, .non, .non, .int .u64, .int .u64]) (.seq (.reg [.non, .non, .int .u64, .non, .int .u64, .non, .int .u64, .int .u64]) (.seq (.reg [.non, .non, .int .u64]) .z))))))))))))
theorem fn126 : tb.fn.get 126 = some Try.f126 := by kernel_rfl
theorem an126_ok : anB tb Try.f126.ntmps an126 (bodyOf Try.f126) = true := by kernel_rfl
theorem F126_eq : (fun (a0 a1 : AV) (M : Mem) (Q : AV → Mem → Prop) => zCs [.l (.int .u64), .l (.int .u64)] [a0, a1] fun args => wZ tb an126 (bodyOf Try.f126) (enterA Try.f126 args M) (retQ tb Try.f126 Q)) = fun (a0 a1 : AV) (M : Mem) (Q : AV → Mem → Prop) => F126 a0 a1 M Q := by kernel_rfl
theorem F126_ok {a0 a1 : AV} {M : Mem} {Q : AV → Mem → Prop} (h : F126 a0 a1 M Q) : CallA tb.P 126 [a0, a1] M Q :=
  calla_wZ tb_ok tb_mix fn126 (c := bodyOf Try.f126) rfl an126_ok (ks := [.l (.int .u64), .l (.int .u64)]) (cast (congrFun (congrFun (congrFun (congrFun F126_eq a0) a1) M) Q).symm h)

def F127 (a0 a1 : AV) (M : Mem) (Q : AV → Mem → Prop) : Prop :=
  ∃ (z1 : Int) (z2 : Int) (z3 : Int) (z4 : Int) (z5 : Int), a0 = (.agg [(.val (.int .i64 z1)), (.val (.int .i64 z2)), (.val (.int .i64 z3)), (.val (.int .i64 z4)), (.val (.int .i64 z5))]) ∧
  ∃ (z6 : Int) (z7 : Int), a1 = (.agg [(.val (.int .i64 z6)), (.val (.int .i64 z7))]) ∧
  letP (M.new (.cells [(.val (.int .i64 z1)), (.val (.int .i64 z2)), (.val (.int .i64 z3)), (.val (.int .i64 z4)), (.val (.int .i64 z5))] true)) fun M8 => letP (M8.new (.cells [(.val (.int .i64 z6)), (.val (.int .i64 z7))] true)) fun M9 => letP (fun (b33 : Bool) (M34 : Mem) => Q (.val (.bool b33)) M34) fun K35 => bindO (eLd tb 23 (.ptr M.next 0) M9) fun y10 => ∃ (z11 : Int) (z12 : Int) (z13 : Int) (z14 : Int) (z15 : Int), y10.1 =
  (.agg [(.val (.int .i64 z11)), (.val (.int .i64 z12)), (.val (.int .i64 z13)), (.val (.int .i64 z14)), (.val (.int .i64 z15))]) ∧
  (CallA tb.P 102 [(.agg [(.val (.int .i64 z11)), (.val (.int .i64 z12)), (.val (.int .i64 z13)), (.val (.int .i64 z14)), (.val (.int .i64 z15))])] M9 fun y16 M17 => zB y16 fun b18 => condB (b18) (bindO (eLd tb 3 (.ptr M8.next 0) M17) fun y19 => zI .i64 y19.1 fun z20 => bindO (eLd tb 3 (.ptr M.next 0) M17) fun y21 => zI .i64 y21.1 fun z22 => CallA tb.P 120 [(.val (.int .i64 z20)), (.val (.int .i64 0)), (.val (.int .i64 (iSub .i64 z22 1)))] M17 fun y23 M24 => zB y23 fun b25 => condB (b25) (bindO (eLd tb 3 (.ptr M8.next 1) M24) fun y26 => zI .i64 y26.1 fun z27 => bindO (eLd tb 3 (.ptr M.next 1) M24) fun y28 => zI .i64 y28.1 fun z29 => CallA tb.P 120 [(.val (.int .i64 z27)), (.val (.int .i64 0)), (.val (.int .i64 (iSub .i64 z29 1)))] M24 fun y30 M31 => zB y30 fun b32 => K35 b32 M31) (K35 false M24)) (K35 false M17))
def an127 : An := (.seq (.reg []) (.seq (.reg [.agg [.int .i64, .int .i64, .int .i64, .int .i64, .int .i64], .bool, .spl, .ptr, .int .i64, .ptr, .int .i64, .int .i64, .bool, .non, .spl, .ptr, .int .i64, .ptr, .int .i64, .int .i64, .bool]) .z))
theorem fn127 : tb.fn.get 127 = some Try.f127 := by kernel_rfl
theorem an127_ok : anB tb Try.f127.ntmps an127 (bodyOf Try.f127) = true := by kernel_rfl
theorem F127_eq : (fun (a0 a1 : AV) (M : Mem) (Q : AV → Mem → Prop) => zCs [.a [.int .i64, .int .i64, .int .i64, .int .i64, .int .i64], .a [.int .i64, .int .i64]] [a0, a1] fun args => wZ tb an127 (bodyOf Try.f127) (enterA Try.f127 args M) (retQ tb Try.f127 Q)) = fun (a0 a1 : AV) (M : Mem) (Q : AV → Mem → Prop) => F127 a0 a1 M Q := by kernel_rfl
theorem F127_ok {a0 a1 : AV} {M : Mem} {Q : AV → Mem → Prop} (h : F127 a0 a1 M Q) : CallA tb.P 127 [a0, a1] M Q :=
  calla_wZ tb_ok tb_mix fn127 (c := bodyOf Try.f127) rfl an127_ok (ks := [.a [.int .i64, .int .i64, .int .i64, .int .i64, .int .i64], .a [.int .i64, .int .i64]]) (cast (congrFun (congrFun (congrFun (congrFun F127_eq a0) a1) M) Q).symm h)

end Go.Proofs.Ytjffimbigamadaa
