/- Functions as what has to be shown. (Printed by pr.py.) -/
import Derived.Test.YtpfifmemkbddjaaTb1
import Derived.Test.YtpfifmemkbddjaaA37
set_option linter.unusedSimpArgs false
namespace Go.Proofs.Ytpfifmemkbddjaa
open Go.AM
set_option linter.unusedVariables false

def F3 (a0 a1 : AV) (M : Mem) (Q : AV → Mem → Prop) : Prop :=
  zI .u32 a1 fun z1 => bindO (eLen tb false 22 a0 M) fun y2 => zI .i64 y2.1 fun z3 => condB (decide (z3 > (500 : Int))) (CallA tb.P 12 [] M fun y4 M5 => zB y4 fun b6 => Q (.val (.bool b6)) M5) (CallA tb.P 13 [a0] M fun y7 M8 => letP (fun (b27 : Bool) (M28 : Mem) => Q (.val (.bool b27)) M28) fun K29 => CallA tb.P 14 [y7] M8 fun y9 M10 => zI .u32 y9 fun z11 => CallA tb.P 15 [a0] M10 fun y12 M13 => zI .u32 y12 fun z14 => condB (z11 ==
  z14) (CallA tb.P 16 [(.val (.int .u32 z1)), y7] M13 fun y15 M16 => zI .u32 y15 fun z17 => CallA tb.P 17 [(.val (.int .u32 z1)), a0] M16 fun y18 M19 => zI .u32 y18 fun z20 => condB (z17 ==
  z20) (CallA tb.P 18 [y7, a0] M19 fun y21 M22 => zB y21 fun b23 => condB (b23) (CallA tb.P 12 [] M22 fun y24 M25 => zB y24 fun b26 => K29 b26 M25) (K29 false M22)) (K29 false M19)) (K29 false M13))
def an3 : An := (.seq (.reg []) (.seq (.seq (.reg [.non, .int .i64, .bool]) (.cnd (.seq (.reg [.bool]) .z) .z)) (.seq (.reg []) (.seq (.reg [.non, .int .u32, .non, .int .u32, .bool, .spl, .non, .non, .int .u32, .non, .non, .int .u32, .bool, .non, .spl, .non, .non, .bool, .non, .spl, .bool]) .z))))
theorem fn3 : tb.fn.get 3 = some Try.f3 := by kernel_rfl
theorem an3_ok : anB tb Try.f3.ntmps an3 (bodyOf Try.f3) = true := by kernel_rfl
theorem F3_eq : (fun (a0 a1 : AV) (M : Mem) (Q : AV → Mem → Prop) => zCs [.l .any, .l (.int .u32)] [a0, a1] fun args => wZ tb an3 (bodyOf Try.f3) (enterA Try.f3 args M) (retQ tb Try.f3 Q)) = fun (a0 a1 : AV) (M : Mem) (Q : AV → Mem → Prop) => F3 a0 a1 M Q := by kernel_rfl
theorem F3_ok {a0 a1 : AV} {M : Mem} {Q : AV → Mem → Prop} (h : F3 a0 a1 M Q) : CallA tb.P 3 [a0, a1] M Q :=
  calla_wZ tb_ok tb_mix fn3 (c := bodyOf Try.f3) rfl an3_ok (ks := [.l .any, .l (.int .u32)]) (cast (congrFun (congrFun (congrFun (congrFun F3_eq a0) a1) M) Q).symm h)

def F4 (a0 a1 a2 : AV) (M : Mem) (Q : AV → Mem → Prop) : Prop :=
  zI .i64 a1 fun z1 => letP (fun (x6 : AV) (b7 : Bool) => condB (b7) (CallA tb.P 12 [] M fun y9 M10 => zB y9 fun b11 => Q (.val (.bool b11)) M10) (bindO (eLen tb false 22 a0 M) fun y12 => zI .i64 y12.1 fun z13 => CallA tb.P 19 [(.val (.int .i64 z1)), (.val (.int .i64 (iAdd .i64 z13 1)))] M fun y14 M15 => zI .i64 y14 fun z16 => bindO (eLen tb false 22 a0 M15) fun y17 => zI .i64 y17.1 fun z18 => bindO (eLen tb false 22 x6 M15) fun y19 => zI .i64 y19.1 fun z20 => bindO (eMin tb #[3, 3] 3 [.int .i64 z18, .int .i64 z20] M15) fun y21 => zI .i64 y21.1 fun z22 => ∃ J23 : AV → AV → Int → Nat → Mem → Prop, (∃ n24 : Nat, J23 (.val (.slice none 0 0)) (.val (.slice none 0 0)) (0 : Int) n24 M15) ∧
  ∀ (_ : Nat → Option AV) (x25 : AV) (x26 : AV) (z27 : Int) (n28 : Nat) (M29 : Mem), J23 x25 x26 z27 n28 M29 →
  (condB (decide (z27 < z22)) (letP (⟨M29.next + 1, M29.rows⟩ : Mem) fun M30 => bindO (eIA tb 22 a0 (.val (.int .i64 z27)) M30) fun y31 => zP y31.1 fun p32 o33 => bindO (eIA tb 22 x6 (.val (.int .i64 z27)) M30) fun y34 => zP y34.1 fun p35 o36 => bindO (eLd tb 5 (.ptr p32 o33) M30) fun y37 => zI .u8 y37.1 fun z38 => bindO (eLd tb 5 (.ptr p35 o36) M30) fun y39 => zI .u8 y39.1 fun z40 => letP (M30.put M29.next (.cells [(.val (.int .u8 (iXor .u8 z38 z40)))] true)) fun M41 => bindO (evAppend tb 22 22 x25 (.sl M29.next 0 1 1 none) M41) fun y42 => letP (y42.2.new (.cells [(.val (.int .u8 0))] true)) fun M43 => bindO (evAppend tb 22 22 x26 (.sl y42.2.next 0 1 1 none) M43) fun y44 => ∃ k45 : Nat, k45 < n28 ∧
  (J23 y42.1 y44.1 (iAdd .i64 z27 1) k45 y44.2)) (letP (fun (b74 : Bool) (M75 : Mem) => Q (.val (.bool b74)) M75) fun K76 => bindO (eSl tb 22 a0 none (some (.val (.int .i64 z16))) none M29) fun y46 => bindO (eSl tb 22 a0 (some (.val (.int .i64 z16))) none none M29) fun y47 => CallA tb.P 14 [y46.1] M29 fun y48 M49 => zI .u32 y48 fun z50 => CallA tb.P 16 [(.val (.int .u32 z50)), y47.1] M49 fun y51 M52 => zI .u32 y51 fun z53 => CallA tb.P 14 [a0] M52 fun y54 M55 => zI .u32 y54 fun z56 => condB (z53 ==
  z56) (bindO (eSl tb 22 a0 none (some (.val (.int .i64 z22))) none M55) fun y57 => bindO (eSl tb 22 x6 none (some (.val (.int .i64 z22))) none M55) fun y58 => CallA tb.P 14 [x25] M55 fun y59 M60 => zI .u32 y59 fun z61 => CallA tb.P 14 [y57.1] M60 fun y62 M63 => zI .u32 y62 fun z64 => CallA tb.P 14 [y58.1] M63 fun y65 M66 => zI .u32 y65 fun z67 => CallA tb.P 14 [x26] M66 fun y68 M69 => zI .u32 y68 fun z70 => condB (z61 ==
  (iXor .u32 (iXor .u32 z64 z67) z70)) (CallA tb.P 12 [] M69 fun y71 M72 => zB y71 fun b73 => K76 b73 M72) (K76 false M69)) (K76 false M55))))) fun K8 => bindO (eLen tb false 22 a0 M) fun y2 => zI .i64 y2.1 fun z3 => condB (decide (z3 > (300 : Int))) (K8 a2 true) (bindO (eLen tb false 22 a2 M) fun y4 => zI .i64 y4.1 fun z5 => K8 a2 (decide (z5 > (300 : Int))))
def an4 : An := (.seq (.reg []) (.seq (.seq (.reg [.non, .int .i64, .bool, .spl, .non, .int .i64, .bool]) (.cnd (.seq (.reg [.bool]) .z) .z)) (.seq (.reg [.non, .non, .int .i64, .int .i64, .int .i64]) (.seq (.reg [.non, .int .i64, .non, .int .i64, .int .i64]) (.seq (.reg []) (.seq (.seq (.reg []) (.blk (.lop [(8, .any), (9, .any), (10, .int .i64)] [30, 31, 32, 33, 34, 35, 36, 37, 38, 39, 40, 41, 42, 43, 44, 45, 46, 47, 48, 49] (.seq (.seq (.reg [.non, .non, .bool]) (.cnd .z .z)) (.seq (.blk (.seq (.opn [(0, []), (1, []), (2, []), (3, []), (5, []), (6, []), (7, []), (4, []), (8, []), (9, []), (10, []), (11, []), (12, [])] [0, 0, 0, 0, 0, 0, 0, 0, 0, 0, 0, 0, 0] [] 1 [.non, .non, .non, .ptr, .non, .non, .ptr, .int .u8, .int .u8, .int .u8, .non, .non, .non]) (.reg []))) (.reg [.non, .int .i64])))))) (.seq (.opn [(0, []), (1, []), (2, []), (4, []), (5, []), (6, []), (8, []), (3, []), (7, []), (9, []), (10, []), (11, []), (12, []), (14, []), (15, []), (16, []), (18, []), (19, []), (20, []), (23, []), (13, []), (17, []), (21, []), (22, []), (24, []), (25, []), (26, []), (27, []), (28, []), (29, []), (30, []), (31, [])] [] [] 0 [.non, .non, .non, .non, .non, .non, .non, .int .u32, .int .u32, .int .u32, .bool, .spl, .non, .non, .non, .non, .non, .non, .non, .non, .int .u32, .int .u32, .int .u32, .int .u32, .int .u32, .int .u32, .bool, .non, .spl, .bool, .non, .non]) .z)))))))
theorem fn4 : tb.fn.get 4 = some Try.f4 := by kernel_rfl
theorem an4_ok : anB tb Try.f4.ntmps an4 (bodyOf Try.f4) = true := by kernel_rfl
theorem F4_eq : (fun (a0 a1 a2 : AV) (M : Mem) (Q : AV → Mem → Prop) => zCs [.l .any, .l (.int .i64), .l .any] [a0, a1, a2] fun args => wZ tb an4 (bodyOf Try.f4) (enterA Try.f4 args M) (retQ tb Try.f4 Q)) = fun (a0 a1 a2 : AV) (M : Mem) (Q : AV → Mem → Prop) => F4 a0 a1 a2 M Q := by kernel_rfl
theorem F4_ok {a0 a1 a2 : AV} {M : Mem} {Q : AV → Mem → Prop} (h : F4 a0 a1 a2 M Q) : CallA tb.P 4 [a0, a1, a2] M Q :=
  calla_wZ tb_ok tb_mix fn4 (c := bodyOf Try.f4) rfl an4_ok (ks := [.l .any, .l (.int .i64), .l .any]) (cast (congrFun (congrFun (congrFun (congrFun (congrFun F4_eq a0) a1) a2) M) Q).symm h)

def F5 (a0 a1 a2 : AV) (M : Mem) (Q : AV → Mem → Prop) : Prop :=
  zI .i64 a1 fun z1 => zB a2 fun b2 => letP (fun (b7 : Bool) => condB (b7) (CallA tb.P 12 [] M fun y9 M10 => zB y9 fun b11 => Q (.val (.bool b11)) M10) (bindO (eLen tb false 22 a0 M) fun y12 => zI .i64 y12.1 fun z13 => CallA tb.P 19 [(.val (.int .i64 z1)), (.val (.int .i64 (iMul .i64 8 z13)))] M fun y14 M15 => zI .i64 y14 fun z16 => bindO (evAppend tb 22 22 (.val (.slice none 0 0)) a0 M15) fun y17 => bindO (eIA tb 22 y17.1 (.val (.int .i64 (iQuo .i64 z16 8))) y17.2) fun y18 => zP y18.1 fun p19 o20 => bindO (eBin tb .shl 5 (.const (.int .u8 1)) (.tmp 30) (.val (.int .u8 1)) (.val (.int .i64 (Int.tmod z16 8))) y17.2) fun y21 => zI .u8 y21.1 fun z22 => bindO (eLd tb 5 (.ptr p19 o20) y17.2) fun y23 => zI .u8 y23.1 fun z24 => bindO (eIA tb 22 y17.1 (.val (.int .i64 (iQuo .i64 z16 8))) y17.2) fun y25 => zP y25.1 fun p26 o27 => bindO (eSt tb 5 (.ptr p26 o27) (.val (.int .u8 (iXor .u8 z24 z22))) y17.2) fun y28 => letP (fun (M44 : Mem) => letP (fun (b55 : Bool) (M56 : Mem) => Q (.val (.bool b55)) M56) fun K57 => CallA tb.P 14 [y17.1] M44 fun y46 M47 => zI .u32 y46 fun z48 => CallA tb.P 14 [a0] M47 fun y49 M50 => zI .u32 y49 fun z51 => condB (z48 !=
  z51) (CallA tb.P 12 [] M50 fun y52 M53 => zB y52 fun b54 => K57 b54 M53) (K57 false M50)) fun K45 => letP (fun (b31 : Bool) => condB (b31) (bindO (eIA tb 22 y17.1 (.val (.int .i64 (iQuo .i64 (iAdd .i64 z16 1) 8))) y28.2) fun y33 => zP y33.1 fun p34 o35 => bindO (eBin tb .shl 5 (.const (.int .u8 1)) (.tmp 51) (.val (.int .u8 1)) (.val (.int .i64 (Int.tmod (iAdd .i64 z16 1) 8))) y28.2) fun y36 => zI .u8 y36.1 fun z37 => bindO (eLd tb 5 (.ptr p34 o35) y28.2) fun y38 => zI .u8 y38.1 fun z39 => bindO (eIA tb 22 y17.1 (.val (.int .i64 (iQuo .i64 (iAdd .i64 z16 1) 8))) y28.2) fun y40 => zP y40.1 fun p41 o42 => bindO (eSt tb 5 (.ptr p41 o42) (.val (.int .u8 (iXor .u8 z39 z37))) y28.2) fun y43 => K45 y43.2) (K45 y28.2)) fun K32 => condB (b2) (bindO (eLen tb false 22 a0 y28.2) fun y29 => zI .i64 y29.1 fun z30 => K32 (decide ((iAdd .i64 z16 1) < (iMul .i64 8 z30)))) (K32 false))) fun K8 => bindO (eLen tb false 22 a0 M) fun y3 => zI .i64 y3.1 fun z4 => condB (decide (z4 > (300 : Int))) (K8 true) (bindO (eLen tb false 22 a0 M) fun y5 => zI .i64 y5.1 fun z6 => K8 (z6 ==
  (0 : Int)))
def an5 : An := (.seq (.reg []) (.seq (.seq (.reg [.non, .int .i64, .bool, .spl, .non, .int .i64, .bool]) (.cnd (.seq (.reg [.bool]) .z) .z)) (.seq (.reg [.non, .non, .int .i64, .int .i64, .int .i64]) (.seq (.reg []) (.seq (.opn [(0, []), (1, []), (2, []), (3, []), (5, []), (6, []), (7, []), (4, []), (8, []), (9, []), (10, [])] [] [] 0 [.non, .non, .int .i64, .ptr, .non, .int .i64, .int .u8, .int .u8, .int .u8, .ptr, .non]) (.seq (.seq (.reg [.non, .spl, .non, .int .i64, .non, .int .i64, .int .i64, .bool]) (.cnd (.opn [(0, []), (1, []), (2, []), (3, []), (4, []), (6, []), (7, []), (8, []), (9, []), (5, []), (10, []), (11, []), (12, [])] [] [] 0 [.non, .non, .int .i64, .int .i64, .ptr, .non, .int .i64, .int .i64, .int .u8, .int .u8, .int .u8, .ptr, .non]) .z)) (.seq (.reg [.non, .int .u32, .non, .int .u32, .bool, .spl, .bool]) .z)))))))
theorem fn5 : tb.fn.get 5 = some Try.f5 := by kernel_rfl
theorem an5_ok : anB tb Try.f5.ntmps an5 (bodyOf Try.f5) = true := by kernel_rfl
theorem F5_eq : (fun (a0 a1 a2 : AV) (M : Mem) (Q : AV → Mem → Prop) => zCs [.l .any, .l (.int .i64), .l .bool] [a0, a1, a2] fun args => wZ tb an5 (bodyOf Try.f5) (enterA Try.f5 args M) (retQ tb Try.f5 Q)) = fun (a0 a1 a2 : AV) (M : Mem) (Q : AV → Mem → Prop) => F5 a0 a1 a2 M Q := by kernel_rfl
theorem F5_ok {a0 a1 a2 : AV} {M : Mem} {Q : AV → Mem → Prop} (h : F5 a0 a1 a2 M Q) : CallA tb.P 5 [a0, a1, a2] M Q :=
  calla_wZ tb_ok tb_mix fn5 (c := bodyOf Try.f5) rfl an5_ok (ks := [.l .any, .l (.int .i64), .l .bool]) (cast (congrFun (congrFun (congrFun (congrFun (congrFun F5_eq a0) a1) a2) M) Q).symm h)

def F6 (a0 a1 : AV) (M : Mem) (Q : AV → Mem → Prop) : Prop :=
  ∃ (z1 : Int) (z2 : Int) (z3 : Int) (z4 : Int), a1 = (.agg [(.val (.int .i64 z1)), (.val (.int .i64 z2)), (.val (.int .i64 z3)), (.val (.int .i64 z4))]) ∧
  letP (M.new (.cells [(.val (.int .i64 z1)), (.val (.int .i64 z2)), (.val (.int .i64 z3)), (.val (.int .i64 z4))] true)) fun M5 => bindO (eLen tb false 22 a0 M5) fun y6 => zI .i64 y6.1 fun z7 => condB (decide (z7 > (100 : Int))) (CallA tb.P 20 [] M5 fun y8 M9 => zB y8 fun b10 => Q (.val (.bool b10)) M9) (CallA tb.P 13 [a0] M5 fun y11 M12 => bindO (eLd tb 34 (.ptr M.next 0) M12) fun y13 => ∃ (z14 : Int) (z15 : Int) (z16 : Int) (z17 : Int), y13.1 =
  (.agg [(.val (.int .i64 z14)), (.val (.int .i64 z15)), (.val (.int .i64 z16)), (.val (.int .i64 z17))]) ∧
  (CallA tb.P 21 [y11, (.agg [(.val (.int .i64 z14)), (.val (.int .i64 z15)), (.val (.int .i64 z16)), (.val (.int .i64 z17))])] M12 fun y18 M19 => ∃ (x20 : AV) (z21 : Int), y18 =
  (.tup [x20, (.val (.int .i64 z21))]) ∧ (bindO (eLd tb 34 (.ptr M.next 0) M19) fun y22 => ∃ (z23 : Int) (z24 : Int) (z25 : Int) (z26 : Int), y22.1 =
  (.agg [(.val (.int .i64 z23)), (.val (.int .i64 z24)), (.val (.int .i64 z25)), (.val (.int .i64 z26))]) ∧
  (CallA tb.P 22 [a0, (.agg [(.val (.int .i64 z23)), (.val (.int .i64 z24)), (.val (.int .i64 z25)), (.val (.int .i64 z26))])] M19 fun y27 M28 => ∃ (x29 : AV) (z30 : Int), y27 =
  (.tup [x29, (.val (.int .i64 z30))]) ∧
  (letP (fun (b59 : Bool) (M60 : Mem) => CallA tb.P 27 [x20] M60 fun y62 M63 => letP (fun (b70 : Bool) (M71 : Mem) => Q (.val (.bool b70)) M71) fun K72 => condB (b59) (CallA tb.P 18 [y11, a0] M63 fun y64 M65 => zB y64 fun b66 => condB (b66) (CallA tb.P 20 [] M65 fun y67 M68 => zB y67 fun b69 => K72 b69 M68) (K72 false M65)) (K72 false M63)) fun K61 => CallA tb.P 23 [x20, x29] M28 fun y31 M32 => zB y31 fun b33 => condB (b33) (CallA tb.P 24 [(.val (.int .i64 z21))] M32 fun y34 M35 => zI .i64 y34 fun z36 => condB (z36 ==
  z30) (bindO (eLd tb 34 (.ptr M.next 0) M35) fun y37 => ∃ (z38 : Int) (z39 : Int) (z40 : Int) (z41 : Int), y37.1 =
  (.agg [(.val (.int .i64 z38)), (.val (.int .i64 z39)), (.val (.int .i64 z40)), (.val (.int .i64 z41))]) ∧
  (bindO (eLd tb 34 (.ptr M.next 0) M35) fun y42 => ∃ (z43 : Int) (z44 : Int) (z45 : Int) (z46 : Int), y42.1 =
  (.agg [(.val (.int .i64 z43)), (.val (.int .i64 z44)), (.val (.int .i64 z45)), (.val (.int .i64 z46))]) ∧
  (CallA tb.P 25 [(.agg [(.val (.int .i64 z38)), (.val (.int .i64 z39)), (.val (.int .i64 z40)), (.val (.int .i64 z41))])] M35 fun y47 M48 => zB y47 fun b49 => (bindO (eLd tb 34 (.ptr M.next 0) M48) fun y50 => (some (.agg [(.val (.int .i64 z43)), (.val (.int .i64 z44)), (.val (.int .i64 z45)), (.val (.int .i64 z46))]) : Option AV) =
  some y50.1) ∧
  (CallA tb.P 26 [(.agg [(.val (.int .i64 z43)), (.val (.int .i64 z44)), (.val (.int .i64 z45)), (.val (.int .i64 z46))])] M48 fun y51 M52 => zB y51 fun b53 => bindO (eBin tb .eql 4 (.tmp 40) (.tmp 42) (.val (.bool b49)) (.val (.bool b53)) M52) fun y54 => zB y54.1 fun b55 => condB (b55) (CallA tb.P 18 [y11, a0] M52 fun y56 M57 => zB y56 fun b58 => K61 b58 M57) (K61 false M52))))) ((True) ∧
  (K61 false M35))) ((True) ∧ (K61 false M32)))))))
def an6 : An := (.seq (.reg []) (.seq (.seq (.reg [.non, .int .i64, .bool]) (.cnd (.seq (.reg [.bool]) .z) .z)) (.seq (.reg []) (.seq (.reg [.non, .agg [.int .i64, .int .i64, .int .i64, .int .i64], .tup [.l .any, .l (.int .i64)], .non, .non, .int .i64]) (.seq (.reg [.non, .agg [.int .i64, .int .i64, .int .i64, .int .i64], .tup [.l .any, .l (.int .i64)], .non, .non, .int .i64]) (.seq (.opn [(0, []), (1, []), (2, []), (3, []), (4, []), (6, []), (5, []), (7, []), (8, []), (9, []), (10, []), (12, []), (11, [12]), (13, []), (14, []), (15, []), (16, []), (17, []), (18, []), (19, []), (20, []), (21, [])] [] [[], [], [], [], [], [], [], [], [], [], [], [12]] 0 [.non, .non, .bool, .spl, .non, .non, .int .i64, .bool, .non, .spl, .agg [.int .i64, .int .i64, .int .i64, .int .i64], .agg [.int .i64, .int .i64, .int .i64, .int .i64], .bool, .bool, .bool, .non, .spl, .non, .non, .bool, .non, .non]) (.seq (.reg []) (.seq (.reg [.non, .spl, .non, .non, .bool, .non, .spl, .bool]) .z))))))))
theorem fn6 : tb.fn.get 6 = some Try.f6 := by kernel_rfl
theorem an6_ok : anB tb Try.f6.ntmps an6 (bodyOf Try.f6) = true := by kernel_rfl
theorem F6_eq : (fun (a0 a1 : AV) (M : Mem) (Q : AV → Mem → Prop) => zCs [.l .any, .a [.int .i64, .int .i64, .int .i64, .int .i64]] [a0, a1] fun args => wZ tb an6 (bodyOf Try.f6) (enterA Try.f6 args M) (retQ tb Try.f6 Q)) = fun (a0 a1 : AV) (M : Mem) (Q : AV → Mem → Prop) => F6 a0 a1 M Q := by kernel_rfl
theorem F6_ok {a0 a1 : AV} {M : Mem} {Q : AV → Mem → Prop} (h : F6 a0 a1 M Q) : CallA tb.P 6 [a0, a1] M Q :=
  calla_wZ tb_ok tb_mix fn6 (c := bodyOf Try.f6) rfl an6_ok (ks := [.l .any, .a [.int .i64, .int .i64, .int .i64, .int .i64]]) (cast (congrFun (congrFun (congrFun (congrFun F6_eq a0) a1) M) Q).symm h)

def F7 (a0 : AV) (M : Mem) (Q : AV → Mem → Prop) : Prop :=
  bindO (eLen tb false 22 a0 M) fun y1 => zI .i64 y1.1 fun z2 => condB (decide (z2 > (120 : Int))) (CallA tb.P 20 [] M fun y3 M4 => zB y3 fun b5 => Q (.val (.bool b5)) M4) (CallA tb.P 13 [a0] M fun y6 M7 => CallA tb.P 28 [y6] M7 fun y8 M9 => ∃ (x10 : AV) (z11 : Int) (z12 : Int) (z13 : Int) (z14 : Int) (z15 : Int), y8 =
  (.tup [x10, (.agg [(.val (.int .i64 z11)), (.val (.int .i64 z12)), (.val (.int .i64 z13)), (.val (.int .i64 z14))]), (.val (.int .i64 z15))]) ∧
  (letP (M9.new (.cells [(.val (.int .i64 0)), (.val (.int .i64 0)), (.val (.int .i64 0)), (.val (.int .i64 0))] true)) fun M16 => bindO (eSt tb 34 (.ptr M9.next 0) (.agg [(.val (.int .i64 z11)), (.val (.int .i64 z12)), (.val (.int .i64 z13)), (.val (.int .i64 z14))]) M16) fun y17 => CallA tb.P 29 [a0] y17.2 fun y18 M19 => ∃ (x20 : AV) (z21 : Int) (z22 : Int) (z23 : Int) (z24 : Int) (z25 : Int), y18 =
  (.tup [x20, (.agg [(.val (.int .i64 z21)), (.val (.int .i64 z22)), (.val (.int .i64 z23)), (.val (.int .i64 z24))]), (.val (.int .i64 z25))]) ∧
  (letP (M19.new (.cells [(.val (.int .i64 0)), (.val (.int .i64 0)), (.val (.int .i64 0)), (.val (.int .i64 0))] true)) fun M26 => bindO (eSt tb 34 (.ptr M19.next 0) (.agg [(.val (.int .i64 z21)), (.val (.int .i64 z22)), (.val (.int .i64 z23)), (.val (.int .i64 z24))]) M26) fun y27 => CallA tb.P 18 [y6, a0] y27.2 fun y28 M29 => zB y28 fun b30 => CallA tb.P 27 [y6] M29 fun y31 M32 => letP (fun (b51 : Bool) (M52 : Mem) => Q (.val (.bool b51)) M52) fun K53 => CallA tb.P 23 [x10, x20] M32 fun y33 M34 => zB y33 fun b35 => condB (b35) (bindO (eLd tb 34 (.ptr M9.next 0) M34) fun y36 => ∃ (z37 : Int) (z38 : Int) (z39 : Int) (z40 : Int), y36.1 =
  (.agg [(.val (.int .i64 z37)), (.val (.int .i64 z38)), (.val (.int .i64 z39)), (.val (.int .i64 z40))]) ∧
  (bindO (eLd tb 34 (.ptr M19.next 0) M34) fun y41 => ∃ (z42 : Int) (z43 : Int) (z44 : Int) (z45 : Int), y41.1 =
  (.agg [(.val (.int .i64 z42)), (.val (.int .i64 z43)), (.val (.int .i64 z44)), (.val (.int .i64 z45))]) ∧
  (bindO (eBin tb .eql 34 (.tmp 38) (.tmp 39) (.agg [(.val (.int .i64 z37)), (.val (.int .i64 z38)), (.val (.int .i64 z39)), (.val (.int .i64 z40))]) (.agg [(.val (.int .i64 z42)), (.val (.int .i64 z43)), (.val (.int .i64 z44)), (.val (.int .i64 z45))]) M34) fun y46 => zB y46.1 fun b47 => condB (b47) (condB (z15 ==
  z25) (condB (b30) (CallA tb.P 20 [] M34 fun y48 M49 => zB y48 fun b50 => K53 b50 M49) (K53 false M34)) (K53 false M34)) (K53 false M34)))) (K53 false M34))))
def an7 : An := (.seq (.reg []) (.seq (.seq (.reg [.non, .int .i64, .bool]) (.cnd (.seq (.reg [.bool]) .z) .z)) (.seq (.reg []) (.seq (.reg [.non, .tup [.l .any, .a [.int .i64, .int .i64, .int .i64, .int .i64], .l (.int .i64)], .non, .non, .non, .int .i64]) (.seq (.reg [.non, .tup [.l .any, .a [.int .i64, .int .i64, .int .i64, .int .i64], .l (.int .i64)], .non, .non, .non, .int .i64]) (.seq (.reg [.non, .non, .bool]) (.seq (.reg []) (.seq (.reg [.non, .non, .bool, .spl, .agg [.int .i64, .int .i64, .int .i64, .int .i64], .agg [.int .i64, .int .i64, .int .i64, .int .i64], .bool, .non, .spl, .non, .non, .bool, .non, .spl, .non, .non, .spl, .bool]) .z))))))))
theorem fn7 : tb.fn.get 7 = some Try.f7 := by kernel_rfl
theorem an7_ok : anB tb Try.f7.ntmps an7 (bodyOf Try.f7) = true := by kernel_rfl
theorem F7_eq : (fun (a0 : AV) (M : Mem) (Q : AV → Mem → Prop) => zCs [.l .any] [a0] fun args => wZ tb an7 (bodyOf Try.f7) (enterA Try.f7 args M) (retQ tb Try.f7 Q)) = fun (a0 : AV) (M : Mem) (Q : AV → Mem → Prop) => F7 a0 M Q := by kernel_rfl
theorem F7_ok {a0 : AV} {M : Mem} {Q : AV → Mem → Prop} (h : F7 a0 M Q) : CallA tb.P 7 [a0] M Q :=
  calla_wZ tb_ok tb_mix fn7 (c := bodyOf Try.f7) rfl an7_ok (ks := [.l .any]) (cast (congrFun (congrFun (congrFun F7_eq a0) M) Q).symm h)

def F8 (a0 a1 a2 a3 : AV) (M : Mem) (Q : AV → Mem → Prop) : Prop :=
  ∃ (z1 : Int) (z2 : Int) (z3 : Int) (z4 : Int), a1 = (.agg [(.val (.int .i64 z1)), (.val (.int .i64 z2)), (.val (.int .i64 z3)), (.val (.int .i64 z4))]) ∧
  zI .i64 a2 fun z5 => zI .u8 a3 fun z6 => letP (M.new (.cells [(.val (.int .i64 z1)), (.val (.int .i64 z2)), (.val (.int .i64 z3)), (.val (.int .i64 z4))] true)) fun M7 => bindO (eLen tb false 22 a0 M7) fun y8 => zI .i64 y8.1 fun z9 => condB (decide (z9 > (100 : Int))) (CallA tb.P 20 [] M7 fun y10 M11 => zB y10 fun b12 => Q (.val (.bool b12)) M11) (bindO (eLd tb 34 (.ptr M.next 0) M7) fun y13 => ∃ (z14 : Int) (z15 : Int) (z16 : Int) (z17 : Int), y13.1 =
  (.agg [(.val (.int .i64 z14)), (.val (.int .i64 z15)), (.val (.int .i64 z16)), (.val (.int .i64 z17))]) ∧
  (CallA tb.P 21 [a0, (.agg [(.val (.int .i64 z14)), (.val (.int .i64 z15)), (.val (.int .i64 z16)), (.val (.int .i64 z17))])] M7 fun y18 M19 => ∃ (x20 : AV) (z21 : Int), y18 =
  (.tup [x20, (.val (.int .i64 z21))]) ∧ (condB (z21 !=
  (0 : Int)) (letP (fun (b27 : Bool) (M28 : Mem) => Q (.val (.bool b27)) M28) fun K29 => bindO (eLen tb false 22 x20 M19) fun y22 => zI .i64 y22.1 fun z23 => condB (z23 ==
  (0 : Int)) (CallA tb.P 20 [] M19 fun y24 M25 => zB y24 fun b26 => K29 b26 M25) (K29 false M19)) (bindO (eLen tb false 22 x20 M19) fun y30 => zI .i64 y30.1 fun z31 => condB (z31 ==
  (0 : Int)) (Q (.val (.bool false)) M19) (bindO (eLen tb false 22 x20 M19) fun y32 => zI .i64 y32.1 fun z33 => CallA tb.P 19 [(.val (.int .i64 z5)), (.val (.int .i64 z33))] M19 fun y34 M35 => zI .i64 y34 fun z36 => bindO (eSl tb 22 x20 none (some (.val (.int .i64 z36))) none M35) fun y37 => bindO (evAppend tb 22 22 (.val (.slice none 0 0)) y37.1 M35) fun y38 => bindO (eLen tb false 22 x20 y38.2) fun y39 => zI .i64 y39.1 fun z40 => bindO (evMakeSlice tb 22 (.val (.int .i64 0)) (.val (.int .i64 z40)) y38.2) fun y41 => ∃ J42 : AV → AV → Int → Nat → Mem → Prop, (∃ n43 : Nat, J42 y38.1 y41.1 (0 : Int) n43 y41.2) ∧
  ∀ (_ : Nat → Option AV) (x44 : AV) (x45 : AV) (z46 : Int) (n47 : Nat) (M48 : Mem), J42 x44 x45 z46 n47 M48 →
  (bindO (eLen tb false 22 x20 M48) fun y49 => zI .i64 y49.1 fun z50 => condB (decide (z46 < z50)) (letP (fun (x53 : AV) (M54 : Mem) => letP (M54.new (.cells [(.val (.int .u8 z6))] true)) fun M56 => bindO (evAppend tb 22 22 x45 (.sl M54.next 0 1 1 none) M56) fun y57 => ∃ k58 : Nat, k58 < n47 ∧
  (J42 x53 y57.1 (iAdd .i64 z46 1) k58 y57.2)) fun K55 => condB (decide (z46 ≥ z36)) (letP (M48.new (.cells [(.val (.int .u8 255))] true)) fun M51 => bindO (evAppend tb 22 22 x44 (.sl M48.next 0 1 1 none) M51) fun y52 => K55 y52.1 y52.2) (K55 x44 M48)) (CallA tb.P 28 [x44] M48 fun y59 M60 => ∃ (x61 : AV) (z62 : Int) (z63 : Int) (z64 : Int) (z65 : Int) (z66 : Int), y59 =
  (.tup [x61, (.agg [(.val (.int .i64 z62)), (.val (.int .i64 z63)), (.val (.int .i64 z64)), (.val (.int .i64 z65))]), (.val (.int .i64 z66))]) ∧
  (letP (M60.new (.cells [(.val (.int .i64 0)), (.val (.int .i64 0)), (.val (.int .i64 0)), (.val (.int .i64 0))] true)) fun M67 => bindO (eSt tb 34 (.ptr M60.next 0) (.agg [(.val (.int .i64 z62)), (.val (.int .i64 z63)), (.val (.int .i64 z64)), (.val (.int .i64 z65))]) M67) fun y68 => CallA tb.P 28 [x45] y68.2 fun y69 M70 => ∃ (x71 : AV) (z72 : Int) (z73 : Int) (z74 : Int) (z75 : Int) (z76 : Int), y69 =
  (.tup [x71, (.agg [(.val (.int .i64 z72)), (.val (.int .i64 z73)), (.val (.int .i64 z74)), (.val (.int .i64 z75))]), (.val (.int .i64 z76))]) ∧
  (letP (M70.new (.cells [(.val (.int .i64 0)), (.val (.int .i64 0)), (.val (.int .i64 0)), (.val (.int .i64 0))] true)) fun M77 => bindO (eSt tb 34 (.ptr M70.next 0) (.agg [(.val (.int .i64 z72)), (.val (.int .i64 z73)), (.val (.int .i64 z74)), (.val (.int .i64 z75))]) M77) fun y78 => ∃ J79 : Bool → Int → Nat → Mem → Prop, (∃ n80 : Nat, J79 true z36 n80 y78.2) ∧
  ∀ (_ : Nat → Option AV) (b81 : Bool) (z82 : Int) (n83 : Nat) (M84 : Mem), J79 b81 z82 n83 M84 →
  (bindO (eLen tb false 22 x20 M84) fun y85 => zI .i64 y85.1 fun z86 => condB (decide (z82 < z86)) (letP (fun (b92 : Bool) => ∃ k94 : Nat, k94 < n83 ∧
  (J79 b92 (iAdd .i64 z82 1) k94 M84)) fun K93 => condB (b81) (bindO (eIA tb 22 x20 (.val (.int .i64 z82)) M84) fun y87 => zP y87.1 fun p88 o89 => bindO (eLd tb 5 (.ptr p88 o89) M84) fun y90 => zI .u8 y90.1 fun z91 => K93 (z91 ==
  (255 : Int))) (K93 false)) (letP (fun (z95 : Int) => letP (fun (b109 : Bool) (M110 : Mem) => Q (.val (.bool b109)) M110) fun K111 => condB (!b81) (condB (z66 !=
  (1 : Int)) (bindO (eLen tb false 22 x61 M84) fun y97 => zI .i64 y97.1 fun z98 => condB (z98 ==
  (0 : Int)) (bindO (eLd tb 34 (.ptr M60.next 0) M84) fun y99 => ∃ (z100 : Int) (z101 : Int) (z102 : Int) (z103 : Int), y99.1 =
  (.agg [(.val (.int .i64 z100)), (.val (.int .i64 z101)), (.val (.int .i64 z102)), (.val (.int .i64 z103))]) ∧
  (bindO (eBin tb .eql 34 (.tmp 112) (.tmp 113) (.agg [(.val (.int .i64 z100)), (.val (.int .i64 z101)), (.val (.int .i64 z102)), (.val (.int .i64 z103))]) (.agg [(.val (.int .i64 0)), (.val (.int .i64 0)), (.val (.int .i64 0)), (.val (.int .i64 0))]) M84) fun y104 => zB y104.1 fun b105 => condB (b105) (condB (z76 ==
  z95) (CallA tb.P 20 [] M84 fun y106 M107 => zB y106 fun b108 => K111 b108 M107) (K111 false M84)) (K111 false M84))) (K111 false M84)) (K111 false M84)) (K111 false M84)) fun K96 => condB (z6 ==
  (255 : Int)) (K96 (0 : Int)) (K96 (2 : Int)))))))))))))
def an8 : An := (.seq (.reg []) (.seq (.seq (.reg [.non, .int .i64, .bool]) (.cnd (.seq (.reg [.bool]) .z) .z)) (.seq (.reg [.non, .agg [.int .i64, .int .i64, .int .i64, .int .i64], .tup [.l .any, .l (.int .i64)], .non, .non, .int .i64]) (.seq (.seq (.reg [.non, .bool]) (.cnd (.seq (.reg [.non, .int .i64, .bool, .spl, .bool]) .z) .z)) (.seq (.seq (.reg [.non, .int .i64, .bool]) (.cnd (.seq (.reg []) .z) .z)) (.seq (.reg [.non, .non, .int .i64, .int .i64]) (.seq (.reg []) (.seq (.reg [.non, .int .i64]) (.seq (.seq (.reg []) (.blk (.lop [(11, .any), (12, .any), (13, .int .i64)] [55, 56, 57, 58, 59, 60, 61, 62, 63, 64, 65, 66, 67, 68, 69, 70] (.seq (.seq (.reg [.non, .non, .int .i64, .bool]) (.cnd .z .z)) (.seq (.blk (.seq (.seq (.reg [.non, .non, .bool]) (.cnd (.reg []) .z)) (.reg []))) (.reg [.non, .int .i64])))))) (.seq (.reg [.non, .tup [.l .any, .a [.int .i64, .int .i64, .int .i64, .int .i64], .l (.int .i64)], .non, .non, .non, .int .i64]) (.seq (.reg [.non, .tup [.l .any, .a [.int .i64, .int .i64, .int .i64, .int .i64], .l (.int .i64)], .non, .non, .non, .int .i64]) (.seq (.reg []) (.seq (.seq (.reg []) (.blk (.lop [(20, .bool), (21, .int .i64)] [84, 85, 86, 87, 88, 89, 90, 91, 92, 93, 94, 95, 96, 97] (.seq (.seq (.reg [.non, .non, .int .i64, .bool]) (.cnd .z .z)) (.seq (.blk (.reg [.non, .spl, .non, .non, .ptr, .int .u8, .bool])) (.reg [.non, .int .i64])))))) (.seq (.reg []) (.seq (.seq (.reg [.non, .bool]) (.cnd (.reg []) .z)) (.seq (.reg [.non, .bool, .spl, .non, .bool, .non, .spl, .non, .int .i64, .bool, .non, .spl, .agg [.int .i64, .int .i64, .int .i64, .int .i64], .non, .bool, .non, .spl, .non, .non, .bool, .non, .spl, .bool]) .z))))))))))))))))
theorem fn8 : tb.fn.get 8 = some Try.f8 := by kernel_rfl
theorem an8_ok : anB tb Try.f8.ntmps an8 (bodyOf Try.f8) = true := by kernel_rfl
theorem F8_eq : (fun (a0 a1 a2 a3 : AV) (M : Mem) (Q : AV → Mem → Prop) => zCs [.l .any, .a [.int .i64, .int .i64, .int .i64, .int .i64], .l (.int .i64), .l (.int .u8)] [a0, a1, a2, a3] fun args => wZ tb an8 (bodyOf Try.f8) (enterA Try.f8 args M) (retQ tb Try.f8 Q)) = fun (a0 a1 a2 a3 : AV) (M : Mem) (Q : AV → Mem → Prop) => F8 a0 a1 a2 a3 M Q := by kernel_rfl
theorem F8_ok {a0 a1 a2 a3 : AV} {M : Mem} {Q : AV → Mem → Prop} (h : F8 a0 a1 a2 a3 M Q) : CallA tb.P 8 [a0, a1, a2, a3] M Q :=
  calla_wZ tb_ok tb_mix fn8 (c := bodyOf Try.f8) rfl an8_ok (ks := [.l .any, .a [.int .i64, .int .i64, .int .i64, .int .i64], .l (.int .i64), .l (.int .u8)]) (cast (congrFun (congrFun (congrFun (congrFun (congrFun (congrFun F8_eq a0) a1) a2) a3) M) Q).symm h)

def F9 (a0 a1 a2 : AV) (M : Mem) (Q : AV → Mem → Prop) : Prop :=
  ∃ (z1 : Int) (z2 : Int) (z3 : Int) (z4 : Int), a1 = (.agg [(.val (.int .i64 z1)), (.val (.int .i64 z2)), (.val (.int .i64 z3)), (.val (.int .i64 z4))]) ∧
  zI .i64 a2 fun z5 => letP (M.new (.cells [(.val (.int .i64 z1)), (.val (.int .i64 z2)), (.val (.int .i64 z3)), (.val (.int .i64 z4))] true)) fun M6 => bindO (eLen tb false 22 a0 M6) fun y7 => zI .i64 y7.1 fun z8 => condB (decide (z8 > (100 : Int))) (CallA tb.P 20 [] M6 fun y9 M10 => zB y9 fun b11 => Q (.val (.bool b11)) M10) (bindO (eLd tb 34 (.ptr M.next 0) M6) fun y12 => ∃ (z13 : Int) (z14 : Int) (z15 : Int) (z16 : Int), y12.1 =
  (.agg [(.val (.int .i64 z13)), (.val (.int .i64 z14)), (.val (.int .i64 z15)), (.val (.int .i64 z16))]) ∧
  (CallA tb.P 21 [a0, (.agg [(.val (.int .i64 z13)), (.val (.int .i64 z14)), (.val (.int .i64 z15)), (.val (.int .i64 z16))])] M6 fun y17 M18 => ∃ (x19 : AV) (z20 : Int), y17 =
  (.tup [x19, (.val (.int .i64 z20))]) ∧ (condB (z20 != (0 : Int)) (letP (fun (b24 : Bool) (M25 : Mem) => Q (.val (.bool b24)) M25) fun K26 => condB (z20 ==
  (2 : Int)) (CallA tb.P 20 [] M18 fun y21 M22 => zB y21 fun b23 => K26 b23 M22) (K26 false M18)) (CallA tb.P 28 [x19] M18 fun y27 M28 => ∃ (x29 : AV) (z30 : Int) (z31 : Int) (z32 : Int) (z33 : Int) (z34 : Int), y27 =
  (.tup [x29, (.agg [(.val (.int .i64 z30)), (.val (.int .i64 z31)), (.val (.int .i64 z32)), (.val (.int .i64 z33))]), (.val (.int .i64 z34))]) ∧
  (letP (M28.new (.cells [(.val (.int .i64 0)), (.val (.int .i64 0)), (.val (.int .i64 0)), (.val (.int .i64 0))] true)) fun M35 => bindO (eSt tb 34 (.ptr M28.next 0) (.agg [(.val (.int .i64 z30)), (.val (.int .i64 z31)), (.val (.int .i64 z32)), (.val (.int .i64 z33))]) M35) fun y36 => letP (fun (b56 : Bool) (M57 : Mem) => condB (b56) (Q (.val (.bool false)) M57) (bindO (eLen tb false 22 x19 M57) fun y59 => zI .i64 y59.1 fun z60 => CallA tb.P 19 [(.val (.int .i64 z5)), (.val (.int .i64 (iMul .i64 8 z60)))] M57 fun y61 M62 => zI .i64 y61 fun z63 => bindO (evAppend tb 22 22 (.val (.slice none 0 0)) x19 M62) fun y64 => bindO (eIA tb 22 y64.1 (.val (.int .i64 (iQuo .i64 z63 8))) y64.2) fun y65 => zP y65.1 fun p66 o67 => bindO (eBin tb .shl 5 (.const (.int .u8 1)) (.tmp 73) (.val (.int .u8 1)) (.val (.int .i64 (Int.tmod z63 8))) y64.2) fun y68 => zI .u8 y68.1 fun z69 => bindO (eLd tb 5 (.ptr p66 o67) y64.2) fun y70 => zI .u8 y70.1 fun z71 => bindO (eIA tb 22 y64.1 (.val (.int .i64 (iQuo .i64 z63 8))) y64.2) fun y72 => zP y72.1 fun p73 o74 => bindO (eSt tb 5 (.ptr p73 o74) (.val (.int .u8 (iXor .u8 z71 z69))) y64.2) fun y75 => CallA tb.P 28 [y64.1] y75.2 fun y76 M77 => ∃ (x78 : AV) (z79 : Int) (z80 : Int) (z81 : Int) (z82 : Int) (z83 : Int), y76 =
  (.tup [x78, (.agg [(.val (.int .i64 z79)), (.val (.int .i64 z80)), (.val (.int .i64 z81)), (.val (.int .i64 z82))]), (.val (.int .i64 z83))]) ∧
  (letP (M77.new (.cells [(.val (.int .i64 0)), (.val (.int .i64 0)), (.val (.int .i64 0)), (.val (.int .i64 0))] true)) fun M84 => bindO (eSt tb 34 (.ptr M77.next 0) (.agg [(.val (.int .i64 z79)), (.val (.int .i64 z80)), (.val (.int .i64 z81)), (.val (.int .i64 z82))]) M84) fun y85 => letP (fun (b89 : Bool) (M90 : Mem) => Q (.val (.bool b89)) M90) fun K91 => condB (z83 ==
  (2 : Int)) (CallA tb.P 20 [] y85.2 fun y86 M87 => zB y86 fun b88 => K91 b88 M87) (K91 false y85.2)))) fun K58 => CallA tb.P 23 [x29, a0] y36.2 fun y37 M38 => zB y37 fun b39 => condB (!b39) (K58 true M38) (bindO (eLd tb 34 (.ptr M28.next 0) M38) fun y40 => ∃ (z41 : Int) (z42 : Int) (z43 : Int) (z44 : Int), y40.1 =
  (.agg [(.val (.int .i64 z41)), (.val (.int .i64 z42)), (.val (.int .i64 z43)), (.val (.int .i64 z44))]) ∧
  (bindO (eLd tb 34 (.ptr M.next 0) M38) fun y45 => ∃ (z46 : Int) (z47 : Int) (z48 : Int) (z49 : Int), y45.1 =
  (.agg [(.val (.int .i64 z46)), (.val (.int .i64 z47)), (.val (.int .i64 z48)), (.val (.int .i64 z49))]) ∧
  (bindO (eBin tb .neq 34 (.tmp 44) (.tmp 45) (.agg [(.val (.int .i64 z41)), (.val (.int .i64 z42)), (.val (.int .i64 z43)), (.val (.int .i64 z44))]) (.agg [(.val (.int .i64 z46)), (.val (.int .i64 z47)), (.val (.int .i64 z48)), (.val (.int .i64 z49))]) M38) fun y50 => zB y50.1 fun b51 => condB (b51) (K58 true M38) (condB (z34 !=
  (1 : Int)) (K58 true M38) (bindO (eLen tb false 22 x19 M38) fun y52 => zI .i64 y52.1 fun z53 => bindO (eLen tb false 22 a0 M38) fun y54 => zI .i64 y54.1 fun z55 => K58 (z53 !=
  (iAdd .i64 z55 16)) M38))))))))))
def an9 : An := (.seq (.reg []) (.seq (.seq (.reg [.non, .int .i64, .bool]) (.cnd (.seq (.reg [.bool]) .z) .z)) (.seq (.reg [.non, .agg [.int .i64, .int .i64, .int .i64, .int .i64], .tup [.l .any, .l (.int .i64)], .non, .non, .int .i64]) (.seq (.seq (.reg [.non, .bool]) (.cnd (.seq (.reg [.non, .bool, .spl, .bool]) .z) .z)) (.seq (.reg [.non, .tup [.l .any, .a [.int .i64, .int .i64, .int .i64, .int .i64], .l (.int .i64)], .non, .non, .non, .int .i64]) (.seq (.seq (.reg [.non, .non, .bool, .bool, .spl, .agg [.int .i64, .int .i64, .int .i64, .int .i64], .agg [.int .i64, .int .i64, .int .i64, .int .i64], .bool, .non, .spl, .non, .bool, .non, .spl, .non, .int .i64, .non, .int .i64, .int .i64, .bool]) (.cnd (.seq (.reg []) .z) .z)) (.seq (.reg [.non, .non, .int .i64, .int .i64, .int .i64]) (.seq (.reg []) (.seq (.opn [(0, []), (1, []), (2, []), (3, []), (5, []), (6, []), (7, []), (4, []), (8, []), (9, []), (10, [])] [] [] 0 [.non, .non, .int .i64, .ptr, .non, .int .i64, .int .u8, .int .u8, .int .u8, .ptr, .non]) (.seq (.reg [.non, .tup [.l .any, .a [.int .i64, .int .i64, .int .i64, .int .i64], .l (.int .i64)], .non, .non, .non, .int .i64]) (.seq (.reg [.non, .bool, .spl, .bool]) .z)))))))))))
theorem fn9 : tb.fn.get 9 = some Try.f9 := by kernel_rfl
theorem an9_ok : anB tb Try.f9.ntmps an9 (bodyOf Try.f9) = true := by kernel_rfl
theorem F9_eq : (fun (a0 a1 a2 : AV) (M : Mem) (Q : AV → Mem → Prop) => zCs [.l .any, .a [.int .i64, .int .i64, .int .i64, .int .i64], .l (.int .i64)] [a0, a1, a2] fun args => wZ tb an9 (bodyOf Try.f9) (enterA Try.f9 args M) (retQ tb Try.f9 Q)) = fun (a0 a1 a2 : AV) (M : Mem) (Q : AV → Mem → Prop) => F9 a0 a1 a2 M Q := by kernel_rfl
theorem F9_ok {a0 a1 a2 : AV} {M : Mem} {Q : AV → Mem → Prop} (h : F9 a0 a1 a2 M Q) : CallA tb.P 9 [a0, a1, a2] M Q :=
  calla_wZ tb_ok tb_mix fn9 (c := bodyOf Try.f9) rfl an9_ok (ks := [.l .any, .a [.int .i64, .int .i64, .int .i64, .int .i64], .l (.int .i64)]) (cast (congrFun (congrFun (congrFun (congrFun (congrFun F9_eq a0) a1) a2) M) Q).symm h)

def F10 (a0 a1 a2 a3 : AV) (M : Mem) (Q : AV → Mem → Prop) : Prop :=
  ∃ (z1 : Int) (z2 : Int) (z3 : Int) (z4 : Int), a1 = (.agg [(.val (.int .i64 z1)), (.val (.int .i64 z2)), (.val (.int .i64 z3)), (.val (.int .i64 z4))]) ∧
  ∃ (z5 : Int) (z6 : Int) (z7 : Int) (z8 : Int), a3 = (.agg [(.val (.int .i64 z5)), (.val (.int .i64 z6)), (.val (.int .i64 z7)), (.val (.int .i64 z8))]) ∧
  letP (M.new (.cells [(.val (.int .i64 z1)), (.val (.int .i64 z2)), (.val (.int .i64 z3)), (.val (.int .i64 z4))] true)) fun M9 => letP (M9.new (.cells [(.val (.int .i64 z5)), (.val (.int .i64 z6)), (.val (.int .i64 z7)), (.val (.int .i64 z8))] true)) fun M10 => letP (fun (b15 : Bool) => condB (b15) (CallA tb.P 20 [] M10 fun y17 M18 => zB y17 fun b19 => Q (.val (.bool b19)) M18) (bindO (eLd tb 34 (.ptr M.next 0) M10) fun y20 => ∃ (z21 : Int) (z22 : Int) (z23 : Int) (z24 : Int), y20.1 =
  (.agg [(.val (.int .i64 z21)), (.val (.int .i64 z22)), (.val (.int .i64 z23)), (.val (.int .i64 z24))]) ∧
  (CallA tb.P 21 [a0, (.agg [(.val (.int .i64 z21)), (.val (.int .i64 z22)), (.val (.int .i64 z23)), (.val (.int .i64 z24))])] M10 fun y25 M26 => ∃ (x27 : AV) (z28 : Int), y25 =
  (.tup [x27, (.val (.int .i64 z28))]) ∧ (bindO (eLd tb 34 (.ptr M9.next 0) M26) fun y29 => ∃ (z30 : Int) (z31 : Int) (z32 : Int) (z33 : Int), y29.1 =
  (.agg [(.val (.int .i64 z30)), (.val (.int .i64 z31)), (.val (.int .i64 z32)), (.val (.int .i64 z33))]) ∧
  (CallA tb.P 21 [a2, (.agg [(.val (.int .i64 z30)), (.val (.int .i64 z31)), (.val (.int .i64 z32)), (.val (.int .i64 z33))])] M26 fun y34 M35 => ∃ (x36 : AV) (z37 : Int), y34 =
  (.tup [x36, (.val (.int .i64 z37))]) ∧ (letP (fun (b38 : Bool) => condB (b38) (letP (fun (b58 : Bool) (M59 : Mem) => Q (.val (.bool b58)) M59) fun K60 => condB (z28 == (0 : Int)) (condB (z37 ==
  (0 : Int)) (CallA tb.P 20 [] M35 fun y40 M41 => zB y40 fun b42 => K60 b42 M41) (bindO (eLen tb false 22 x36 M35) fun y43 => zI .i64 y43.1 fun z44 => condB (z44 ==
  (0 : Int)) (CallA tb.P 20 [] M35 fun y45 M46 => zB y45 fun b47 => K60 b47 M46) (K60 false M35))) (bindO (eLen tb false 22 x27 M35) fun y48 => zI .i64 y48.1 fun z49 => condB (z49 ==
  (0 : Int)) (condB (z37 == (0 : Int)) (CallA tb.P 20 [] M35 fun y50 M51 => zB y50 fun b52 => K60 b52 M51) (bindO (eLen tb false 22 x36 M35) fun y53 => zI .i64 y53.1 fun z54 => condB (z54 ==
  (0 : Int)) (CallA tb.P 20 [] M35 fun y55 M56 => zB y55 fun b57 => K60 b57 M56) (K60 false M35))) (K60 false M35))) (letP (fun (b89 : Bool) (M90 : Mem) => Q (.val (.bool b89)) M90) fun K91 => CallA tb.P 23 [x27, x36] M35 fun y61 M62 => zB y61 fun b63 => CallA tb.P 23 [a0, a2] M62 fun y64 M65 => zB y64 fun b66 => condB (b66) (bindO (eLd tb 34 (.ptr M.next 0) M65) fun y67 => ∃ (z68 : Int) (z69 : Int) (z70 : Int) (z71 : Int), y67.1 =
  (.agg [(.val (.int .i64 z68)), (.val (.int .i64 z69)), (.val (.int .i64 z70)), (.val (.int .i64 z71))]) ∧
  (bindO (eLd tb 34 (.ptr M9.next 0) M65) fun y72 => ∃ (z73 : Int) (z74 : Int) (z75 : Int) (z76 : Int), y72.1 =
  (.agg [(.val (.int .i64 z73)), (.val (.int .i64 z74)), (.val (.int .i64 z75)), (.val (.int .i64 z76))]) ∧
  (bindO (eBin tb .eql 34 (.tmp 66) (.tmp 67) (.agg [(.val (.int .i64 z68)), (.val (.int .i64 z69)), (.val (.int .i64 z70)), (.val (.int .i64 z71))]) (.agg [(.val (.int .i64 z73)), (.val (.int .i64 z74)), (.val (.int .i64 z75)), (.val (.int .i64 z76))]) M65) fun y77 => zB y77.1 fun b78 => bindO (eBin tb .eql 4 (.tmp 61) (.tmp 69) (.val (.bool b63)) (.val (.bool b78)) M65) fun y79 => zB y79.1 fun b80 => condB (b80) (CallA tb.P 20 [] M65 fun y81 M82 => zB y81 fun b83 => K91 b83 M82) (K91 false M65)))) (bindO (eBin tb .eql 4 (.tmp 61) (.tmp 69) (.val (.bool b63)) (.val (.bool false)) M65) fun y84 => zB y84.1 fun b85 => condB (b85) (CallA tb.P 20 [] M65 fun y86 M87 => zB y86 fun b88 => K91 b88 M87) (K91 false M65)))) fun K39 => condB (z28 !=
  (0 : Int)) (K39 true) (K39 (z37 !=
  (0 : Int))))))))) fun K16 => bindO (eLen tb false 22 a0 M10) fun y11 => zI .i64 y11.1 fun z12 => condB (decide (z12 > (100 : Int))) (K16 true) (bindO (eLen tb false 22 a2 M10) fun y13 => zI .i64 y13.1 fun z14 => K16 (decide (z14 > (100 : Int))))
def an10 : An := (.seq (.reg []) (.seq (.seq (.reg [.non, .int .i64, .bool, .spl, .non, .int .i64, .bool]) (.cnd (.seq (.reg [.bool]) .z) .z)) (.seq (.reg [.non, .agg [.int .i64, .int .i64, .int .i64, .int .i64], .tup [.l .any, .l (.int .i64)], .non, .non, .int .i64]) (.seq (.reg [.non, .agg [.int .i64, .int .i64, .int .i64, .int .i64], .tup [.l .any, .l (.int .i64)], .non, .non, .int .i64]) (.seq (.seq (.reg [.non, .bool, .spl, .non, .bool]) (.cnd (.seq (.reg [.non, .bool, .spl, .non, .int .i64, .bool, .non, .spl, .non, .bool, .spl, .non, .int .i64, .bool, .non, .non, .spl, .bool]) .z) .z)) (.seq (.reg [.non, .non, .bool, .non, .non, .bool, .spl, .agg [.int .i64, .int .i64, .int .i64, .int .i64], .agg [.int .i64, .int .i64, .int .i64, .int .i64], .bool, .non, .bool, .spl, .bool]) .z))))))
theorem fn10 : tb.fn.get 10 = some Try.f10 := by kernel_rfl
theorem an10_ok : anB tb Try.f10.ntmps an10 (bodyOf Try.f10) = true := by kernel_rfl
theorem F10_eq : (fun (a0 a1 a2 a3 : AV) (M : Mem) (Q : AV → Mem → Prop) => zCs [.l .any, .a [.int .i64, .int .i64, .int .i64, .int .i64], .l .any, .a [.int .i64, .int .i64, .int .i64, .int .i64]] [a0, a1, a2, a3] fun args => wZ tb an10 (bodyOf Try.f10) (enterA Try.f10 args M) (retQ tb Try.f10 Q)) = fun (a0 a1 a2 a3 : AV) (M : Mem) (Q : AV → Mem → Prop) => F10 a0 a1 a2 a3 M Q := by kernel_rfl
theorem F10_ok {a0 a1 a2 a3 : AV} {M : Mem} {Q : AV → Mem → Prop} (h : F10 a0 a1 a2 a3 M Q) : CallA tb.P 10 [a0, a1, a2, a3] M Q :=
  calla_wZ tb_ok tb_mix fn10 (c := bodyOf Try.f10) rfl an10_ok (ks := [.l .any, .a [.int .i64, .int .i64, .int .i64, .int .i64], .l .any, .a [.int .i64, .int .i64, .int .i64, .int .i64]]) (cast (congrFun (congrFun (congrFun (congrFun (congrFun (congrFun F10_eq a0) a1) a2) a3) M) Q).symm h)

def F11 (a0 a1 : AV) (M : Mem) (Q : AV → Mem → Prop) : Prop :=
  ∃ (z1 : Int) (z2 : Int) (z3 : Int) (z4 : Int), a1 = (.agg [(.val (.int .i64 z1)), (.val (.int .i64 z2)), (.val (.int .i64 z3)), (.val (.int .i64 z4))]) ∧
  letP (M.new (.cells [(.val (.int .i64 z1)), (.val (.int .i64 z2)), (.val (.int .i64 z3)), (.val (.int .i64 z4))] true)) fun M5 => bindO (eLen tb false 22 a0 M5) fun y6 => zI .i64 y6.1 fun z7 => condB (decide (z7 > (100 : Int))) (CallA tb.P 20 [] M5 fun y8 M9 => zB y8 fun b10 => Q (.val (.bool b10)) M9) (bindO (eLd tb 34 (.ptr M.next 0) M5) fun y11 => ∃ (z12 : Int) (z13 : Int) (z14 : Int) (z15 : Int), y11.1 =
  (.agg [(.val (.int .i64 z12)), (.val (.int .i64 z13)), (.val (.int .i64 z14)), (.val (.int .i64 z15))]) ∧
  (CallA tb.P 21 [a0, (.agg [(.val (.int .i64 z12)), (.val (.int .i64 z13)), (.val (.int .i64 z14)), (.val (.int .i64 z15))])] M5 fun y16 M17 => ∃ (x18 : AV) (z19 : Int), y16 =
  (.tup [x18, (.val (.int .i64 z19))]) ∧ (condB (z19 !=
  (0 : Int)) (letP (fun (b41 : Bool) (M42 : Mem) => Q (.val (.bool b41)) M42) fun K43 => bindO (eLd tb 34 (.ptr M.next 0) M17) fun y20 => ∃ (z21 : Int) (z22 : Int) (z23 : Int) (z24 : Int), y20.1 =
  (.agg [(.val (.int .i64 z21)), (.val (.int .i64 z22)), (.val (.int .i64 z23)), (.val (.int .i64 z24))]) ∧
  (CallA tb.P 25 [(.agg [(.val (.int .i64 z21)), (.val (.int .i64 z22)), (.val (.int .i64 z23)), (.val (.int .i64 z24))])] M17 fun y25 M26 => zB y25 fun b27 => condB (b27) (bindO (eLen tb false 22 a0 M26) fun y28 => zI .i64 y28.1 fun z29 => condB (decide (z29 ≥ (24 : Int))) (bindO (eLen tb false 22 a0 M26) fun y30 => zI .i64 y30.1 fun z31 => condB (!(decide (z31 ≤ (64 : Int)))) (CallA tb.P 20 [] M26 fun y32 M33 => zB y32 fun b34 => K43 b34 M33) (K43 false M26)) (CallA tb.P 20 [] M26 fun y35 M36 => zB y35 fun b37 => K43 b37 M36)) (CallA tb.P 20 [] M26 fun y38 M39 => zB y38 fun b40 => K43 b40 M39))) (bindO (eLen tb false 22 x18 M17) fun y44 => zI .i64 y44.1 fun z45 => bindO (eLen tb false 22 a0 M17) fun y46 => zI .i64 y46.1 fun z47 => condB (z45 !=
  (iAdd .i64 z47 16)) (Q (.val (.bool false)) M17) (bindO (eLen tb false 22 x18 M17) fun y48 => zI .i64 y48.1 fun z49 => bindO (eSl tb 22 x18 none (some (.val (.int .i64 (iSub .i64 z49 1)))) none M17) fun y50 => CallA tb.P 28 [y50.1] M17 fun y51 M52 => ∃ (x53 : AV) (z54 : Int) (z55 : Int) (z56 : Int) (z57 : Int) (z58 : Int), y51 =
  (.tup [x53, (.agg [(.val (.int .i64 z54)), (.val (.int .i64 z55)), (.val (.int .i64 z56)), (.val (.int .i64 z57))]), (.val (.int .i64 z58))]) ∧
  (letP (M52.new (.cells [(.val (.int .i64 0)), (.val (.int .i64 0)), (.val (.int .i64 0)), (.val (.int .i64 0))] true)) fun M59 => bindO (eSt tb 34 (.ptr M52.next 0) (.agg [(.val (.int .i64 z54)), (.val (.int .i64 z55)), (.val (.int .i64 z56)), (.val (.int .i64 z57))]) M59) fun y60 => bindO (evAppend tb 22 22 (.val (.slice none 0 0)) x18 y60.2) fun y61 => letP (y61.2.new (.cells [(.val (.int .u8 0))] true)) fun M62 => bindO (evAppend tb 22 22 y61.1 (.sl y61.2.next 0 1 1 none) M62) fun y63 => CallA tb.P 28 [y63.1] y63.2 fun y64 M65 => ∃ (x66 : AV) (z67 : Int) (z68 : Int) (z69 : Int) (z70 : Int) (z71 : Int), y64 =
  (.tup [x66, (.agg [(.val (.int .i64 z67)), (.val (.int .i64 z68)), (.val (.int .i64 z69)), (.val (.int .i64 z70))]), (.val (.int .i64 z71))]) ∧
  (letP (M65.new (.cells [(.val (.int .i64 0)), (.val (.int .i64 0)), (.val (.int .i64 0)), (.val (.int .i64 0))] true)) fun M72 => bindO (eSt tb 34 (.ptr M65.next 0) (.agg [(.val (.int .i64 z67)), (.val (.int .i64 z68)), (.val (.int .i64 z69)), (.val (.int .i64 z70))]) M72) fun y73 => ∃ J74 : Int → Nat → Mem → Prop, (∃ n75 : Nat, J74 (0 : Int) n75 y73.2) ∧
  ∀ (_ : Nat → Option AV) (z76 : Int) (n77 : Nat) (M78 : Mem), J74 z76 n77 M78 →
  (condB (decide (z76 < (3 : Int))) (CallA tb.P 28 [x18] M78 fun y79 M80 => ∃ (x81 : AV) (z82 : Int) (z83 : Int) (z84 : Int) (z85 : Int) (z86 : Int), y79 =
  (.tup [x81, (.agg [(.val (.int .i64 z82)), (.val (.int .i64 z83)), (.val (.int .i64 z84)), (.val (.int .i64 z85))]), (.val (.int .i64 z86))]) ∧
  (letP (M80.new (.cells [(.val (.int .i64 0)), (.val (.int .i64 0)), (.val (.int .i64 0)), (.val (.int .i64 0))] true)) fun M87 => bindO (eSt tb 34 (.ptr M80.next 0) (.agg [(.val (.int .i64 z82)), (.val (.int .i64 z83)), (.val (.int .i64 z84)), (.val (.int .i64 z85))]) M87) fun y88 => letP (fun (b104 : Bool) (M105 : Mem) => condB (b104) (Q (.val (.bool false)) M105) (CallA tb.P 27 [x81] M105 fun y107 M108 => ∃ k109 : Nat, k109 < n77 ∧
  (J74 (iAdd .i64 z76 1) k109 M108))) fun K106 => condB (z86 !=
  (1 : Int)) (K106 true y88.2) (bindO (eLd tb 34 (.ptr M80.next 0) y88.2) fun y89 => ∃ (z90 : Int) (z91 : Int) (z92 : Int) (z93 : Int), y89.1 =
  (.agg [(.val (.int .i64 z90)), (.val (.int .i64 z91)), (.val (.int .i64 z92)), (.val (.int .i64 z93))]) ∧
  (bindO (eLd tb 34 (.ptr M.next 0) y88.2) fun y94 => ∃ (z95 : Int) (z96 : Int) (z97 : Int) (z98 : Int), y94.1 =
  (.agg [(.val (.int .i64 z95)), (.val (.int .i64 z96)), (.val (.int .i64 z97)), (.val (.int .i64 z98))]) ∧
  (bindO (eBin tb .neq 34 (.tmp 83) (.tmp 84) (.agg [(.val (.int .i64 z90)), (.val (.int .i64 z91)), (.val (.int .i64 z92)), (.val (.int .i64 z93))]) (.agg [(.val (.int .i64 z95)), (.val (.int .i64 z96)), (.val (.int .i64 z97)), (.val (.int .i64 z98))]) y88.2) fun y99 => zB y99.1 fun b100 => condB (b100) (K106 true y88.2) (CallA tb.P 23 [x81, a0] y88.2 fun y101 M102 => zB y101 fun b103 => K106 (!b103) M102)))))) (letP (fun (b113 : Bool) (M114 : Mem) => Q (.val (.bool b113)) M114) fun K115 => condB (z58 !=
  (1 : Int)) (condB (z71 != (1 : Int)) (CallA tb.P 20 [] M78 fun y110 M111 => zB y110 fun b112 => K115 b112 M111) (K115 false M78)) (K115 false M78))))))))))
def an11 : An := (.seq (.reg []) (.seq (.seq (.reg [.non, .int .i64, .bool]) (.cnd (.seq (.reg [.bool]) .z) .z)) (.seq (.reg [.non, .agg [.int .i64, .int .i64, .int .i64, .int .i64], .tup [.l .any, .l (.int .i64)], .non, .non, .int .i64]) (.seq (.seq (.reg [.non, .bool]) (.cnd (.seq (.reg [.agg [.int .i64, .int .i64, .int .i64, .int .i64], .bool, .spl, .non, .int .i64, .bool, .non, .spl, .non, .int .i64, .bool, .non, .bool, .spl, .bool]) .z) .z)) (.seq (.seq (.reg [.non, .int .i64, .non, .int .i64, .int .i64, .bool]) (.cnd (.seq (.reg []) .z) .z)) (.seq (.reg [.non, .non, .int .i64, .int .i64, .non, .tup [.l .any, .a [.int .i64, .int .i64, .int .i64, .int .i64], .l (.int .i64)], .non, .non, .non, .int .i64]) (.seq (.reg [.non, .non, .non, .non, .tup [.l .any, .a [.int .i64, .int .i64, .int .i64, .int .i64], .l (.int .i64)], .non, .non, .non, .int .i64]) (.seq (.seq (.reg []) (.blk (.lop [(13, .int .i64)] [4, 14, 15, 16, 70, 71, 72, 73, 74, 75, 76, 77, 78, 79, 80, 81, 82, 83, 84, 85, 86, 87, 88, 89, 90, 91, 92, 93, 94] (.seq (.seq (.reg [.non, .bool]) (.cnd .z .z)) (.seq (.blk (.seq (.reg [.non, .tup [.l .any, .a [.int .i64, .int .i64, .int .i64, .int .i64], .l (.int .i64)], .non, .non, .non, .int .i64]) (.seq (.seq (.reg [.non, .bool, .spl, .agg [.int .i64, .int .i64, .int .i64, .int .i64], .agg [.int .i64, .int .i64, .int .i64, .int .i64], .bool, .non, .spl, .non, .non, .bool, .bool]) (.cnd (.seq (.reg []) .z) .z)) (.reg [])))) (.reg [.non, .int .i64])))))) (.seq (.reg [.non, .bool, .spl, .non, .bool, .non, .spl, .bool]) .z)))))))))
theorem fn11 : tb.fn.get 11 = some Try.f11 := by kernel_rfl
theorem an11_ok : anB tb Try.f11.ntmps an11 (bodyOf Try.f11) = true := by kernel_rfl
theorem F11_eq : (fun (a0 a1 : AV) (M : Mem) (Q : AV → Mem → Prop) => zCs [.l .any, .a [.int .i64, .int .i64, .int .i64, .int .i64]] [a0, a1] fun args => wZ tb an11 (bodyOf Try.f11) (enterA Try.f11 args M) (retQ tb Try.f11 Q)) = fun (a0 a1 : AV) (M : Mem) (Q : AV → Mem → Prop) => F11 a0 a1 M Q := by kernel_rfl
theorem F11_ok {a0 a1 : AV} {M : Mem} {Q : AV → Mem → Prop} (h : F11 a0 a1 M Q) : CallA tb.P 11 [a0, a1] M Q :=
  calla_wZ tb_ok tb_mix fn11 (c := bodyOf Try.f11) rfl an11_ok (ks := [.l .any, .a [.int .i64, .int .i64, .int .i64, .int .i64]]) (cast (congrFun (congrFun (congrFun (congrFun F11_eq a0) a1) M) Q).symm h)

def F12 (M : Mem) (Q : AV → Mem → Prop) : Prop :=
  letP (fun (b9 : Bool) (M10 : Mem) => Q (.val (.bool b9)) M10) fun K11 => letP (M.new (.cells [(.val (.int .u8 49)), (.val (.int .u8 50)), (.val (.int .u8 51)), (.val (.int .u8 52)), (.val (.int .u8 53)), (.val (.int .u8 54)), (.val (.int .u8 55)), (.val (.int .u8 56)), (.val (.int .u8 57))] true)) fun M1 => bindO (evConv tb 22 22 (.sl M.next 0 9 9 none) M1) fun y2 => CallA tb.P 14 [y2.1] y2.2 fun y3 M4 => zI .u32 y3 fun z5 => condB (z5 ==
  (3421780262 : Int)) (CallA tb.P 16 [(.val (.int .u32 0)), (.val (.slice none 0 0))] M4 fun y6 M7 => zI .u32 y6 fun z8 => K11 (z8 == (0 : Int)) M7) (K11 false M4)
def an12 : An := (.seq (.reg []) (.seq (.reg [.non, .non, .int .u32, .bool, .spl, .int .u32, .bool]) .z))
theorem fn12 : tb.fn.get 12 = some Try.f12 := by kernel_rfl
theorem an12_ok : anB tb Try.f12.ntmps an12 (bodyOf Try.f12) = true := by kernel_rfl
theorem F12_eq : (fun (M : Mem) (Q : AV → Mem → Prop) => zCs [] [] fun args => wZ tb an12 (bodyOf Try.f12) (enterA Try.f12 args M) (retQ tb Try.f12 Q)) = fun (M : Mem) (Q : AV → Mem → Prop) => F12  M Q := by kernel_rfl
theorem F12_ok {M : Mem} {Q : AV → Mem → Prop} (h : F12  M Q) : CallA tb.P 12 [] M Q :=
  calla_wZ tb_ok tb_mix fn12 (c := bodyOf Try.f12) rfl an12_ok (ks := []) (cast (congrFun (congrFun F12_eq M) Q).symm h)

def F13 (a0 : AV) (M : Mem) (Q : AV → Mem → Prop) : Prop :=
  bindO (eLen tb false 22 a0 M) fun y1 => zI .i64 y1.1 fun z2 => bindO (evMakeSlice tb 22 (.val (.int .i64 0)) (.val (.int .i64 (iAdd .i64 z2 3))) M) fun y3 => bindO (evAppend tb 22 22 y3.1 a0 y3.2) fun y4 => bindO (eLen tb false 22 a0 y4.2) fun y5 => zI .i64 y5.1 fun z6 => bindO (eLen tb false 22 a0 y4.2) fun y7 => zI .i64 y7.1 fun z8 => bindO (eSl tb 22 y4.1 (some (.val (.int .i64 z6))) (some (.val (.int .i64 (iAdd .i64 z8 3)))) none y4.2) fun y9 => ∃ J10 : Int → Nat → Mem → Prop, (∃ n11 : Nat, J10 (0 : Int) n11 y4.2) ∧
  ∀ (_ : Nat → Option AV) (z12 : Int) (n13 : Nat) (M14 : Mem), J10 z12 n13 M14 →
  (condB (decide (z12 < (3 : Int))) (bindO (eIA tb 22 y9.1 (.val (.int .i64 z12)) M14) fun y15 => zP y15.1 fun p16 o17 => bindO (eSt tb 5 (.ptr p16 o17) (.val (.int .u8 119)) M14) fun y18 => ∃ k19 : Nat, k19 < n13 ∧
  (J10 (iAdd .i64 z12 1) k19 y18.2)) (Q y4.1 M14))
def an13 : An := (.seq (.reg []) (.seq (.reg [.non, .int .i64, .int .i64]) (.seq (.reg []) (.seq (.reg [.non, .non, .int .i64, .non, .int .i64, .int .i64]) (.seq (.seq (.reg []) (.blk (.lop [(5, .int .i64)] [20, 21, 22, 23, 24, 25, 26] (.seq (.seq (.reg [.non, .bool]) (.cnd .z .z)) (.seq (.blk (.reg [.non, .non, .ptr])) (.reg [.non, .int .i64])))))) (.seq (.reg []) .z))))))
theorem fn13 : tb.fn.get 13 = some Try.f13 := by kernel_rfl
theorem an13_ok : anB tb Try.f13.ntmps an13 (bodyOf Try.f13) = true := by kernel_rfl
theorem F13_eq : (fun (a0 : AV) (M : Mem) (Q : AV → Mem → Prop) => zCs [.l .any] [a0] fun args => wZ tb an13 (bodyOf Try.f13) (enterA Try.f13 args M) (retQ tb Try.f13 Q)) = fun (a0 : AV) (M : Mem) (Q : AV → Mem → Prop) => F13 a0 M Q := by kernel_rfl
theorem F13_ok {a0 : AV} {M : Mem} {Q : AV → Mem → Prop} (h : F13 a0 M Q) : CallA tb.P 13 [a0] M Q :=
  calla_wZ tb_ok tb_mix fn13 (c := bodyOf Try.f13) rfl an13_ok (ks := [.l .any]) (cast (congrFun (congrFun (congrFun F13_eq a0) M) Q).symm h)

def F14 (a0 : AV) (M : Mem) (Q : AV → Mem → Prop) : Prop :=
  CallA tb.P 16 [(.val (.int .u32 0)), a0] M fun y1 M2 => zI .u32 y1 fun z3 => Q (.val (.int .u32 z3)) M2
def an14 : An := (.seq (.reg []) (.seq (.reg [.non, .int .u32]) .z))
theorem fn14 : tb.fn.get 14 = some Try.f14 := by kernel_rfl
theorem an14_ok : anB tb Try.f14.ntmps an14 (bodyOf Try.f14) = true := by kernel_rfl
theorem F14_eq : (fun (a0 : AV) (M : Mem) (Q : AV → Mem → Prop) => zCs [.l .any] [a0] fun args => wZ tb an14 (bodyOf Try.f14) (enterA Try.f14 args M) (retQ tb Try.f14 Q)) = fun (a0 : AV) (M : Mem) (Q : AV → Mem → Prop) => F14 a0 M Q := by kernel_rfl
theorem F14_ok {a0 : AV} {M : Mem} {Q : AV → Mem → Prop} (h : F14 a0 M Q) : CallA tb.P 14 [a0] M Q :=
  calla_wZ tb_ok tb_mix fn14 (c := bodyOf Try.f14) rfl an14_ok (ks := [.l .any]) (cast (congrFun (congrFun (congrFun F14_eq a0) M) Q).symm h)

def F15 (a0 : AV) (M : Mem) (Q : AV → Mem → Prop) : Prop :=
  CallA tb.P 17 [(.val (.int .u32 0)), a0] M fun y1 M2 => zI .u32 y1 fun z3 => Q (.val (.int .u32 z3)) M2
def an15 : An := (.seq (.reg []) (.seq (.reg [.non, .int .u32]) .z))
theorem fn15 : tb.fn.get 15 = some Try.f15 := by kernel_rfl
theorem an15_ok : anB tb Try.f15.ntmps an15 (bodyOf Try.f15) = true := by kernel_rfl
theorem F15_eq : (fun (a0 : AV) (M : Mem) (Q : AV → Mem → Prop) => zCs [.l .any] [a0] fun args => wZ tb an15 (bodyOf Try.f15) (enterA Try.f15 args M) (retQ tb Try.f15 Q)) = fun (a0 : AV) (M : Mem) (Q : AV → Mem → Prop) => F15 a0 M Q := by kernel_rfl
theorem F15_ok {a0 : AV} {M : Mem} {Q : AV → Mem → Prop} (h : F15 a0 M Q) : CallA tb.P 15 [a0] M Q :=
  calla_wZ tb_ok tb_mix fn15 (c := bodyOf Try.f15) rfl an15_ok (ks := [.l .any]) (cast (congrFun (congrFun (congrFun F15_eq a0) M) Q).symm h)

def F16 (a0 a1 : AV) (M : Mem) (Q : AV → Mem → Prop) : Prop :=
  zI .u32 a0 fun z1 => bindO (eUn tb .xor (.val (.int .u32 z1)) M) fun y2 => zI .u32 y2.1 fun z3 => bindO (eLen tb false 22 a1 M) fun y4 => zI .i64 y4.1 fun z5 => ∃ J6 : Int → Int → Nat → Mem → Prop, (∃ n7 : Nat, J6 z3 (0 : Int) n7 M) ∧
  ∀ (_ : Nat → Option AV) (z8 : Int) (z9 : Int) (n10 : Nat) (M11 : Mem), J6 z8 z9 n10 M11 →
  (condB (decide (z9 < z5)) (bindO (eIA tb 22 a1 (.val (.int .i64 z9)) M11) fun y12 => zP y12.1 fun p13 o14 => bindO (eLd tb 5 (.ptr p13 o14) M11) fun y15 => zI .u8 y15.1 fun z16 => ∃ J17 : Int → Int → Nat → Mem → Prop, (∃ n18 : Nat, J17 (iXor .u32 z8 (IntKind.wrap .u32 z16)) (0 : Int) n18 M11) ∧
  ∀ (_ : Nat → Option AV) (z19 : Int) (z20 : Int) (n21 : Nat) (M22 : Mem), J17 z19 z20 n21 M22 → (condB (decide (z20 < (8 : Int))) (letP (fun (z23 : Int) => ∃ k25 : Nat, k25 < n21 ∧
  (J17 z23 (iAdd .i64 z20 1) k25 M22)) fun K24 => condB ((iAnd .u32 z19 1) == (1 : Int)) (K24 (iXor .u32 (iShr .u32 z19 1) 3988292384)) (K24 (iShr .u32 z19 1))) (∃ k26 : Nat, k26 < n10 ∧
  (J6 z19 (iAdd .i64 z9 1) k26 M22)))) (bindO (eUn tb .xor (.val (.int .u32 z8)) M11) fun y27 => zI .u32 y27.1 fun z28 => Q (.val (.int .u32 z28)) M11))
def an16 : An := (.seq (.reg []) (.seq (.reg [.non, .int .u32]) (.seq (.seq (.reg [.non, .int .i64]) (.blk (.lop [(5, .int .u32), (13, .int .i64)] [7, 8, 14, 15, 16, 17, 18, 19, 20, 21, 22, 23, 24, 25, 26, 27, 28, 29, 30, 31, 32] (.seq (.reg []) (.seq (.cnd .z .z) (.seq (.blk (.seq (.reg [.ptr, .int .u8]) (.seq (.reg [.non, .non, .int .u32, .int .u32]) (.seq (.reg []) (.blk (.lop [(5, .int .u32), (21, .int .i64)] [8, 22, 23, 24, 25, 26, 27, 28, 29, 30, 31] (.seq (.reg [.bool]) (.seq (.cnd .z .z) (.seq (.blk (.seq (.reg [.non, .int .u32]) (.seq (.reg [.non, .int .u32]) (.seq (.reg [.non, .bool]) (.cnd (.reg [.non, .int .u32]) .z))))) (.reg [.int .i64])))))))))) (.reg [.int .i64]))))))) (.seq (.reg [.non, .int .u32]) .z))))
theorem fn16 : tb.fn.get 16 = some Try.f16 := by kernel_rfl
theorem an16_ok : anB tb Try.f16.ntmps an16 (bodyOf Try.f16) = true := by kernel_rfl
theorem F16_eq : (fun (a0 a1 : AV) (M : Mem) (Q : AV → Mem → Prop) => zCs [.l (.int .u32), .l .any] [a0, a1] fun args => wZ tb an16 (bodyOf Try.f16) (enterA Try.f16 args M) (retQ tb Try.f16 Q)) = fun (a0 a1 : AV) (M : Mem) (Q : AV → Mem → Prop) => F16 a0 a1 M Q := by kernel_rfl
theorem F16_ok {a0 a1 : AV} {M : Mem} {Q : AV → Mem → Prop} (h : F16 a0 a1 M Q) : CallA tb.P 16 [a0, a1] M Q :=
  calla_wZ tb_ok tb_mix fn16 (c := bodyOf Try.f16) rfl an16_ok (ks := [.l (.int .u32), .l .any]) (cast (congrFun (congrFun (congrFun (congrFun F16_eq a0) a1) M) Q).symm h)

def F17 (a0 a1 : AV) (M : Mem) (Q : AV → Mem → Prop) : Prop :=
  zI .u32 a0 fun z1 => bindO (eUn tb .xor (.val (.int .u32 z1)) M) fun y2 => zI .u32 y2.1 fun z3 => ∃ J4 : Int → Int → Nat → Mem → Prop, (∃ n5 : Nat, J4 z3 (0 : Int) n5 M) ∧
  ∀ (_ : Nat → Option AV) (z6 : Int) (z7 : Int) (n8 : Nat) (M9 : Mem), J4 z6 z7 n8 M9 →
  (bindO (eLen tb false 22 a1 M9) fun y10 => zI .i64 y10.1 fun z11 => condB (decide (z7 < z11)) (bindO (eIA tb 22 a1 (.val (.int .i64 z7)) M9) fun y12 => zP y12.1 fun p13 o14 => bindO (eLd tb 5 (.ptr p13 o14) M9) fun y15 => zI .u8 y15.1 fun z16 => ∃ J17 : Int → Int → Int → Nat → Mem → Prop, (∃ n18 : Nat, J17 z6 (IntKind.wrap .u32 z16) (0 : Int) n18 M9) ∧
  ∀ (_ : Nat → Option AV) (z19 : Int) (z20 : Int) (z21 : Int) (n22 : Nat) (M23 : Mem), J17 z19 z20 z21 n22 M23 → (condB (decide (z21 < (8 : Int))) (letP (fun (z24 : Int) => ∃ k26 : Nat, k26 < n22 ∧
  (J17 z24 (iShr .u32 z20 1) (iAdd .i64 z21 1) k26 M23)) fun K25 => condB ((iAnd .u32 (iXor .u32 z19 z20) 1) ==
  (1 : Int)) (K25 (iXor .u32 (iShr .u32 z19 1) 3988292384)) (K25 (iShr .u32 z19 1))) (∃ k27 : Nat, k27 < n8 ∧
  (J4 z19 (iAdd .i64 z7 1) k27 M23)))) (bindO (eUn tb .xor (.val (.int .u32 z6)) M9) fun y28 => zI .u32 y28.1 fun z29 => Q (.val (.int .u32 z29)) M9))
def an17 : An := (.seq (.reg []) (.seq (.reg [.non, .int .u32]) (.seq (.seq (.reg []) (.blk (.lop [(5, .int .u32), (6, .int .i64)] [7, 8, 9, 12, 13, 14, 15, 16, 17, 18, 19, 20, 21, 22, 23, 24, 25, 26, 27, 28, 29, 30, 31, 32, 33, 34, 35, 36, 37, 38] (.seq (.seq (.reg [.non, .non, .int .i64, .bool]) (.cnd .z .z)) (.seq (.blk (.seq (.reg [.non, .non, .ptr, .int .u8, .int .u32]) (.seq (.reg []) (.blk (.lop [(5, .int .u32), (7, .int .u32), (8, .int .i64)] [9, 23, 24, 25, 26, 27, 28, 29, 30, 31, 32, 33, 34, 35, 36, 37, 38] (.seq (.seq (.reg [.non, .bool]) (.cnd .z .z)) (.seq (.blk (.seq (.reg [.non, .non, .int .u32, .int .u32]) (.seq (.reg [.non, .int .u32]) (.seq (.reg [.non, .int .u32]) (.seq (.reg [.non, .bool]) (.cnd (.reg [.non, .int .u32]) .z)))))) (.reg [.non, .int .i64])))))))) (.reg [.non, .int .i64])))))) (.seq (.reg [.non, .int .u32]) .z))))
theorem fn17 : tb.fn.get 17 = some Try.f17 := by kernel_rfl
theorem an17_ok : anB tb Try.f17.ntmps an17 (bodyOf Try.f17) = true := by kernel_rfl
theorem F17_eq : (fun (a0 a1 : AV) (M : Mem) (Q : AV → Mem → Prop) => zCs [.l (.int .u32), .l .any] [a0, a1] fun args => wZ tb an17 (bodyOf Try.f17) (enterA Try.f17 args M) (retQ tb Try.f17 Q)) = fun (a0 a1 : AV) (M : Mem) (Q : AV → Mem → Prop) => F17 a0 a1 M Q := by kernel_rfl
theorem F17_ok {a0 a1 : AV} {M : Mem} {Q : AV → Mem → Prop} (h : F17 a0 a1 M Q) : CallA tb.P 17 [a0, a1] M Q :=
  calla_wZ tb_ok tb_mix fn17 (c := bodyOf Try.f17) rfl an17_ok (ks := [.l (.int .u32), .l .any]) (cast (congrFun (congrFun (congrFun (congrFun F17_eq a0) a1) M) Q).symm h)

def F18 (a0 a1 : AV) (M : Mem) (Q : AV → Mem → Prop) : Prop :=
  bindO (eLen tb false 22 a0 M) fun y1 => zI .i64 y1.1 fun z2 => bindO (eLen tb false 22 a0 M) fun y3 => zI .i64 y3.1 fun z4 => bindO (eSl tb 22 a0 (some (.val (.int .i64 z2))) (some (.val (.int .i64 (iAdd .i64 z4 3)))) none M) fun y5 => ∃ J6 : Int → Nat → Mem → Prop, (∃ n7 : Nat, J6 (0 : Int) n7 M) ∧
  ∀ (_ : Nat → Option AV) (z8 : Int) (n9 : Nat) (M10 : Mem), J6 z8 n9 M10 →
  (condB (decide (z8 < (3 : Int))) (bindO (eIA tb 22 y5.1 (.val (.int .i64 z8)) M10) fun y11 => zP y11.1 fun p12 o13 => bindO (eLd tb 5 (.ptr p12 o13) M10) fun y14 => zI .u8 y14.1 fun z15 => condB (z15 !=
  (119 : Int)) (Q (.val (.bool false)) M10) (∃ k16 : Nat, k16 < n9 ∧ (J6 (iAdd .i64 z8 1) k16 M10))) (CallA tb.P 23 [a0, a1] M10 fun y17 M18 => zB y17 fun b19 => Q (.val (.bool b19)) M18))
def an18 : An := (.seq (.reg []) (.seq (.reg [.non, .non, .int .i64, .non, .int .i64, .int .i64]) (.seq (.seq (.reg []) (.blk (.lop [(6, .int .i64)] [4, 14, 15, 16, 17, 18, 19, 20, 21, 22] (.seq (.seq (.reg [.non, .bool]) (.cnd .z .z)) (.seq (.blk (.seq (.reg [.non, .non, .ptr, .int .u8, .bool]) (.cnd (.seq (.reg []) .z) .z))) (.reg [.non, .int .i64])))))) (.seq (.reg [.non, .non, .bool]) .z))))
theorem fn18 : tb.fn.get 18 = some Try.f18 := by kernel_rfl
theorem an18_ok : anB tb Try.f18.ntmps an18 (bodyOf Try.f18) = true := by kernel_rfl
theorem F18_eq : (fun (a0 a1 : AV) (M : Mem) (Q : AV → Mem → Prop) => zCs [.l .any, .l .any] [a0, a1] fun args => wZ tb an18 (bodyOf Try.f18) (enterA Try.f18 args M) (retQ tb Try.f18 Q)) = fun (a0 a1 : AV) (M : Mem) (Q : AV → Mem → Prop) => F18 a0 a1 M Q := by kernel_rfl
theorem F18_ok {a0 a1 : AV} {M : Mem} {Q : AV → Mem → Prop} (h : F18 a0 a1 M Q) : CallA tb.P 18 [a0, a1] M Q :=
  calla_wZ tb_ok tb_mix fn18 (c := bodyOf Try.f18) rfl an18_ok (ks := [.l .any, .l .any]) (cast (congrFun (congrFun (congrFun (congrFun F18_eq a0) a1) M) Q).symm h)

def F19 (a0 a1 : AV) (M : Mem) (Q : AV → Mem → Prop) : Prop :=
  zI .i64 a0 fun z1 => zI .i64 a1 fun z2 => bindO (eBin tb .rem 50 (.tmp 6) (.tmp 8) (.val (.int .u64 (IntKind.wrap .u64 z1))) (.val (.int .u64 (IntKind.wrap .u64 z2))) M) fun y3 => zI .u64 y3.1 fun z4 => Q (.val (.int .i64 (IntKind.wrap .i64 z4))) M
def an19 : An := (.seq (.reg []) (.seq (.reg [.non, .int .u64, .non, .int .u64, .int .u64, .int .i64]) .z))
theorem fn19 : tb.fn.get 19 = some Try.f19 := by kernel_rfl
theorem an19_ok : anB tb Try.f19.ntmps an19 (bodyOf Try.f19) = true := by kernel_rfl
theorem F19_eq : (fun (a0 a1 : AV) (M : Mem) (Q : AV → Mem → Prop) => zCs [.l (.int .i64), .l (.int .i64)] [a0, a1] fun args => wZ tb an19 (bodyOf Try.f19) (enterA Try.f19 args M) (retQ tb Try.f19 Q)) = fun (a0 a1 : AV) (M : Mem) (Q : AV → Mem → Prop) => F19 a0 a1 M Q := by kernel_rfl
theorem F19_ok {a0 a1 : AV} {M : Mem} {Q : AV → Mem → Prop} (h : F19 a0 a1 M Q) : CallA tb.P 19 [a0, a1] M Q :=
  calla_wZ tb_ok tb_mix fn19 (c := bodyOf Try.f19) rfl an19_ok (ks := [.l (.int .i64), .l (.int .i64)]) (cast (congrFun (congrFun (congrFun (congrFun F19_eq a0) a1) M) Q).symm h)

def F20 (M : Mem) (Q : AV → Mem → Prop) : Prop :=
  letP (⟨M.next + 1, M.rows⟩ : Mem) fun M1 => CallA tb.P 30 [] M1 fun y2 M3 => ∃ (z4 : Int) (z5 : Int) (z6 : Int) (z7 : Int), y2 =
  (.agg [(.val (.int .i64 z4)), (.val (.int .i64 z5)), (.val (.int .i64 z6)), (.val (.int .i64 z7))]) ∧
  (bindO (evMakeFl tb 22 (.val (.int .i64 24)) (.val (.int .i64 24)) M.next) fun y8 => CallA tb.P 21 [y8.1, (.agg [(.val (.int .i64 z4)), (.val (.int .i64 z5)), (.val (.int .i64 z6)), (.val (.int .i64 z7))])] (M3.put M.next y8.2) fun y9 M10 => ∃ (x11 : AV) (z12 : Int), y9 =
  (.tup [x11, (.val (.int .i64 z12))]) ∧ (CallA tb.P 28 [x11] M10 fun y13 M14 => ∃ (x15 : AV) (z16 : Int) (z17 : Int) (z18 : Int) (z19 : Int) (z20 : Int), y13 =
  (.tup [x15, (.agg [(.val (.int .i64 z16)), (.val (.int .i64 z17)), (.val (.int .i64 z18)), (.val (.int .i64 z19))]), (.val (.int .i64 z20))]) ∧
  (letP (M14.new (.cells [(.val (.int .i64 0)), (.val (.int .i64 0)), (.val (.int .i64 0)), (.val (.int .i64 0))] true)) fun M21 => bindO (eSt tb 34 (.ptr M14.next 0) (.agg [(.val (.int .i64 z16)), (.val (.int .i64 z17)), (.val (.int .i64 z18)), (.val (.int .i64 z19))]) M21) fun y22 => CallA tb.P 28 [(.val (.slice none 0 0))] y22.2 fun y23 M24 => ∃ (x25 : AV) (z26 : Int) (z27 : Int) (z28 : Int) (z29 : Int) (z30 : Int), y23 =
  (.tup [x25, (.agg [(.val (.int .i64 z26)), (.val (.int .i64 z27)), (.val (.int .i64 z28)), (.val (.int .i64 z29))]), (.val (.int .i64 z30))]) ∧
  (letP (M24.new (.cells [(.val (.int .i64 0)), (.val (.int .i64 0)), (.val (.int .i64 0)), (.val (.int .i64 0))] true)) fun M31 => bindO (eSt tb 34 (.ptr M24.next 0) (.agg [(.val (.int .i64 z26)), (.val (.int .i64 z27)), (.val (.int .i64 z28)), (.val (.int .i64 z29))]) M31) fun y32 => letP (fun (b70 : Bool) (M71 : Mem) => Q (.val (.bool b70)) M71) fun K72 => condB (z12 ==
  (0 : Int)) (bindO (eLen tb false 22 x11 y32.2) fun y33 => zI .i64 y33.1 fun z34 => condB (z34 ==
  (40 : Int)) (bindO (eIA tb 22 x11 (.val (.int .i64 24)) y32.2) fun y35 => zP y35.1 fun p36 o37 => bindO (eLd tb 5 (.ptr p36 o37) y32.2) fun y38 => zI .u8 y38.1 fun z39 => condB (z39 ==
  (74 : Int)) (bindO (eIA tb 22 x11 (.val (.int .i64 39)) y32.2) fun y40 => zP y40.1 fun p41 o42 => bindO (eLd tb 5 (.ptr p41 o42) y32.2) fun y43 => zI .u8 y43.1 fun z44 => condB (z44 ==
  (0 : Int)) (bindO (eLen tb false 22 x15 y32.2) fun y45 => zI .i64 y45.1 fun z46 => condB (z46 ==
  (24 : Int)) (bindO (eLd tb 34 (.ptr M14.next 0) y32.2) fun y47 => ∃ (z48 : Int) (z49 : Int) (z50 : Int) (z51 : Int), y47.1 =
  (.agg [(.val (.int .i64 z48)), (.val (.int .i64 z49)), (.val (.int .i64 z50)), (.val (.int .i64 z51))]) ∧
  (CallA tb.P 30 [] y32.2 fun y52 M53 => ∃ (z54 : Int) (z55 : Int) (z56 : Int) (z57 : Int), y52 =
  (.agg [(.val (.int .i64 z54)), (.val (.int .i64 z55)), (.val (.int .i64 z56)), (.val (.int .i64 z57))]) ∧
  ((bindO (eLd tb 34 (.ptr M14.next 0) M53) fun y58 => (some (.agg [(.val (.int .i64 z48)), (.val (.int .i64 z49)), (.val (.int .i64 z50)), (.val (.int .i64 z51))]) : Option AV) = some y58.1) ∧
  (bindO (eBin tb .eql 34 (.tmp 51) (.tmp 52) (.agg [(.val (.int .i64 z48)), (.val (.int .i64 z49)), (.val (.int .i64 z50)), (.val (.int .i64 z51))]) (.agg [(.val (.int .i64 z54)), (.val (.int .i64 z55)), (.val (.int .i64 z56)), (.val (.int .i64 z57))]) M53) fun y59 => zB y59.1 fun b60 => condB (b60) (condB (z20 ==
  (1 : Int)) (condB (z30 == (2 : Int)) (CallA tb.P 30 [] M53 fun y61 M62 => ∃ (z63 : Int) (z64 : Int) (z65 : Int) (z66 : Int), y61 =
  (.agg [(.val (.int .i64 z63)), (.val (.int .i64 z64)), (.val (.int .i64 z65)), (.val (.int .i64 z66))]) ∧
  (CallA tb.P 25 [(.agg [(.val (.int .i64 z63)), (.val (.int .i64 z64)), (.val (.int .i64 z65)), (.val (.int .i64 z66))])] M62 fun y67 M68 => zB y67 fun b69 => K72 b69 M68)) (K72 false M53)) (K72 false M53)) (K72 false M53))))) ((True) ∧
  (K72 false y32.2))) ((True) ∧ (K72 false y32.2))) ((True) ∧ (K72 false y32.2))) ((True) ∧ (K72 false y32.2))) ((True) ∧ (K72 false y32.2))))))
def an20 : An := (.seq (.reg []) (.seq (.opn [(1, []), (0, []), (2, []), (3, []), (4, []), (5, []), (6, []), (7, [])] [0, 0, 0, 0, 0, 0, 0, 0] [] 1 [.agg [.int .i64, .int .i64, .int .i64, .int .i64], .non, .tup [.l .any, .l (.int .i64)], .non, .non, .int .i64, .non, .non]) (.seq (.reg [.non, .tup [.l .any, .a [.int .i64, .int .i64, .int .i64, .int .i64], .l (.int .i64)], .non, .non, .non, .int .i64]) (.seq (.reg [.tup [.l .any, .a [.int .i64, .int .i64, .int .i64, .int .i64], .l (.int .i64)], .non, .non, .non, .int .i64]) (.seq (.opn [(0, []), (1, []), (2, []), (3, []), (4, []), (5, []), (6, []), (7, []), (8, []), (9, []), (10, []), (11, []), (12, []), (13, []), (14, []), (15, []), (16, []), (17, []), (18, []), (19, []), (20, []), (21, []), (22, []), (23, []), (24, []), (25, []), (26, [25]), (27, []), (28, []), (29, []), (30, []), (31, []), (32, []), (33, []), (34, []), (35, []), (36, []), (37, []), (38, []), (39, []), (40, []), (41, [])] [] [[], [], [], [], [], [], [], [], [], [], [], [], [], [], [], [], [], [], [], [], [], [], [], [], [], [], [25]] 0 [.non, .bool, .spl, .non, .int .i64, .bool, .non, .spl, .non, .ptr, .int .u8, .bool, .non, .spl, .non, .ptr, .int .u8, .bool, .non, .spl, .non, .int .i64, .bool, .non, .spl, .agg [.int .i64, .int .i64, .int .i64, .int .i64], .agg [.int .i64, .int .i64, .int .i64, .int .i64], .bool, .non, .spl, .non, .bool, .non, .spl, .non, .bool, .non, .spl, .agg [.int .i64, .int .i64, .int .i64, .int .i64], .bool, .non, .non]) .z)))))
theorem fn20 : tb.fn.get 20 = some Try.f20 := by kernel_rfl
theorem an20_ok : anB tb Try.f20.ntmps an20 (bodyOf Try.f20) = true := by kernel_rfl
theorem F20_eq : (fun (M : Mem) (Q : AV → Mem → Prop) => zCs [] [] fun args => wZ tb an20 (bodyOf Try.f20) (enterA Try.f20 args M) (retQ tb Try.f20 Q)) = fun (M : Mem) (Q : AV → Mem → Prop) => F20  M Q := by kernel_rfl
theorem F20_ok {M : Mem} {Q : AV → Mem → Prop} (h : F20  M Q) : CallA tb.P 20 [] M Q :=
  calla_wZ tb_ok tb_mix fn20 (c := bodyOf Try.f20) rfl an20_ok (ks := []) (cast (congrFun (congrFun F20_eq M) Q).symm h)

def F21 (a0 a1 : AV) (M : Mem) (Q : AV → Mem → Prop) : Prop :=
  ∃ (z1 : Int) (z2 : Int) (z3 : Int) (z4 : Int), a1 = (.agg [(.val (.int .i64 z1)), (.val (.int .i64 z2)), (.val (.int .i64 z3)), (.val (.int .i64 z4))]) ∧
  letP (M.new (.cells [(.val (.int .i64 z1)), (.val (.int .i64 z2)), (.val (.int .i64 z3)), (.val (.int .i64 z4))] true)) fun M5 => letP (fun (b19 : Bool) (M20 : Mem) => condB (b19) (Q (.tup [(.val (.slice none 0 0)), (.val (.int .i64 2))]) M20) (letP (⟨M20.next + 1, M20.rows⟩ : Mem) fun M22 => bindO (eLd tb 3 (.ptr M.next 0) M22) fun y23 => zI .i64 y23.1 fun z24 => CallA tb.P 32 [a0] M22 fun y25 M26 => (bindO (eLd tb 3 (.ptr M.next 0) M26) fun y27 => (some (.val (.int .i64 z24)) : Option AV) =
  some y27.1) ∧
  (letP (M26.put M20.next (.cells [(.val (.int .u8 74)), (.val (.int .u8 (IntKind.wrap .u8 z24)))] true)) fun M28 => bindO (evAppend tb 22 22 y25 (.sl M20.next 0 2 2 none) M28) fun y29 => bindO (eLd tb 3 (.ptr M.next 1) y29.2) fun y30 => zI .i64 y30.1 fun z31 => bindO (eLd tb 3 (.ptr M.next 2) y29.2) fun y32 => zI .i64 y32.1 fun z33 => bindO (eLd tb 3 (.ptr M.next 3) y29.2) fun y34 => zI .i64 y34.1 fun z35 => CallA tb.P 33 [y29.1, (.val (.int .i64 z31)), (.val (.int .i64 2))] y29.2 fun y36 M37 => (bindO (eLd tb 3 (.ptr M.next 2) M37) fun y38 => (some (.val (.int .i64 z33)) : Option AV) =
  some y38.1) ∧ (bindO (eLd tb 3 (.ptr M.next 3) M37) fun y39 => (some (.val (.int .i64 z35)) : Option AV) = some y39.1) ∧
  (CallA tb.P 33 [y36, (.val (.int .i64 z33)), (.val (.int .i64 4))] M37 fun y40 M41 => (bindO (eLd tb 3 (.ptr M.next 3) M41) fun y42 => (some (.val (.int .i64 z35)) : Option AV) = some y42.1) ∧
  (CallA tb.P 33 [y40, (.val (.int .i64 z35)), (.val (.int .i64 3))] M41 fun y43 M44 => CallA tb.P 14 [y43] M44 fun y45 M46 => zI .u32 y45 fun z47 => CallA tb.P 33 [y43, (.val (.int .i64 (IntKind.wrap .i64 z47))), (.val (.int .i64 4))] M46 fun y48 M49 => letP (M49.new (.cells [(.val (.int .u8 0))] true)) fun M50 => bindO (evAppend tb 22 22 y48 (.sl M49.next 0 1 1 none) M50) fun y51 => Q (.tup [y51.1, (.val (.int .i64 0))]) y51.2))))) fun K21 => bindO (eLen tb false 22 a0 M5) fun y6 => zI .i64 y6.1 fun z7 => CallA tb.P 31 [(.val (.int .i64 z7)), (.val (.int .i64 24)), (.val (.int .i64 64))] M5 fun y8 M9 => zB y8 fun b10 => condB (!b10) (K21 true M9) (bindO (eLd tb 34 (.ptr M.next 0) M9) fun y11 => ∃ (z12 : Int) (z13 : Int) (z14 : Int) (z15 : Int), y11.1 =
  (.agg [(.val (.int .i64 z12)), (.val (.int .i64 z13)), (.val (.int .i64 z14)), (.val (.int .i64 z15))]) ∧
  (CallA tb.P 25 [(.agg [(.val (.int .i64 z12)), (.val (.int .i64 z13)), (.val (.int .i64 z14)), (.val (.int .i64 z15))])] M9 fun y16 M17 => zB y16 fun b18 => K21 (!b18) M17))
def an21 : An := (.seq (.reg []) (.seq (.seq (.reg [.non, .int .i64, .bool, .bool, .spl, .agg [.int .i64, .int .i64, .int .i64, .int .i64], .bool, .bool]) (.cnd (.seq (.reg []) .z) .z)) (.seq (.opn [(0, []), (2, []), (3, []), (4, []), (1, [3]), (5, []), (6, []), (7, [])] [0, 0, 0, 0, 0, 0, 0, 0] [[], [3]] 1 [.non, .ptr, .int .i64, .int .u8, .non, .non, .non, .non]) (.seq (.opn [(0, []), (1, []), (4, []), (7, []), (2, []), (5, []), (8, []), (3, [5, 8]), (6, [8]), (9, []), (10, [])] [] [[], [], [], [5, 8], [], [], [8]] 0 [.non, .ptr, .ptr, .ptr, .int .i64, .int .i64, .int .i64, .non, .non, .non, .non]) (.seq (.reg [.non, .non, .int .u32, .int .i64]) .z)))))
theorem fn21 : tb.fn.get 21 = some Try.f21 := by kernel_rfl
theorem an21_ok : anB tb Try.f21.ntmps an21 (bodyOf Try.f21) = true := by kernel_rfl
theorem F21_eq : (fun (a0 a1 : AV) (M : Mem) (Q : AV → Mem → Prop) => zCs [.l .any, .a [.int .i64, .int .i64, .int .i64, .int .i64]] [a0, a1] fun args => wZ tb an21 (bodyOf Try.f21) (enterA Try.f21 args M) (retQ tb Try.f21 Q)) = fun (a0 a1 : AV) (M : Mem) (Q : AV → Mem → Prop) => F21 a0 a1 M Q := by kernel_rfl
theorem F21_ok {a0 a1 : AV} {M : Mem} {Q : AV → Mem → Prop} (h : F21 a0 a1 M Q) : CallA tb.P 21 [a0, a1] M Q :=
  calla_wZ tb_ok tb_mix fn21 (c := bodyOf Try.f21) rfl an21_ok (ks := [.l .any, .a [.int .i64, .int .i64, .int .i64, .int .i64]]) (cast (congrFun (congrFun (congrFun (congrFun F21_eq a0) a1) M) Q).symm h)

-- NOT PRINTED 22 jotter/jotterref8.Lay: open region 3: [(1, 5, 'call', 'buildSlice')]

def F23 (a0 a1 : AV) (M : Mem) (Q : AV → Mem → Prop) : Prop :=
  bindO (eLen tb false 22 a0 M) fun y1 => zI .i64 y1.1 fun z2 => bindO (eLen tb false 22 a1 M) fun y3 => zI .i64 y3.1 fun z4 => condB (z2 !=
  z4) (Q (.val (.bool false)) M) (∃ J5 : Int → Nat → Mem → Prop, (∃ n6 : Nat, J5 (0 : Int) n6 M) ∧ ∀ (_ : Nat → Option AV) (z7 : Int) (n8 : Nat) (M9 : Mem), J5 z7 n8 M9 →
  (bindO (eLen tb false 22 a0 M9) fun y10 => zI .i64 y10.1 fun z11 => condB (decide (z7 < z11)) (bindO (eIA tb 22 a0 (.val (.int .i64 z7)) M9) fun y12 => zP y12.1 fun p13 o14 => bindO (eIA tb 22 a1 (.val (.int .i64 z7)) M9) fun y15 => zP y15.1 fun p16 o17 => bindO (eLd tb 5 (.ptr p13 o14) M9) fun y18 => zI .u8 y18.1 fun z19 => bindO (eLd tb 5 (.ptr p16 o17) M9) fun y20 => zI .u8 y20.1 fun z21 => condB (z19 !=
  z21) (Q (.val (.bool false)) M9) (∃ k22 : Nat, k22 < n8 ∧ (J5 (iAdd .i64 z7 1) k22 M9))) (Q (.val (.bool true)) M9)))
def an23 : An := (.seq (.reg []) (.seq (.seq (.reg [.non, .int .i64, .non, .int .i64, .bool]) (.cnd (.seq (.reg []) .z) .z)) (.seq (.seq (.reg []) (.blk (.lop [(5, .int .i64)] [4, 11, 12, 13, 14, 15, 16, 17, 18, 19, 20, 21, 22, 23, 24, 25] (.seq (.seq (.reg [.non, .non, .int .i64, .bool]) (.cnd .z .z)) (.seq (.blk (.seq (.opn [(0, []), (1, []), (2, []), (4, []), (5, []), (6, []), (3, []), (7, []), (8, [])] [] [] 0 [.non, .non, .ptr, .non, .non, .ptr, .int .u8, .int .u8, .bool]) (.cnd (.seq (.reg []) .z) .z))) (.reg [.non, .int .i64])))))) (.seq (.reg []) .z))))
theorem fn23 : tb.fn.get 23 = some Try.f23 := by kernel_rfl
theorem an23_ok : anB tb Try.f23.ntmps an23 (bodyOf Try.f23) = true := by kernel_rfl
theorem F23_eq : (fun (a0 a1 : AV) (M : Mem) (Q : AV → Mem → Prop) => zCs [.l .any, .l .any] [a0, a1] fun args => wZ tb an23 (bodyOf Try.f23) (enterA Try.f23 args M) (retQ tb Try.f23 Q)) = fun (a0 a1 : AV) (M : Mem) (Q : AV → Mem → Prop) => F23 a0 a1 M Q := by kernel_rfl
theorem F23_ok {a0 a1 : AV} {M : Mem} {Q : AV → Mem → Prop} (h : F23 a0 a1 M Q) : CallA tb.P 23 [a0, a1] M Q :=
  calla_wZ tb_ok tb_mix fn23 (c := bodyOf Try.f23) rfl an23_ok (ks := [.l .any, .l .any]) (cast (congrFun (congrFun (congrFun (congrFun F23_eq a0) a1) M) Q).symm h)

def F24 (a0 : AV) (M : Mem) (Q : AV → Mem → Prop) : Prop :=
  zI .i64 a0 fun z1 => Q (.val (.int .i64 z1)) M
def an24 : An := (.seq (.reg []) (.seq (.reg []) .z))
theorem fn24 : tb.fn.get 24 = some Try.f24 := by kernel_rfl
theorem an24_ok : anB tb Try.f24.ntmps an24 (bodyOf Try.f24) = true := by kernel_rfl
theorem F24_eq : (fun (a0 : AV) (M : Mem) (Q : AV → Mem → Prop) => zCs [.l (.int .i64)] [a0] fun args => wZ tb an24 (bodyOf Try.f24) (enterA Try.f24 args M) (retQ tb Try.f24 Q)) = fun (a0 : AV) (M : Mem) (Q : AV → Mem → Prop) => F24 a0 M Q := by kernel_rfl
theorem F24_ok {a0 : AV} {M : Mem} {Q : AV → Mem → Prop} (h : F24 a0 M Q) : CallA tb.P 24 [a0] M Q :=
  calla_wZ tb_ok tb_mix fn24 (c := bodyOf Try.f24) rfl an24_ok (ks := [.l (.int .i64)]) (cast (congrFun (congrFun (congrFun F24_eq a0) M) Q).symm h)

def F25 (a0 : AV) (M : Mem) (Q : AV → Mem → Prop) : Prop :=
  ∃ (z1 : Int) (z2 : Int) (z3 : Int) (z4 : Int), a0 = (.agg [(.val (.int .i64 z1)), (.val (.int .i64 z2)), (.val (.int .i64 z3)), (.val (.int .i64 z4))]) ∧
  letP (M.new (.cells [(.val (.int .i64 z1)), (.val (.int .i64 z2)), (.val (.int .i64 z3)), (.val (.int .i64 z4))] true)) fun M5 => letP (fun (b40 : Bool) (M41 : Mem) => Q (.val (.bool b40)) M41) fun K42 => bindO (eLd tb 3 (.ptr M.next 0) M5) fun y6 => zI .i64 y6.1 fun z7 => CallA tb.P 31 [(.val (.int .i64 z7)), (.val (.int .i64 1)), (.val (.int .i64 3))] M5 fun y8 M9 => zB y8 fun b10 => condB (b10) (bindO (eLd tb 3 (.ptr M.next 1) M9) fun y11 => zI .i64 y11.1 fun z12 => CallA tb.P 31 [(.val (.int .i64 z12)), (.val (.int .i64 0)), (.val (.int .i64 65535))] M9 fun y13 M14 => zB y13 fun b15 => condB (b15) (bindO (eLd tb 3 (.ptr M.next 0) M14) fun y16 => zI .i64 y16.1 fun z17 => condB (z17 !=
  (3 : Int)) (bindO (eLd tb 3 (.ptr M.next 2) M14) fun y18 => zI .i64 y18.1 fun z19 => CallA tb.P 31 [(.val (.int .i64 z19)), (.val (.int .i64 0)), (.val (.int .i64 4294967295))] M14 fun y20 M21 => zB y20 fun b22 => condB (b22) (bindO (eLd tb 3 (.ptr M.next 3) M21) fun y23 => zI .i64 y23.1 fun z24 => CallA tb.P 31 [(.val (.int .i64 z24)), (.val (.int .i64 0)), (.val (.int .i64 16777215))] M21 fun y25 M26 => zB y25 fun b27 => K42 b27 M26) (K42 false M21)) (bindO (eLd tb 3 (.ptr M.next 1) M14) fun y28 => zI .i64 y28.1 fun z29 => condB (z29 ==
  (0 : Int)) (bindO (eLd tb 3 (.ptr M.next 2) M14) fun y30 => zI .i64 y30.1 fun z31 => CallA tb.P 31 [(.val (.int .i64 z31)), (.val (.int .i64 0)), (.val (.int .i64 4294967295))] M14 fun y32 M33 => zB y32 fun b34 => condB (b34) (bindO (eLd tb 3 (.ptr M.next 3) M33) fun y35 => zI .i64 y35.1 fun z36 => CallA tb.P 31 [(.val (.int .i64 z36)), (.val (.int .i64 0)), (.val (.int .i64 16777215))] M33 fun y37 M38 => zB y37 fun b39 => K42 b39 M38) (K42 false M33)) (K42 false M14))) (K42 false M14)) (K42 false M9)
def an25 : An := (.seq (.reg []) (.seq (.reg [.ptr, .int .i64, .bool, .spl, .ptr, .int .i64, .bool, .non, .spl, .ptr, .int .i64, .bool, .spl, .ptr, .int .i64, .bool, .non, .non, .spl, .ptr, .int .i64, .bool, .non, .spl, .ptr, .int .i64, .bool]) .z))
theorem fn25 : tb.fn.get 25 = some Try.f25 := by kernel_rfl
theorem an25_ok : anB tb Try.f25.ntmps an25 (bodyOf Try.f25) = true := by kernel_rfl
theorem F25_eq : (fun (a0 : AV) (M : Mem) (Q : AV → Mem → Prop) => zCs [.a [.int .i64, .int .i64, .int .i64, .int .i64]] [a0] fun args => wZ tb an25 (bodyOf Try.f25) (enterA Try.f25 args M) (retQ tb Try.f25 Q)) = fun (a0 : AV) (M : Mem) (Q : AV → Mem → Prop) => F25 a0 M Q := by kernel_rfl
theorem F25_ok {a0 : AV} {M : Mem} {Q : AV → Mem → Prop} (h : F25 a0 M Q) : CallA tb.P 25 [a0] M Q :=
  calla_wZ tb_ok tb_mix fn25 (c := bodyOf Try.f25) rfl an25_ok (ks := [.a [.int .i64, .int .i64, .int .i64, .int .i64]]) (cast (congrFun (congrFun (congrFun F25_eq a0) M) Q).symm h)

def F26 (a0 : AV) (M : Mem) (Q : AV → Mem → Prop) : Prop :=
  ∃ (z1 : Int) (z2 : Int) (z3 : Int) (z4 : Int), a0 = (.agg [(.val (.int .i64 z1)), (.val (.int .i64 z2)), (.val (.int .i64 z3)), (.val (.int .i64 z4))]) ∧
  letP (M.new (.cells [(.val (.int .i64 z1)), (.val (.int .i64 z2)), (.val (.int .i64 z3)), (.val (.int .i64 z4))] true)) fun M5 => letP (fun (b34 : Bool) => Q (.val (.bool b34)) M5) fun K35 => bindO (eLd tb 3 (.ptr M.next 0) M5) fun y6 => zI .i64 y6.1 fun z7 => condB (decide (z7 ≥ (1 : Int))) (bindO (eLd tb 3 (.ptr M.next 0) M5) fun y8 => zI .i64 y8.1 fun z9 => condB (decide (z9 ≤ (3 : Int))) (bindO (eLd tb 3 (.ptr M.next 1) M5) fun y10 => zI .i64 y10.1 fun z11 => condB (decide (z11 ≥ (0 : Int))) (bindO (eLd tb 3 (.ptr M.next 1) M5) fun y12 => zI .i64 y12.1 fun z13 => condB (decide (z13 ≤ (65535 : Int))) (bindO (eLd tb 3 (.ptr M.next 0) M5) fun y14 => zI .i64 y14.1 fun z15 => condB (z15 !=
  (3 : Int)) (bindO (eLd tb 3 (.ptr M.next 2) M5) fun y16 => zI .i64 y16.1 fun z17 => condB (decide (z17 ≥ (0 : Int))) (bindO (eLd tb 3 (.ptr M.next 2) M5) fun y18 => zI .i64 y18.1 fun z19 => condB (decide (z19 ≤ (4294967295 : Int))) (bindO (eLd tb 3 (.ptr M.next 3) M5) fun y20 => zI .i64 y20.1 fun z21 => condB (decide (z21 ≥ (0 : Int))) (bindO (eLd tb 3 (.ptr M.next 3) M5) fun y22 => zI .i64 y22.1 fun z23 => K35 (decide (z23 ≤ (16777215 : Int)))) (K35 false)) (K35 false)) (K35 false)) (bindO (eLd tb 3 (.ptr M.next 1) M5) fun y24 => zI .i64 y24.1 fun z25 => condB (z25 ==
  (0 : Int)) (bindO (eLd tb 3 (.ptr M.next 2) M5) fun y26 => zI .i64 y26.1 fun z27 => condB (decide (z27 ≥ (0 : Int))) (bindO (eLd tb 3 (.ptr M.next 2) M5) fun y28 => zI .i64 y28.1 fun z29 => condB (decide (z29 ≤ (4294967295 : Int))) (bindO (eLd tb 3 (.ptr M.next 3) M5) fun y30 => zI .i64 y30.1 fun z31 => condB (decide (z31 ≥ (0 : Int))) (bindO (eLd tb 3 (.ptr M.next 3) M5) fun y32 => zI .i64 y32.1 fun z33 => K35 (decide (z33 ≤ (16777215 : Int)))) (K35 false)) (K35 false)) (K35 false)) (K35 false))) (K35 false)) (K35 false)) (K35 false)) (K35 false)
def an26 : An := (.seq (.reg []) (.seq (.reg [.ptr, .int .i64, .bool, .spl, .ptr, .int .i64, .bool, .non, .spl, .ptr, .int .i64, .bool, .non, .spl, .ptr, .int .i64, .bool, .non, .spl, .ptr, .int .i64, .bool, .spl, .ptr, .int .i64, .bool, .non, .non, .spl, .ptr, .int .i64, .bool, .non, .spl, .ptr, .int .i64, .bool, .non, .spl, .ptr, .int .i64, .bool, .non, .spl, .ptr, .int .i64, .bool]) .z))
theorem fn26 : tb.fn.get 26 = some Try.f26 := by kernel_rfl
theorem an26_ok : anB tb Try.f26.ntmps an26 (bodyOf Try.f26) = true := by kernel_rfl
theorem F26_eq : (fun (a0 : AV) (M : Mem) (Q : AV → Mem → Prop) => zCs [.a [.int .i64, .int .i64, .int .i64, .int .i64]] [a0] fun args => wZ tb an26 (bodyOf Try.f26) (enterA Try.f26 args M) (retQ tb Try.f26 Q)) = fun (a0 : AV) (M : Mem) (Q : AV → Mem → Prop) => F26 a0 M Q := by kernel_rfl
theorem F26_ok {a0 : AV} {M : Mem} {Q : AV → Mem → Prop} (h : F26 a0 M Q) : CallA tb.P 26 [a0] M Q :=
  calla_wZ tb_ok tb_mix fn26 (c := bodyOf Try.f26) rfl an26_ok (ks := [.a [.int .i64, .int .i64, .int .i64, .int .i64]]) (cast (congrFun (congrFun (congrFun F26_eq a0) M) Q).symm h)

def F27 (a0 : AV) (M : Mem) (Q : AV → Mem → Prop) : Prop :=
  ∃ J1 : Int → Nat → Mem → Prop, (∃ n2 : Nat, J1 (0 : Int) n2 M) ∧ ∀ (_ : Nat → Option AV) (z3 : Int) (n4 : Nat) (M5 : Mem), J1 z3 n4 M5 →
  (bindO (eLen tb false 22 a0 M5) fun y6 => zI .i64 y6.1 fun z7 => condB (decide (z3 < z7)) (bindO (eIA tb 22 a0 (.val (.int .i64 z3)) M5) fun y8 => zP y8.1 fun p9 o10 => bindO (eSt tb 5 (.ptr p9 o10) (.val (.int .u8 238)) M5) fun y11 => ∃ k12 : Nat, k12 < n4 ∧
  (J1 (iAdd .i64 z3 1) k12 y11.2)) (letP (M5.new (.cells [(.val (.int .u8 238))] true)) fun M13 => bindO (evAppend tb 22 22 a0 (.sl M5.next 0 1 1 none) M13) fun y14 => Q (.tup []) y14.2))
def an27 : An := (.seq (.seq (.reg []) (.blk (.lop [(2, .int .i64)] [3, 4, 5, 6, 7, 8, 9, 10, 11] (.seq (.seq (.reg [.non, .non, .int .i64, .bool]) (.cnd .z .z)) (.seq (.blk (.reg [.non, .non, .ptr])) (.reg [.non, .int .i64])))))) (.reg []))
theorem fn27 : tb.fn.get 27 = some Try.f27 := by kernel_rfl
theorem an27_ok : anB tb Try.f27.ntmps an27 (bodyOf Try.f27) = true := by kernel_rfl
theorem F27_eq : (fun (a0 : AV) (M : Mem) (Q : AV → Mem → Prop) => zCs [.l .any] [a0] fun args => wZ tb an27 (bodyOf Try.f27) (enterA Try.f27 args M) (retQ tb Try.f27 Q)) = fun (a0 : AV) (M : Mem) (Q : AV → Mem → Prop) => F27 a0 M Q := by kernel_rfl
theorem F27_ok {a0 : AV} {M : Mem} {Q : AV → Mem → Prop} (h : F27 a0 M Q) : CallA tb.P 27 [a0] M Q :=
  calla_wZ tb_ok tb_mix fn27 (c := bodyOf Try.f27) rfl an27_ok (ks := [.l .any]) (cast (congrFun (congrFun (congrFun F27_eq a0) M) Q).symm h)

-- NOT PRINTED 28 jotter/tag.Read: a result in a cell

-- NOT PRINTED 29 jotter/jotterref8.Read: a result in a cell

-- NOT PRINTED 30 jotter/jotterlaw8.one: a result in a cell

def F31 (a0 a1 a2 : AV) (M : Mem) (Q : AV → Mem → Prop) : Prop :=
  zI .i64 a0 fun z1 => zI .i64 a1 fun z2 => zI .i64 a2 fun z3 => letP (fun (b4 : Bool) => Q (.val (.bool b4)) M) fun K5 => condB (decide (z1 ≥ z2)) (K5 (decide (z1 ≤ z3))) (K5 false)
def an31 : An := (.seq (.reg []) (.seq (.reg [.non, .non, .bool, .spl, .non, .non, .bool]) .z))
theorem fn31 : tb.fn.get 31 = some Try.f31 := by kernel_rfl
theorem an31_ok : anB tb Try.f31.ntmps an31 (bodyOf Try.f31) = true := by kernel_rfl
theorem F31_eq : (fun (a0 a1 a2 : AV) (M : Mem) (Q : AV → Mem → Prop) => zCs [.l (.int .i64), .l (.int .i64), .l (.int .i64)] [a0, a1, a2] fun args => wZ tb an31 (bodyOf Try.f31) (enterA Try.f31 args M) (retQ tb Try.f31 Q)) = fun (a0 a1 a2 : AV) (M : Mem) (Q : AV → Mem → Prop) => F31 a0 a1 a2 M Q := by kernel_rfl
theorem F31_ok {a0 a1 a2 : AV} {M : Mem} {Q : AV → Mem → Prop} (h : F31 a0 a1 a2 M Q) : CallA tb.P 31 [a0, a1, a2] M Q :=
  calla_wZ tb_ok tb_mix fn31 (c := bodyOf Try.f31) rfl an31_ok (ks := [.l (.int .i64), .l (.int .i64), .l (.int .i64)]) (cast (congrFun (congrFun (congrFun (congrFun (congrFun F31_eq a0) a1) a2) M) Q).symm h)

def F32 (a0 : AV) (M : Mem) (Q : AV → Mem → Prop) : Prop :=
  bindO (eBin tb .eql 22 (.tmp 3) (.const (.slice none 0 0)) a0 (.val (.slice none 0 0)) M) fun y1 => zB y1.1 fun b2 => condB (b2) (Q (.val (.slice none 0 0)) M) (letP (M.new (.cells [] true)) fun M3 => bindO (evAppend tb 22 22 (.sl M.next 0 0 0 none) a0 M3) fun y4 => Q y4.1 y4.2)
def an32 : An := (.seq (.reg []) (.seq (.seq (.reg [.non, .bool]) (.cnd (.seq (.reg []) .z) .z)) (.seq (.reg []) .z)))
theorem fn32 : tb.fn.get 32 = some Try.f32 := by kernel_rfl
theorem an32_ok : anB tb Try.f32.ntmps an32 (bodyOf Try.f32) = true := by kernel_rfl
theorem F32_eq : (fun (a0 : AV) (M : Mem) (Q : AV → Mem → Prop) => zCs [.l .any] [a0] fun args => wZ tb an32 (bodyOf Try.f32) (enterA Try.f32 args M) (retQ tb Try.f32 Q)) = fun (a0 : AV) (M : Mem) (Q : AV → Mem → Prop) => F32 a0 M Q := by kernel_rfl
theorem F32_ok {a0 : AV} {M : Mem} {Q : AV → Mem → Prop} (h : F32 a0 M Q) : CallA tb.P 32 [a0] M Q :=
  calla_wZ tb_ok tb_mix fn32 (c := bodyOf Try.f32) rfl an32_ok (ks := [.l .any]) (cast (congrFun (congrFun (congrFun F32_eq a0) M) Q).symm h)

def F33 (a0 a1 a2 : AV) (M : Mem) (Q : AV → Mem → Prop) : Prop :=
  zI .i64 a1 fun z1 => zI .i64 a2 fun z2 => ∃ J3 : AV → Int → Nat → Mem → Prop, (∃ n4 : Nat, J3 a0 (iSub .i64 z2 1) n4 M) ∧
  ∀ (_ : Nat → Option AV) (x5 : AV) (z6 : Int) (n7 : Nat) (M8 : Mem), J3 x5 z6 n7 M8 →
  (condB (decide (z6 ≥ (0 : Int))) (bindO (eBin tb .shr 3 (.tmp 15) (.tmp 17) (.val (.int .i64 z1)) (.val (.int .i64 (iMul .i64 8 z6))) M8) fun y9 => zI .i64 y9.1 fun z10 => letP (M8.new (.cells [(.val (.int .u8 (IntKind.wrap .u8 z10)))] true)) fun M11 => bindO (evAppend tb 22 22 x5 (.sl M8.next 0 1 1 none) M11) fun y12 => ∃ k13 : Nat, k13 < n7 ∧
  (J3 y12.1 (iSub .i64 z6 1) k13 y12.2)) (Q x5 M8))
def an33 : An := (.seq (.reg []) (.seq (.seq (.reg [.non, .int .i64]) (.blk (.lop [(0, .any), (7, .int .i64)] [10, 11, 12, 13, 14, 15, 16, 17, 18, 19, 20, 21] (.seq (.seq (.reg [.non, .bool]) (.cnd .z .z)) (.seq (.blk (.reg [.non, .non, .non, .int .i64, .int .i64, .int .u8])) (.reg [.non, .int .i64])))))) (.seq (.reg []) .z)))
theorem fn33 : tb.fn.get 33 = some Try.f33 := by kernel_rfl
theorem an33_ok : anB tb Try.f33.ntmps an33 (bodyOf Try.f33) = true := by kernel_rfl
theorem F33_eq : (fun (a0 a1 a2 : AV) (M : Mem) (Q : AV → Mem → Prop) => zCs [.l .any, .l (.int .i64), .l (.int .i64)] [a0, a1, a2] fun args => wZ tb an33 (bodyOf Try.f33) (enterA Try.f33 args M) (retQ tb Try.f33 Q)) = fun (a0 a1 a2 : AV) (M : Mem) (Q : AV → Mem → Prop) => F33 a0 a1 a2 M Q := by kernel_rfl
theorem F33_ok {a0 a1 a2 : AV} {M : Mem} {Q : AV → Mem → Prop} (h : F33 a0 a1 a2 M Q) : CallA tb.P 33 [a0, a1, a2] M Q :=
  calla_wZ tb_ok tb_mix fn33 (c := bodyOf Try.f33) rfl an33_ok (ks := [.l .any, .l (.int .i64), .l (.int .i64)]) (cast (congrFun (congrFun (congrFun (congrFun (congrFun F33_eq a0) a1) a2) M) Q).symm h)

def F34 (a0 a1 a2 : AV) (M : Mem) (Q : AV → Mem → Prop) : Prop :=
  zI .i64 a1 fun z1 => zI .i64 a2 fun z2 => ∃ J3 : AV → Int → Nat → Mem → Prop, (∃ n4 : Nat, J3 a0 (iSub .i64 z2 1) n4 M) ∧
  ∀ (_ : Nat → Option AV) (x5 : AV) (z6 : Int) (n7 : Nat) (M8 : Mem), J3 x5 z6 n7 M8 →
  (condB (decide (z6 ≥ (0 : Int))) (bindO (eBin tb .shr 3 (.tmp 15) (.tmp 17) (.val (.int .i64 z1)) (.val (.int .i64 (iMul .i64 8 z6))) M8) fun y9 => zI .i64 y9.1 fun z10 => letP (M8.new (.cells [(.val (.int .u8 (IntKind.wrap .u8 z10)))] true)) fun M11 => bindO (evAppend tb 22 22 x5 (.sl M8.next 0 1 1 none) M11) fun y12 => ∃ k13 : Nat, k13 < n7 ∧
  (J3 y12.1 (iSub .i64 z6 1) k13 y12.2)) (Q x5 M8))
def an34 : An := (.seq (.reg []) (.seq (.seq (.reg [.non, .int .i64]) (.blk (.lop [(0, .any), (7, .int .i64)] [10, 11, 12, 13, 14, 15, 16, 17, 18, 19, 20, 21] (.seq (.seq (.reg [.non, .bool]) (.cnd .z .z)) (.seq (.blk (.reg [.non, .non, .non, .int .i64, .int .i64, .int .u8])) (.reg [.non, .int .i64])))))) (.seq (.reg []) .z)))
theorem fn34 : tb.fn.get 34 = some Try.f34 := by kernel_rfl
theorem an34_ok : anB tb Try.f34.ntmps an34 (bodyOf Try.f34) = true := by kernel_rfl
theorem F34_eq : (fun (a0 a1 a2 : AV) (M : Mem) (Q : AV → Mem → Prop) => zCs [.l .any, .l (.int .i64), .l (.int .i64)] [a0, a1, a2] fun args => wZ tb an34 (bodyOf Try.f34) (enterA Try.f34 args M) (retQ tb Try.f34 Q)) = fun (a0 a1 a2 : AV) (M : Mem) (Q : AV → Mem → Prop) => F34 a0 a1 a2 M Q := by kernel_rfl
theorem F34_ok {a0 a1 a2 : AV} {M : Mem} {Q : AV → Mem → Prop} (h : F34 a0 a1 a2 M Q) : CallA tb.P 34 [a0, a1, a2] M Q :=
  calla_wZ tb_ok tb_mix fn34 (c := bodyOf Try.f34) rfl an34_ok (ks := [.l .any, .l (.int .i64), .l (.int .i64)]) (cast (congrFun (congrFun (congrFun (congrFun (congrFun F34_eq a0) a1) a2) M) Q).symm h)

def F35 (a0 a1 : AV) (M : Mem) (Q : AV → Mem → Prop) : Prop :=
  CallA tb.P 39 [a0, a1] M fun y1 M2 => zI .i64 y1 fun z3 => Q (.val (.bool (decide (z3 ≥ (0 : Int))))) M2
def an35 : An := (.seq (.reg []) (.seq (.reg [.non, .non, .int .i64, .bool]) .z))
theorem fn35 : tb.fn.get 35 = some Try.f35 := by kernel_rfl
theorem an35_ok : anB tb Try.f35.ntmps an35 (bodyOf Try.f35) = true := by kernel_rfl
theorem F35_eq : (fun (a0 a1 : AV) (M : Mem) (Q : AV → Mem → Prop) => zCs [.l .any, .l .any] [a0, a1] fun args => wZ tb an35 (bodyOf Try.f35) (enterA Try.f35 args M) (retQ tb Try.f35 Q)) = fun (a0 a1 : AV) (M : Mem) (Q : AV → Mem → Prop) => F35 a0 a1 M Q := by kernel_rfl
theorem F35_ok {a0 a1 : AV} {M : Mem} {Q : AV → Mem → Prop} (h : F35 a0 a1 M Q) : CallA tb.P 35 [a0, a1] M Q :=
  calla_wZ tb_ok tb_mix fn35 (c := bodyOf Try.f35) rfl an35_ok (ks := [.l .any, .l .any]) (cast (congrFun (congrFun (congrFun (congrFun F35_eq a0) a1) M) Q).symm h)

def F36 (a0 : AV) (M : Mem) (Q : AV → Mem → Prop) : Prop :=
  zI .u8 a0 fun z1 => Q (.val (.bool (z1 != (255 : Int)))) M
def an36 : An := (.seq (.reg []) (.seq (.reg [.non, .bool]) .z))
theorem fn36 : tb.fn.get 36 = some Try.f36 := by kernel_rfl
theorem an36_ok : anB tb Try.f36.ntmps an36 (bodyOf Try.f36) = true := by kernel_rfl
theorem F36_eq : (fun (a0 : AV) (M : Mem) (Q : AV → Mem → Prop) => zCs [.l (.int .u8)] [a0] fun args => wZ tb an36 (bodyOf Try.f36) (enterA Try.f36 args M) (retQ tb Try.f36 Q)) = fun (a0 : AV) (M : Mem) (Q : AV → Mem → Prop) => F36 a0 M Q := by kernel_rfl
theorem F36_ok {a0 : AV} {M : Mem} {Q : AV → Mem → Prop} (h : F36 a0 M Q) : CallA tb.P 36 [a0] M Q :=
  calla_wZ tb_ok tb_mix fn36 (c := bodyOf Try.f36) rfl an36_ok (ks := [.l (.int .u8)]) (cast (congrFun (congrFun (congrFun F36_eq a0) M) Q).symm h)

def F37 (a0 : AV) (M : Mem) (Q : AV → Mem → Prop) : Prop :=
  bindO (eLen tb false 22 a0 M) fun y1 => zI .i64 y1.1 fun z2 => ∃ J3 : Int → Int → Nat → Mem → Prop, (∃ n4 : Nat, J3 (0 : Int) (0 : Int) n4 M) ∧
  ∀ (_ : Nat → Option AV) (z5 : Int) (z6 : Int) (n7 : Nat) (M8 : Mem), J3 z5 z6 n7 M8 →
  (condB (decide (z6 < z2)) (bindO (eIA tb 22 a0 (.val (.int .i64 z6)) M8) fun y9 => zP y9.1 fun p10 o11 => bindO (eLd tb 5 (.ptr p10 o11) M8) fun y12 => zI .u8 y12.1 fun z13 => ∃ k14 : Nat, k14 < n7 ∧
  (J3 (iOr .i64 (iShl .i64 z5 8) (IntKind.wrap .i64 z13)) (iAdd .i64 z6 1) k14 M8)) (Q (.val (.int .i64 z5)) M8))
def an37 : An := (.seq (.reg []) (.seq (.reg []) (.seq (.seq (.reg [.non, .int .i64]) (.blk (.lop [(3, .int .i64), (8, .int .i64)] [5, 9, 10, 11, 12, 13, 14, 15, 16, 17] (.seq (.reg []) (.seq (.cnd .z .z) (.seq (.blk (.seq (.reg [.ptr, .int .u8]) (.reg [.non, .int .i64, .non, .int .i64, .int .i64]))) (.reg [.int .i64]))))))) (.seq (.reg []) .z))))
theorem fn37 : tb.fn.get 37 = some Try.f37 := by kernel_rfl
theorem an37_ok : anB tb Try.f37.ntmps an37 (bodyOf Try.f37) = true := by kernel_rfl
theorem F37_eq : (fun (a0 : AV) (M : Mem) (Q : AV → Mem → Prop) => zCs [.l .any] [a0] fun args => wZ tb an37 (bodyOf Try.f37) (enterA Try.f37 args M) (retQ tb Try.f37 Q)) = fun (a0 : AV) (M : Mem) (Q : AV → Mem → Prop) => F37 a0 M Q := by kernel_rfl
theorem F37_ok {a0 : AV} {M : Mem} {Q : AV → Mem → Prop} (h : F37 a0 M Q) : CallA tb.P 37 [a0] M Q :=
  calla_wZ tb_ok tb_mix fn37 (c := bodyOf Try.f37) rfl an37_ok (ks := [.l .any]) (cast (congrFun (congrFun (congrFun F37_eq a0) M) Q).symm h)

def F38 (a0 : AV) (M : Mem) (Q : AV → Mem → Prop) : Prop :=
  ∃ J1 : Int → Int → Nat → Mem → Prop, (∃ n2 : Nat, J1 (0 : Int) (0 : Int) n2 M) ∧ ∀ (_ : Nat → Option AV) (z3 : Int) (z4 : Int) (n5 : Nat) (M6 : Mem), J1 z3 z4 n5 M6 →
  (bindO (eLen tb false 22 a0 M6) fun y7 => zI .i64 y7.1 fun z8 => condB (decide (z4 < z8)) (bindO (eIA tb 22 a0 (.val (.int .i64 z4)) M6) fun y9 => zP y9.1 fun p10 o11 => bindO (eLd tb 5 (.ptr p10 o11) M6) fun y12 => zI .u8 y12.1 fun z13 => ∃ k14 : Nat, k14 < n5 ∧
  (J1 (iAdd .i64 (iMul .i64 z3 256) (IntKind.wrap .i64 z13)) (iAdd .i64 z4 1) k14 M6)) (Q (.val (.int .i64 z3)) M6))
def an38 : An := (.seq (.reg []) (.seq (.reg []) (.seq (.seq (.reg []) (.blk (.lop [(3, .int .i64), (4, .int .i64)] [5, 6, 7, 8, 9, 10, 11, 12, 13, 14, 15, 16, 17, 18] (.seq (.seq (.reg [.non, .non, .int .i64, .bool]) (.cnd .z .z)) (.seq (.blk (.reg [.non, .int .i64, .non, .non, .ptr, .int .u8, .int .i64, .int .i64])) (.reg [.non, .int .i64])))))) (.seq (.reg []) .z))))
theorem fn38 : tb.fn.get 38 = some Try.f38 := by kernel_rfl
theorem an38_ok : anB tb Try.f38.ntmps an38 (bodyOf Try.f38) = true := by kernel_rfl
theorem F38_eq : (fun (a0 : AV) (M : Mem) (Q : AV → Mem → Prop) => zCs [.l .any] [a0] fun args => wZ tb an38 (bodyOf Try.f38) (enterA Try.f38 args M) (retQ tb Try.f38 Q)) = fun (a0 : AV) (M : Mem) (Q : AV → Mem → Prop) => F38 a0 M Q := by kernel_rfl
theorem F38_ok {a0 : AV} {M : Mem} {Q : AV → Mem → Prop} (h : F38 a0 M Q) : CallA tb.P 38 [a0] M Q :=
  calla_wZ tb_ok tb_mix fn38 (c := bodyOf Try.f38) rfl an38_ok (ks := [.l .any]) (cast (congrFun (congrFun (congrFun F38_eq a0) M) Q).symm h)

def F39 (a0 a1 : AV) (M : Mem) (Q : AV → Mem → Prop) : Prop :=
  bindO (eLen tb false 22 a0 M) fun y1 => zI .i64 y1.1 fun z2 => ∃ J3 : Int → Nat → Mem → Prop, (∃ n4 : Nat, J3 (0 : Int) n4 M) ∧ ∀ (_ : Nat → Option AV) (z5 : Int) (n6 : Nat) (M7 : Mem), J3 z5 n6 M7 →
  (condB (decide (z5 < z2)) (bindO (eIA tb 22 a0 (.val (.int .i64 z5)) M7) fun y8 => zP y8.1 fun p9 o10 => bindO (eLd tb 5 (.ptr p9 o10) M7) fun y11 => zI .u8 y11.1 fun z12 => eCall tb a1 [(.val (.int .u8 z12))] M7 fun y13 M14 => zB y13 fun b15 => condB (b15) (Q (.val (.int .i64 z5)) M14) (∃ k16 : Nat, k16 < n6 ∧
  (J3 (iAdd .i64 z5 1) k16 M14))) (Q (.val (.int .i64 (-1))) M7))
def an39 : An := (.seq (.reg []) (.seq (.seq (.reg [.non, .int .i64]) (.blk (.lop [(8, .int .i64)] [4, 5, 9, 10, 11, 12, 13, 14, 15, 16, 17, 18] (.seq (.reg []) (.seq (.cnd .z .z) (.seq (.blk (.seq (.reg []) (.seq (.reg [.non, .non, .non, .ptr, .int .u8, .bool]) (.cnd (.seq (.reg []) .z) .z)))) (.reg [.int .i64]))))))) (.seq (.reg []) .z)))
theorem fn39 : tb.fn.get 39 = some Try.f39 := by kernel_rfl
theorem an39_ok : anB tb Try.f39.ntmps an39 (bodyOf Try.f39) = true := by kernel_rfl
theorem F39_eq : (fun (a0 a1 : AV) (M : Mem) (Q : AV → Mem → Prop) => zCs [.l .any, .l .any] [a0, a1] fun args => wZ tb an39 (bodyOf Try.f39) (enterA Try.f39 args M) (retQ tb Try.f39 Q)) = fun (a0 a1 : AV) (M : Mem) (Q : AV → Mem → Prop) => F39 a0 a1 M Q := by kernel_rfl
theorem F39_ok {a0 a1 : AV} {M : Mem} {Q : AV → Mem → Prop} (h : F39 a0 a1 M Q) : CallA tb.P 39 [a0, a1] M Q :=
  calla_wZ tb_ok tb_mix fn39 (c := bodyOf Try.f39) rfl an39_ok (ks := [.l .any, .l .any]) (cast (congrFun (congrFun (congrFun (congrFun F39_eq a0) a1) M) Q).symm h)

end Go.Proofs.Ytpfifmemkbddjaa
