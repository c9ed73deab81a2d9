import Derived.Test.YtjffimbigamadaaP4
set_option linter.unusedSimpArgs false
set_option linter.unusedVariables false
set_option linter.unusedSectionVars false
/- Functions as what has to be shown. (Printed by pr.py.) -/
namespace Go.Proofs.Ytjffimbigamadaa
open Go.AM
def F14 (a0 a1 a2 : AV) (M : Mem) (Q : AV → Mem → Prop) : Prop :=
  ∃ (z1 : Int) (z2 : Int) (z3 : Int) (z4 : Int) (z5 : Int), a0 = (.agg [(.val (.int .i64 z1)), (.val (.int .i64 z2)), (.val (.int .i64 z3)), (.val (.int .i64 z4)), (.val (.int .i64 z5))]) ∧
  zI .i64 a1 fun z6 => zI .i64 a2 fun z7 => letP (M.new (.cells [(.val (.int .i64 z1)), (.val (.int .i64 z2)), (.val (.int .i64 z3)), (.val (.int .i64 z4)), (.val (.int .i64 z5))] true)) fun M8 => bindO (eLd tb 23 (.ptr M.next 0) M8) fun y9 => ∃ (z10 : Int) (z11 : Int) (z12 : Int) (z13 : Int) (z14 : Int), y9.1 =
  (.agg [(.val (.int .i64 z10)), (.val (.int .i64 z11)), (.val (.int .i64 z12)), (.val (.int .i64 z13)), (.val (.int .i64 z14))]) ∧
  (CallA tb.P 15 [(.agg [(.val (.int .i64 z10)), (.val (.int .i64 z11)), (.val (.int .i64 z12)), (.val (.int .i64 z13)), (.val (.int .i64 z14))]), (.val (.slice none 0 0))] M8 fun y15 M16 => letP (fun (b28 : Bool) (M29 : Mem) => condB (b28) (CallA tb.P 52 [] M29 fun y31 M32 => zB y31 fun b33 => Q (.val (.bool b33)) M32) (CallA tb.P 18 [(.val (.int .i64 z6)), (.val (.int .i64 9))] M29 fun y34 M35 => zI .i64 y34 fun z36 => CallA tb.P 18 [(.val (.int .i64 z7)), (.val (.int .i64 9))] M35 fun y37 M38 => zI .i64 y37 fun z39 => bindO (eLd tb 3 (.ptr M.next 2) M38) fun y40 => zI .i64 y40.1 fun z41 => bindO (evMakeSlice tb 33 (.val (.int .i64 z41)) (.val (.int .i64 z41)) M38) fun y42 => CallA tb.P 61 [y42.1, (.agg [(.val (.int .i64 1)), (.val (.int .i64 1)), (.val (.int .i64 z36)), (.val (.int .i64 1))])] y42.2 fun y43 M44 => ∃ (x45 : AV) (z46 : Int), y43 =
  (.tup [x45, (.val (.int .i64 z46))]) ∧
  (bindO (eLd tb 3 (.ptr M.next 2) M44) fun y47 => zI .i64 y47.1 fun z48 => bindO (evMakeSlice tb 33 (.val (.int .i64 z48)) (.val (.int .i64 z48)) M44) fun y49 => CallA tb.P 61 [y49.1, (.agg [(.val (.int .i64 2)), (.val (.int .i64 2)), (.val (.int .i64 z39)), (.val (.int .i64 1))])] y49.2 fun y50 M51 => ∃ (x52 : AV) (z53 : Int), y50 =
  (.tup [x52, (.val (.int .i64 z53))]) ∧
  (letP (fun (b60 : Bool) (M61 : Mem) => condB (b60) (Q (.val (.bool false)) M61) (letP (fun (x63 : AV) => letP (fun (b72 : Bool) (M73 : Mem) => condB (b72) (Q (.val (.bool false)) M73) (CallA tb.P 21 [y15, (.agg [(.val (.int .i64 0)), (.val (.int .i64 0))])] M73 fun y75 M76 => ∃ (x77 : AV) (z78 : Int), y75 =
  (.tup [x77, (.val (.int .i64 z78))]) ∧
  (letP (fun (b86 : Bool) (M87 : Mem) => Q (.val (.bool b86)) M87) fun K88 => CallA tb.P 60 [y15] M76 fun y79 M80 => bindO (eBin tb .eql 9 (.tmp 82) (.const (.string ⟨#[111, 102, 102]⟩)) y79 (.val (.string ⟨#[111, 102, 102]⟩)) M80) fun y81 => zB y81.1 fun b82 => condB (b82) (CallA tb.P 52 [] M80 fun y83 M84 => zB y83 fun b85 => K88 b85 M84) (K88 false M80)))) fun K74 => CallA tb.P 60 [y15] M61 fun y65 M66 => bindO (eBin tb .neq 9 (.tmp 69) (.tmp 70) y65 x63 M66) fun y67 => zB y67.1 fun b68 => condB (b68) (K74 true M66) (CallA tb.P 26 [y15, (.agg [(.val (.int .i64 1)), (.val (.int .i64 0)), (.val (.int .u8 0))])] M66 fun y69 M70 => zI .i64 y69 fun z71 => K74 (z71 !=
  (0 : Int)) M70)) fun K64 => condB (z36 == z39) (K64 (.val (.string ⟨#[116, 119, 105, 99, 101]⟩))) (K64 (.val (.string ⟨#[]⟩))))) fun K62 => condB (z46 != (0 : Int)) (K62 true M51) (condB (z53 !=
  (0 : Int)) (K62 true M51) (CallA tb.P 19 [y15, (.agg [(.val (.int .i64 3)), (.val (.int .i64 0))]), x45] M51 fun y54 M55 => zI .i64 y54 fun z56 => condB (z56 !=
  (0 : Int)) (K62 true M55) (CallA tb.P 19 [y15, (.agg [(.val (.int .i64 4)), (.val (.int .i64 0))]), x52] M55 fun y57 M58 => zI .i64 y57 fun z59 => K62 (z59 !=
  (0 : Int)) M58))))))) fun K30 => bindO (eBin tb .eql 24 (.tmp 15) (.const (.pointer none)) y15 (.val (.pointer none)) M16) fun y17 => zB y17.1 fun b18 => condB (b18) (K30 true M16) (bindO (eLd tb 23 (.ptr M.next 0) M16) fun y19 => ∃ (z20 : Int) (z21 : Int) (z22 : Int) (z23 : Int) (z24 : Int), y19.1 =
  (.agg [(.val (.int .i64 z20)), (.val (.int .i64 z21)), (.val (.int .i64 z22)), (.val (.int .i64 z23)), (.val (.int .i64 z24))]) ∧
  (CallA tb.P 16 [(.agg [(.val (.int .i64 z20)), (.val (.int .i64 z21)), (.val (.int .i64 z22)), (.val (.int .i64 z23)), (.val (.int .i64 z24))])] M16 fun y25 M26 => zB y25 fun b27 => K30 (!b27) M26)))
def an14 : An := (.seq (.reg []) (.seq (.reg [.agg [.int .i64, .int .i64, .int .i64, .int .i64, .int .i64]]) (.seq (.seq (.reg [.non, .bool, .spl, .agg [.int .i64, .int .i64, .int .i64, .int .i64, .int .i64], .bool, .bool]) (.cnd (.seq (.reg [.bool]) .z) .z)) (.seq (.reg [.non, .int .i64, .non, .int .i64]) (.seq (.reg [.ptr, .int .i64, .non, .non, .non, .tup [.l .any, .l (.int .i64)], .non, .non, .int .i64]) (.seq (.reg [.ptr, .int .i64, .non, .non, .non, .tup [.l .any, .l (.int .i64)], .non, .non, .int .i64]) (.seq (.seq (.reg [.non, .bool, .spl, .non, .bool, .non, .spl, .non, .non, .non, .int .i64, .bool, .non, .spl, .non, .non, .non, .int .i64, .bool]) (.cnd (.seq (.reg []) .z) .z)) (.seq (.reg []) (.seq (.seq (.reg [.non, .non, .bool]) (.cnd (.reg []) .z)) (.seq (.seq (.reg [.non, .non, .non, .bool, .spl, .non, .non, .int .i64, .bool]) (.cnd (.seq (.reg []) .z) .z)) (.seq (.reg [.non, .non, .tup [.l .any, .l (.int .i64)]]) (.seq (.reg [.non, .non, .bool, .spl, .bool]) .z))))))))))))
theorem fn14 : tb.fn.get 14 = some Try.f14 := by kernel_rfl
theorem an14_ok : anB tb Try.f14.ntmps an14 (bodyOf Try.f14) = true := by kernel_rfl
theorem F14_eq : (fun (a0 a1 a2 : AV) (M : Mem) (Q : AV → Mem → Prop) => zCs [.a [.int .i64, .int .i64, .int .i64, .int .i64, .int .i64], .l (.int .i64), .l (.int .i64)] [a0, a1, a2] fun args => wZ tb an14 (bodyOf Try.f14) (enterA Try.f14 args M) (retQ tb Try.f14 Q)) = fun (a0 a1 a2 : AV) (M : Mem) (Q : AV → Mem → Prop) => F14 a0 a1 a2 M Q := by kernel_rfl
theorem F14_ok {a0 a1 a2 : AV} {M : Mem} {Q : AV → Mem → Prop} (h : F14 a0 a1 a2 M Q) : CallA tb.P 14 [a0, a1, a2] M Q :=
  calla_wZ tb_ok tb_mix fn14 (c := bodyOf Try.f14) rfl an14_ok (ks := [.a [.int .i64, .int .i64, .int .i64, .int .i64, .int .i64], .l (.int .i64), .l (.int .i64)]) (cast (congrFun (congrFun (congrFun (congrFun (congrFun F14_eq a0) a1) a2) M) Q).symm h)

def F52 (M : Mem) (Q : AV → Mem → Prop) : Prop :=
  CallA tb.P 98 [] M fun y1 M2 => ∃ (z3 : Int) (z4 : Int) (z5 : Int) (z6 : Int) (z7 : Int), y1 =
  (.agg [(.val (.int .i64 z3)), (.val (.int .i64 z4)), (.val (.int .i64 z5)), (.val (.int .i64 z6)), (.val (.int .i64 z7))]) ∧
  (CallA tb.P 15 [(.agg [(.val (.int .i64 z3)), (.val (.int .i64 z4)), (.val (.int .i64 z5)), (.val (.int .i64 z6)), (.val (.int .i64 z7))]), (.val (.slice none 0 0))] M2 fun y8 M9 => CallA tb.P 53 [y8] M9 fun y10 M11 => ∃ (x12 : AV) (x13 : AV), y10 =
  (.tup [x12, x13]) ∧
  (letP (fun (b39 : Bool) (M40 : Mem) => Q (.val (.bool b39)) M40) fun K41 => bindO (eBin tb .neq 24 (.tmp 11) (.const (.pointer none)) y8 (.val (.pointer none)) M11) fun y14 => zB y14.1 fun b15 => condB (b15) (CallA tb.P 60 [y8] M11 fun y16 M17 => bindO (eBin tb .eql 9 (.tmp 15) (.const (.string ⟨#[]⟩)) y16 (.val (.string ⟨#[]⟩)) M17) fun y18 => zB y18.1 fun b19 => condB (b19) (CallA tb.P 60 [(.val (.pointer none))] M17 fun y20 M21 => bindO (eBin tb .eql 9 (.tmp 19) (.const (.string ⟨#[111, 102, 102]⟩)) y20 (.val (.string ⟨#[111, 102, 102]⟩)) M21) fun y22 => zB y22.1 fun b23 => condB (b23) (bindO (eLen tb false 60 x12 M21) fun y24 => zI .i64 y24.1 fun z25 => condB (z25 ==
  (8 : Int)) (bindO (eLen tb false 97 x13 M21) fun y26 => zI .i64 y26.1 fun z27 => condB (z27 ==
  (8 : Int)) (bindO (eIA tb 97 x13 (.val (.int .i64 7)) M21) fun y28 => zP y28.1 fun p29 o30 => bindO (eLd tb 4 (.ptr p29 o30) M21) fun y31 => zB y31.1 fun b32 => condB (b32) (CallA tb.P 54 [y8] M21 fun y33 M34 => zI .i64 y33 fun z35 => condB (z35 ==
  (0 : Int)) (CallA tb.P 55 [y8] M34 fun y36 M37 => zI .i64 y36 fun z38 => K41 (z38 ==
  (18 : Int)) M37) (K41 false M34)) (K41 false M21)) (K41 false M21)) (K41 false M21)) (K41 false M21)) (K41 false M17)) (K41 false M11)))
def an52 : An := (.seq (.reg []) (.seq (.reg [.agg [.int .i64, .int .i64, .int .i64, .int .i64, .int .i64]]) (.seq (.reg [.non, .tup [.l .any, .l .any]]) (.seq (.reg [.non, .bool, .spl, .non, .non, .bool, .non, .spl, .non, .bool, .non, .spl, .non, .int .i64, .bool, .non, .spl, .non, .int .i64, .bool, .non, .spl, .non, .ptr, .bool, .non, .spl, .non, .int .i64, .bool, .non, .spl, .non, .int .i64, .bool]) .z))))
theorem fn52 : tb.fn.get 52 = some Try.f52 := by kernel_rfl
theorem an52_ok : anB tb Try.f52.ntmps an52 (bodyOf Try.f52) = true := by kernel_rfl
theorem F52_eq : (fun (M : Mem) (Q : AV → Mem → Prop) => zCs [] [] fun args => wZ tb an52 (bodyOf Try.f52) (enterA Try.f52 args M) (retQ tb Try.f52 Q)) = fun (M : Mem) (Q : AV → Mem → Prop) => F52  M Q := by kernel_rfl
theorem F52_ok {M : Mem} {Q : AV → Mem → Prop} (h : F52  M Q) : CallA tb.P 52 [] M Q :=
  calla_wZ tb_ok tb_mix fn52 (c := bodyOf Try.f52) rfl an52_ok (ks := []) (cast (congrFun (congrFun F52_eq M) Q).symm h)

def F53 (a0 : AV) (M : Mem) (Q : AV → Mem → Prop) : Prop :=
  CallA tb.P 36 [a0] M fun y1 M2 => ∃ (z3 : Int) (z4 : Int) (z5 : Int) (z6 : Int) (z7 : Int), y1 =
  (.agg [(.val (.int .i64 z3)), (.val (.int .i64 z4)), (.val (.int .i64 z5)), (.val (.int .i64 z6)), (.val (.int .i64 z7))]) ∧
  (∃ J8 : AV → AV → Int → Nat → Mem → Prop, (∃ n9 : Nat, J8 (.val (.slice none 0 0)) (.val (.slice none 0 0)) (0 : Int) n9 M2) ∧
  ∀ (_ : Nat → Option AV) (x10 : AV) (x11 : AV) (z12 : Int) (n13 : Nat) (M14 : Mem), J8 x10 x11 z12 n13 M14 →
  (condB (decide (z12 < z3)) (CallA tb.P 25 [a0, (.val (.int .i64 z12))] M14 fun y15 M16 => zI .i64 y15 fun z17 => letP (M16.new (.cells [(.val (.int .i64 z17))] true)) fun M18 => bindO (evAppend tb 60 60 x10 (.sl M16.next 0 1 1 none) M18) fun y19 => letP (fun (x30 : AV) (M31 : Mem) => ∃ k33 : Nat, k33 < n13 ∧
  (J8 y19.1 x30 (iAdd .i64 z12 1) k33 M31)) fun K32 => CallA tb.P 32 [a0, (.val (.int .i64 z12))] y19.2 fun y20 M21 => zB y20 fun b22 => condB (!b22) (CallA tb.P 31 [a0, (.val (.int .i64 z12))] M21 fun y23 M24 => zB y23 fun b25 => letP (M24.new (.cells [(.val (.bool (!b25)))] true)) fun M26 => bindO (evAppend tb 97 97 x11 (.sl M24.next 0 1 1 none) M26) fun y27 => K32 y27.1 y27.2) (letP (M21.new (.cells [(.val (.bool false))] true)) fun M28 => bindO (evAppend tb 97 97 x11 (.sl M21.next 0 1 1 none) M28) fun y29 => K32 y29.1 y29.2)) (Q (.tup [x10, x11]) M14)))
def an53 : An := (.seq (.reg []) (.seq (.reg []) (.seq (.reg []) (.seq (.seq (.reg [.non, .agg [.int .i64, .int .i64, .int .i64, .int .i64, .int .i64], .int .i64]) (.blk (.lop [(4, .any), (5, .any), (10, .int .i64)] [6, 11, 12, 13, 14, 15, 16, 17, 18, 19, 20, 21, 22, 23, 24, 25, 26, 27, 28, 29, 30, 31, 32] (.seq (.reg [.bool]) (.seq (.cnd .z .z) (.seq (.blk (.seq (.reg []) (.seq (.reg [.non, .non, .non, .int .i64]) (.reg [.non, .non, .non, .bool, .bool, .spl, .non, .non, .bool, .bool])))) (.reg [.int .i64]))))))) (.seq (.reg []) .z)))))
theorem fn53 : tb.fn.get 53 = some Try.f53 := by kernel_rfl
theorem an53_ok : anB tb Try.f53.ntmps an53 (bodyOf Try.f53) = true := by kernel_rfl
theorem F53_eq : (fun (a0 : AV) (M : Mem) (Q : AV → Mem → Prop) => zCs [.l .any] [a0] fun args => wZ tb an53 (bodyOf Try.f53) (enterA Try.f53 args M) (retQ tb Try.f53 Q)) = fun (a0 : AV) (M : Mem) (Q : AV → Mem → Prop) => F53 a0 M Q := by kernel_rfl
theorem F53_ok {a0 : AV} {M : Mem} {Q : AV → Mem → Prop} (h : F53 a0 M Q) : CallA tb.P 53 [a0] M Q :=
  calla_wZ tb_ok tb_mix fn53 (c := bodyOf Try.f53) rfl an53_ok (ks := [.l .any]) (cast (congrFun (congrFun (congrFun F53_eq a0) M) Q).symm h)

def F54 (a0 : AV) (M : Mem) (Q : AV → Mem → Prop) : Prop :=
  CallA tb.P 53 [a0] M fun y1 M2 => ∃ (x3 : AV) (x4 : AV), y1 = (.tup [x3, x4]) ∧ (CallA tb.P 99 [x3, x4] M2 fun y5 M6 => zI .i64 y5 fun z7 => Q (.val (.int .i64 z7)) M6)
def an54 : An := (.seq (.reg []) (.seq (.reg [.non, .tup [.l .any, .l .any], .non, .non, .int .i64]) .z))
theorem fn54 : tb.fn.get 54 = some Try.f54 := by kernel_rfl
theorem an54_ok : anB tb Try.f54.ntmps an54 (bodyOf Try.f54) = true := by kernel_rfl
theorem F54_eq : (fun (a0 : AV) (M : Mem) (Q : AV → Mem → Prop) => zCs [.l .any] [a0] fun args => wZ tb an54 (bodyOf Try.f54) (enterA Try.f54 args M) (retQ tb Try.f54 Q)) = fun (a0 : AV) (M : Mem) (Q : AV → Mem → Prop) => F54 a0 M Q := by kernel_rfl
theorem F54_ok {a0 : AV} {M : Mem} {Q : AV → Mem → Prop} (h : F54 a0 M Q) : CallA tb.P 54 [a0] M Q :=
  calla_wZ tb_ok tb_mix fn54 (c := bodyOf Try.f54) rfl an54_ok (ks := [.l .any]) (cast (congrFun (congrFun (congrFun F54_eq a0) M) Q).symm h)

def F55 (a0 : AV) (M : Mem) (Q : AV → Mem → Prop) : Prop :=
  CallA tb.P 36 [a0] M fun y1 M2 => ∃ (z3 : Int) (z4 : Int) (z5 : Int) (z6 : Int) (z7 : Int), y1 =
  (.agg [(.val (.int .i64 z3)), (.val (.int .i64 z4)), (.val (.int .i64 z5)), (.val (.int .i64 z6)), (.val (.int .i64 z7))]) ∧
  (letP (M2.new (.cells [(.val (.int .i64 0)), (.val (.int .i64 0)), (.val (.int .i64 0)), (.val (.int .i64 0)), (.val (.int .i64 0))] true)) fun M8 => bindO (eSt tb 23 (.ptr M2.next 0) (.agg [(.val (.int .i64 z3)), (.val (.int .i64 z4)), (.val (.int .i64 z5)), (.val (.int .i64 z6)), (.val (.int .i64 z7))]) M8) fun y9 => bindO (eLd tb 3 (.ptr M2.next 4) y9.2) fun y10 => zI .i64 y10.1 fun z11 => bindO (eLd tb 23 (.ptr M2.next 0) y9.2) fun y12 => ∃ (z13 : Int) (z14 : Int) (z15 : Int) (z16 : Int) (z17 : Int), y12.1 =
  (.agg [(.val (.int .i64 z13)), (.val (.int .i64 z14)), (.val (.int .i64 z15)), (.val (.int .i64 z16)), (.val (.int .i64 z17))]) ∧
  (CallA tb.P 59 [(.agg [(.val (.int .i64 z13)), (.val (.int .i64 z14)), (.val (.int .i64 z15)), (.val (.int .i64 z16)), (.val (.int .i64 z17))])] y9.2 fun y18 M19 => zI .i64 y18 fun z20 => (bindO (eLd tb 3 (.ptr M2.next 4) M19) fun y21 => (some (.val (.int .i64 z11)) : Option AV) =
  some y21.1) ∧ (CallA tb.P 30 [a0] M19 fun y22 M23 => zI .i64 y22 fun z24 => (bindO (eLd tb 3 (.ptr M2.next 4) M23) fun y25 => (some (.val (.int .i64 z11)) : Option AV) = some y25.1) ∧
  (Q (.val (.int .i64 (iAdd .i64 (iAdd .i64 z11 z20) z24))) M23))))
def an55 : An := (.seq (.reg []) (.seq (.reg [.non, .agg [.int .i64, .int .i64, .int .i64, .int .i64, .int .i64]]) (.seq (.opn [(0, []), (5, []), (1, []), (2, []), (3, [1]), (4, []), (6, [1]), (7, []), (8, [])] [] [[], [], [], [1], [], [], [1]] 0 [.ptr, .non, .int .i64, .agg [.int .i64, .int .i64, .int .i64, .int .i64, .int .i64], .int .i64, .int .i64, .int .i64, .int .i64, .non]) .z)))
theorem fn55 : tb.fn.get 55 = some Try.f55 := by kernel_rfl
theorem an55_ok : anB tb Try.f55.ntmps an55 (bodyOf Try.f55) = true := by kernel_rfl
theorem F55_eq : (fun (a0 : AV) (M : Mem) (Q : AV → Mem → Prop) => zCs [.l .any] [a0] fun args => wZ tb an55 (bodyOf Try.f55) (enterA Try.f55 args M) (retQ tb Try.f55 Q)) = fun (a0 : AV) (M : Mem) (Q : AV → Mem → Prop) => F55 a0 M Q := by kernel_rfl
theorem F55_ok {a0 : AV} {M : Mem} {Q : AV → Mem → Prop} (h : F55 a0 M Q) : CallA tb.P 55 [a0] M Q :=
  calla_wZ tb_ok tb_mix fn55 (c := bodyOf Try.f55) rfl an55_ok (ks := [.l .any]) (cast (congrFun (congrFun (congrFun F55_eq a0) M) Q).symm h)

def F59 (a0 : AV) (M : Mem) (Q : AV → Mem → Prop) : Prop :=
  ∃ (z1 : Int) (z2 : Int) (z3 : Int) (z4 : Int) (z5 : Int), a0 = (.agg [(.val (.int .i64 z1)), (.val (.int .i64 z2)), (.val (.int .i64 z3)), (.val (.int .i64 z4)), (.val (.int .i64 z5))]) ∧
  letP (M.new (.cells [(.val (.int .i64 z1)), (.val (.int .i64 z2)), (.val (.int .i64 z3)), (.val (.int .i64 z4)), (.val (.int .i64 z5))] true)) fun M6 => bindO (eLd tb 23 (.ptr M.next 0) M6) fun y7 => ∃ (z8 : Int) (z9 : Int) (z10 : Int) (z11 : Int) (z12 : Int), y7.1 =
  (.agg [(.val (.int .i64 z8)), (.val (.int .i64 z9)), (.val (.int .i64 z10)), (.val (.int .i64 z11)), (.val (.int .i64 z12))]) ∧
  (CallA tb.P 102 [(.agg [(.val (.int .i64 z8)), (.val (.int .i64 z9)), (.val (.int .i64 z10)), (.val (.int .i64 z11)), (.val (.int .i64 z12))])] M6 fun y13 M14 => zB y13 fun b15 => condB (!b15) (Q (.val (.int .i64 0)) M14) (bindO (eLd tb 3 (.ptr M.next 0) M14) fun y16 => zI .i64 y16.1 fun z17 => Q (.val (.int .i64 (iMul .i64 2 z17))) M14))
def an59 : An := (.seq (.reg []) (.seq (.seq (.reg [.agg [.int .i64, .int .i64, .int .i64, .int .i64, .int .i64], .bool, .bool]) (.cnd (.seq (.reg []) .z) .z)) (.seq (.reg [.ptr, .int .i64, .int .i64]) .z)))
theorem fn59 : tb.fn.get 59 = some Try.f59 := by kernel_rfl
theorem an59_ok : anB tb Try.f59.ntmps an59 (bodyOf Try.f59) = true := by kernel_rfl
theorem F59_eq : (fun (a0 : AV) (M : Mem) (Q : AV → Mem → Prop) => zCs [.a [.int .i64, .int .i64, .int .i64, .int .i64, .int .i64]] [a0] fun args => wZ tb an59 (bodyOf Try.f59) (enterA Try.f59 args M) (retQ tb Try.f59 Q)) = fun (a0 : AV) (M : Mem) (Q : AV → Mem → Prop) => F59 a0 M Q := by kernel_rfl
theorem F59_ok {a0 : AV} {M : Mem} {Q : AV → Mem → Prop} (h : F59 a0 M Q) : CallA tb.P 59 [a0] M Q :=
  calla_wZ tb_ok tb_mix fn59 (c := bodyOf Try.f59) rfl an59_ok (ks := [.a [.int .i64, .int .i64, .int .i64, .int .i64, .int .i64]]) (cast (congrFun (congrFun (congrFun F59_eq a0) M) Q).symm h)

def F60 (a0 : AV) (M : Mem) (Q : AV → Mem → Prop) : Prop :=
  CallA tb.P 27 [a0] M fun y1 M2 => zB y1 fun b3 => condB (!b3) (Q (.val (.string ⟨#[111, 102, 102]⟩)) M2) (CallA tb.P 103 [a0] M2 fun y4 M5 => zB y4 fun b6 => condB (b6) (Q (.val (.string ⟨#[116, 119, 105, 99, 101]⟩)) M5) (letP (fun (b23 : Bool) (M24 : Mem) => condB (b23) (Q (.val (.string ⟨#[119, 101, 97, 114]⟩)) M24) (Q (.val (.string ⟨#[]⟩)) M24)) fun K25 => CallA tb.P 54 [a0] M5 fun y7 M8 => zI .i64 y7 fun z9 => CallA tb.P 55 [a0] M8 fun y10 M11 => zI .i64 y10 fun z12 => condB (decide (z9 > z12)) (CallA tb.P 104 [a0] M11 fun y13 M14 => zI .i64 y13 fun z15 => CallA tb.P 36 [a0] M14 fun y16 M17 => ∃ (z18 : Int) (z19 : Int) (z20 : Int) (z21 : Int) (z22 : Int), y16 =
  (.agg [(.val (.int .i64 z18)), (.val (.int .i64 z19)), (.val (.int .i64 z20)), (.val (.int .i64 z21)), (.val (.int .i64 z22))]) ∧ (K25 (decide (z15 ≤ z21)) M17)) (K25 false M11)))
def an60 : An := (.seq (.reg []) (.seq (.blk (.seq (.reg [.non, .bool, .bool]) (.cnd (.seq (.reg []) .z) (.seq (.reg [.non, .bool]) (.cnd (.seq (.reg []) .z) (.seq (.reg [.non, .int .i64, .non, .int .i64, .bool, .spl, .non, .int .i64, .non, .agg [.int .i64, .int .i64, .int .i64, .int .i64, .int .i64], .int .i64, .bool]) (.cnd (.seq (.reg []) .z) .z))))))) (.seq (.reg []) .z)))
theorem fn60 : tb.fn.get 60 = some Try.f60 := by kernel_rfl
theorem an60_ok : anB tb Try.f60.ntmps an60 (bodyOf Try.f60) = true := by kernel_rfl
theorem F60_eq : (fun (a0 : AV) (M : Mem) (Q : AV → Mem → Prop) => zCs [.l .any] [a0] fun args => wZ tb an60 (bodyOf Try.f60) (enterA Try.f60 args M) (retQ tb Try.f60 Q)) = fun (a0 : AV) (M : Mem) (Q : AV → Mem → Prop) => F60 a0 M Q := by kernel_rfl
theorem F60_ok {a0 : AV} {M : Mem} {Q : AV → Mem → Prop} (h : F60 a0 M Q) : CallA tb.P 60 [a0] M Q :=
  calla_wZ tb_ok tb_mix fn60 (c := bodyOf Try.f60) rfl an60_ok (ks := [.l .any]) (cast (congrFun (congrFun (congrFun F60_eq a0) M) Q).symm h)

def F98 (M : Mem) (Q : AV → Mem → Prop) : Prop :=
  letP (M.new (.cells [(.val (.int .i64 0)), (.val (.int .i64 0)), (.val (.int .i64 0)), (.val (.int .i64 0)), (.val (.int .i64 0))] true)) fun M1 => bindO (eSt tb 23 (.ptr M.next 0) (.agg [(.val (.int .i64 8)), (.val (.int .i64 4)), (.val (.int .i64 32)), (.val (.int .i64 0)), (.val (.int .i64 2))]) M1) fun y2 => bindO (eRes tb [.c 23 (.ptr M.next 0)] y2.2) fun x3 => Q x3 y2.2
def an98 : An := (.seq (.reg []) (.seq (.reg []) .z))
theorem fn98 : tb.fn.get 98 = some Try.f98 := by kernel_rfl
theorem an98_ok : anB tb Try.f98.ntmps an98 (bodyOf Try.f98) = true := by kernel_rfl
theorem F98_eq : (fun (M : Mem) (Q : AV → Mem → Prop) => zCs [] [] fun args => wZ tb an98 (bodyOf Try.f98) (enterA Try.f98 args M) (retQ tb Try.f98 Q)) = fun (M : Mem) (Q : AV → Mem → Prop) => F98  M Q := by kernel_rfl
theorem F98_ok {M : Mem} {Q : AV → Mem → Prop} (h : F98  M Q) : CallA tb.P 98 [] M Q :=
  calla_wZ tb_ok tb_mix fn98 (c := bodyOf Try.f98) rfl an98_ok (ks := []) (cast (congrFun (congrFun F98_eq M) Q).symm h)

def F99 (a0 a1 : AV) (M : Mem) (Q : AV → Mem → Prop) : Prop :=
  CallA tb.P 117 [a0, a1] M fun y1 M2 => zI .i64 y1 fun z3 => CallA tb.P 118 [a0, a1] M2 fun y4 M5 => zI .i64 y4 fun z6 => condB (decide (z3 < (0 : Int))) (Q (.val (.int .i64 0)) M5) (bindO (eIA tb 60 a0 (.val (.int .i64 z6)) M5) fun y7 => zP y7.1 fun p8 o9 => bindO (eIA tb 60 a0 (.val (.int .i64 z3)) M5) fun y10 => zP y10.1 fun p11 o12 => bindO (eLd tb 3 (.ptr p8 o9) M5) fun y13 => zI .i64 y13.1 fun z14 => bindO (eLd tb 3 (.ptr p11 o12) M5) fun y15 => zI .i64 y15.1 fun z16 => Q (.val (.int .i64 (iSub .i64 z14 z16))) M5)
def an99 : An := (.seq (.reg []) (.seq (.reg [.non, .non, .int .i64, .non, .non, .int .i64]) (.seq (.seq (.reg [.non, .bool]) (.cnd (.seq (.reg []) .z) .z)) (.seq (.opn [(0, []), (1, []), (2, []), (4, []), (5, []), (6, []), (3, []), (7, []), (8, []), (9, [])] [] [] 0 [.non, .non, .ptr, .non, .non, .ptr, .int .i64, .int .i64, .int .i64, .non]) .z))))
theorem fn99 : tb.fn.get 99 = some Try.f99 := by kernel_rfl
theorem an99_ok : anB tb Try.f99.ntmps an99 (bodyOf Try.f99) = true := by kernel_rfl
theorem F99_eq : (fun (a0 a1 : AV) (M : Mem) (Q : AV → Mem → Prop) => zCs [.l .any, .l .any] [a0, a1] fun args => wZ tb an99 (bodyOf Try.f99) (enterA Try.f99 args M) (retQ tb Try.f99 Q)) = fun (a0 a1 : AV) (M : Mem) (Q : AV → Mem → Prop) => F99 a0 a1 M Q := by kernel_rfl
theorem F99_ok {a0 a1 : AV} {M : Mem} {Q : AV → Mem → Prop} (h : F99 a0 a1 M Q) : CallA tb.P 99 [a0, a1] M Q :=
  calla_wZ tb_ok tb_mix fn99 (c := bodyOf Try.f99) rfl an99_ok (ks := [.l .any, .l .any]) (cast (congrFun (congrFun (congrFun (congrFun F99_eq a0) a1) M) Q).symm h)

def F103 (a0 : AV) (M : Mem) (Q : AV → Mem → Prop) : Prop :=
  CallA tb.P 40 [a0] M fun y1 M2 => ∃ (x3 : AV) (z4 : Int), y1 = (.tup [x3, (.val (.int .i64 z4))]) ∧
  (letP (M2.new (.map [])) fun M5 => bindO (eLen tb false 70 x3 M5) fun y6 => zI .i64 y6.1 fun z7 => ∃ J8 : Int → Nat → Mem → Prop, (∃ n9 : Nat, J8 (0 : Int) n9 M5) ∧
  ∀ (_ : Nat → Option AV) (z10 : Int) (n11 : Nat) (M12 : Mem), J8 z10 n11 M12 →
  (condB (decide (z10 < z7)) (bindO (eIA tb 70 x3 (.val (.int .i64 z10)) M12) fun y13 => zP y13.1 fun p14 o15 => bindO (eLd tb 78 (.ptr p14 o15) M12) fun y16 => ∃ (z17 : Int) (z18 : Int) (z19 : Int) (z20 : Int) (z21 : Int) (z22 : Int), y16.1 =
  (.agg [(.val (.int .i64 z17)), (.val (.int .i64 z18)), (.val (.int .i64 z19)), (.val (.int .i64 z20)), (.val (.int .i64 z21)), (.val (.int .i64 z22))]) ∧
  (letP (M12.new (.cells [(.val (.int .i64 0)), (.val (.int .i64 0)), (.val (.int .i64 0)), (.val (.int .i64 0)), (.val (.int .i64 0)), (.val (.int .i64 0))] true)) fun M23 => bindO (eSt tb 78 (.ptr M12.next 0) (.agg [(.val (.int .i64 z17)), (.val (.int .i64 z18)), (.val (.int .i64 z19)), (.val (.int .i64 z20)), (.val (.int .i64 z21)), (.val (.int .i64 z22))]) M23) fun y24 => bindO (eLd tb 3 (.ptr M12.next 4) y24.2) fun y25 => zI .i64 y25.1 fun z26 => bindO (eLk tb 155 (.map M2.next) (.val (.int .i64 z26)) false y24.2) fun y27 => zB y27.1 fun b28 => condB (b28) (Q (.val (.bool true)) y24.2) (bindO (eLd tb 3 (.ptr M12.next 4) y24.2) fun y29 => zI .i64 y29.1 fun z30 => bindO (eMU tb 155 (.map M2.next) (.val (.int .i64 z30)) (.val (.bool true)) y24.2) fun y31 => ∃ k32 : Nat, k32 < n11 ∧
  (J8 (iAdd .i64 z10 1) k32 y31.2)))) (Q (.val (.bool false)) M12)))
def an103 : An := (.seq (.reg []) (.seq (.reg [.non, .tup [.l .any, .l (.int .i64)], .non, .non, .int .i64]) (.seq (.reg []) (.seq (.seq (.reg [.non, .int .i64]) (.blk (.lop [(16, .int .i64)] [2, 7, 17, 18, 19, 20, 21, 22, 23, 24, 25, 26, 27, 28, 29] (.seq (.reg []) (.seq (.cnd .z .z) (.seq (.blk (.seq (.reg [.ptr, .agg [.int .i64, .int .i64, .int .i64, .int .i64, .int .i64, .int .i64]]) (.seq (.seq (.reg [.non, .ptr, .ptr, .int .i64, .bool]) (.cnd (.seq (.reg []) .z) .z)) (.reg [.non, .ptr, .ptr, .int .i64])))) (.reg [.int .i64]))))))) (.seq (.reg []) .z)))))
theorem fn103 : tb.fn.get 103 = some Try.f103 := by kernel_rfl
theorem an103_ok : anB tb Try.f103.ntmps an103 (bodyOf Try.f103) = true := by kernel_rfl
theorem F103_eq : (fun (a0 : AV) (M : Mem) (Q : AV → Mem → Prop) => zCs [.l .any] [a0] fun args => wZ tb an103 (bodyOf Try.f103) (enterA Try.f103 args M) (retQ tb Try.f103 Q)) = fun (a0 : AV) (M : Mem) (Q : AV → Mem → Prop) => F103 a0 M Q := by kernel_rfl
theorem F103_ok {a0 : AV} {M : Mem} {Q : AV → Mem → Prop} (h : F103 a0 M Q) : CallA tb.P 103 [a0] M Q :=
  calla_wZ tb_ok tb_mix fn103 (c := bodyOf Try.f103) rfl an103_ok (ks := [.l .any]) (cast (congrFun (congrFun (congrFun F103_eq a0) M) Q).symm h)

def F104 (a0 : AV) (M : Mem) (Q : AV → Mem → Prop) : Prop :=
  CallA tb.P 53 [a0] M fun y1 M2 => ∃ (x3 : AV) (x4 : AV), y1 = (.tup [x3, x4]) ∧
  (bindO (eLen tb false 97 x4 M2) fun y5 => zI .i64 y5.1 fun z6 => ∃ J7 : Int → Int → Nat → Mem → Prop, (∃ n8 : Nat, J7 (0 : Int) (0 : Int) n8 M2) ∧
  ∀ (_ : Nat → Option AV) (z9 : Int) (z10 : Int) (n11 : Nat) (M12 : Mem), J7 z9 z10 n11 M12 → (condB (decide (z10 < z6)) (letP (fun (z18 : Int) => ∃ k20 : Nat, k20 < n11 ∧
  (J7 z18 (iAdd .i64 z10 1) k20 M12)) fun K19 => bindO (eIA tb 97 x4 (.val (.int .i64 z10)) M12) fun y13 => zP y13.1 fun p14 o15 => bindO (eLd tb 4 (.ptr p14 o15) M12) fun y16 => zB y16.1 fun b17 => condB (!b17) (K19 (iAdd .i64 z9 1)) (K19 z9)) (Q (.val (.int .i64 z9)) M12)))
def an104 : An := (.seq (.reg []) (.seq (.reg []) (.seq (.reg [.non, .tup [.l .any, .l .any]]) (.seq (.seq (.reg [.non, .int .i64]) (.blk (.lop [(3, .int .i64), (15, .int .i64)] [7, 16, 17, 18, 19, 20, 21, 22, 23] (.seq (.reg []) (.seq (.cnd .z .z) (.seq (.blk (.seq (.reg [.ptr, .bool]) (.seq (.reg [.non, .bool]) (.cnd (.reg [.non, .int .i64]) .z)))) (.reg [.int .i64]))))))) (.seq (.reg []) .z)))))
theorem fn104 : tb.fn.get 104 = some Try.f104 := by kernel_rfl
theorem an104_ok : anB tb Try.f104.ntmps an104 (bodyOf Try.f104) = true := by kernel_rfl
theorem F104_eq : (fun (a0 : AV) (M : Mem) (Q : AV → Mem → Prop) => zCs [.l .any] [a0] fun args => wZ tb an104 (bodyOf Try.f104) (enterA Try.f104 args M) (retQ tb Try.f104 Q)) = fun (a0 : AV) (M : Mem) (Q : AV → Mem → Prop) => F104 a0 M Q := by kernel_rfl
theorem F104_ok {a0 : AV} {M : Mem} {Q : AV → Mem → Prop} (h : F104 a0 M Q) : CallA tb.P 104 [a0] M Q :=
  calla_wZ tb_ok tb_mix fn104 (c := bodyOf Try.f104) rfl an104_ok (ks := [.l .any]) (cast (congrFun (congrFun (congrFun F104_eq a0) M) Q).symm h)

def F117 (a0 a1 : AV) (M : Mem) (Q : AV → Mem → Prop) : Prop :=
  CallA tb.P 134 [a0, a1, (.fn 135 [] [])] M fun y1 M2 => zI .i64 y1 fun z3 => Q (.val (.int .i64 z3)) M2
def an117 : An := (.seq (.reg []) (.seq (.reg [.non, .non, .int .i64]) .z))
theorem fn117 : tb.fn.get 117 = some Try.f117 := by kernel_rfl
theorem an117_ok : anB tb Try.f117.ntmps an117 (bodyOf Try.f117) = true := by kernel_rfl
theorem F117_eq : (fun (a0 a1 : AV) (M : Mem) (Q : AV → Mem → Prop) => zCs [.l .any, .l .any] [a0, a1] fun args => wZ tb an117 (bodyOf Try.f117) (enterA Try.f117 args M) (retQ tb Try.f117 Q)) = fun (a0 a1 : AV) (M : Mem) (Q : AV → Mem → Prop) => F117 a0 a1 M Q := by kernel_rfl
theorem F117_ok {a0 a1 : AV} {M : Mem} {Q : AV → Mem → Prop} (h : F117 a0 a1 M Q) : CallA tb.P 117 [a0, a1] M Q :=
  calla_wZ tb_ok tb_mix fn117 (c := bodyOf Try.f117) rfl an117_ok (ks := [.l .any, .l .any]) (cast (congrFun (congrFun (congrFun (congrFun F117_eq a0) a1) M) Q).symm h)

def F118 (a0 a1 : AV) (M : Mem) (Q : AV → Mem → Prop) : Prop :=
  CallA tb.P 134 [a0, a1, (.fn 136 [] [])] M fun y1 M2 => zI .i64 y1 fun z3 => Q (.val (.int .i64 z3)) M2
def an118 : An := (.seq (.reg []) (.seq (.reg [.non, .non, .int .i64]) .z))
theorem fn118 : tb.fn.get 118 = some Try.f118 := by kernel_rfl
theorem an118_ok : anB tb Try.f118.ntmps an118 (bodyOf Try.f118) = true := by kernel_rfl
theorem F118_eq : (fun (a0 a1 : AV) (M : Mem) (Q : AV → Mem → Prop) => zCs [.l .any, .l .any] [a0, a1] fun args => wZ tb an118 (bodyOf Try.f118) (enterA Try.f118 args M) (retQ tb Try.f118 Q)) = fun (a0 a1 : AV) (M : Mem) (Q : AV → Mem → Prop) => F118 a0 a1 M Q := by kernel_rfl
theorem F118_ok {a0 a1 : AV} {M : Mem} {Q : AV → Mem → Prop} (h : F118 a0 a1 M Q) : CallA tb.P 118 [a0, a1] M Q :=
  calla_wZ tb_ok tb_mix fn118 (c := bodyOf Try.f118) rfl an118_ok (ks := [.l .any, .l .any]) (cast (congrFun (congrFun (congrFun (congrFun F118_eq a0) a1) M) Q).symm h)

def F134 (a0 a1 a2 : AV) (M : Mem) (Q : AV → Mem → Prop) : Prop :=
  bindO (eLen tb false 60 a0 M) fun y1 => zI .i64 y1.1 fun z2 => ∃ J3 : Int → Int → Nat → Mem → Prop, (∃ n4 : Nat, J3 ((-1) : Int) (0 : Int) n4 M) ∧
  ∀ (_ : Nat → Option AV) (z5 : Int) (z6 : Int) (n7 : Nat) (M8 : Mem), J3 z5 z6 n7 M8 → (condB (decide (z6 < z2)) (letP (fun (z28 : Int) (M29 : Mem) => ∃ k31 : Nat, k31 < n7 ∧
  (J3 z28 (iAdd .i64 z6 1) k31 M29)) fun K30 => letP (fun (b25 : Bool) (M26 : Mem) => condB (b25) (K30 z6 M26) (K30 z5 M26)) fun K27 => CallA tb.P 139 [a0, a1, (.val (.int .i64 z6))] M8 fun y9 M10 => zB y9 fun b11 => condB (b11) (condB (decide (z5 < (0 : Int))) (K27 true M10) (bindO (eIA tb 60 a0 (.val (.int .i64 z6)) M10) fun y12 => zP y12.1 fun p13 o14 => bindO (eIA tb 60 a0 (.val (.int .i64 z5)) M10) fun y15 => zP y15.1 fun p16 o17 => bindO (eLd tb 3 (.ptr p13 o14) M10) fun y18 => zI .i64 y18.1 fun z19 => bindO (eLd tb 3 (.ptr p16 o17) M10) fun y20 => zI .i64 y20.1 fun z21 => eCall tb a2 [(.val (.int .i64 z19)), (.val (.int .i64 z21))] M10 fun y22 M23 => zB y22 fun b24 => K27 b24 M23)) (K27 false M10)) (Q (.val (.int .i64 z5)) M8))
def an134 : An := (.seq (.reg []) (.seq (.reg []) (.seq (.seq (.reg [.non, .int .i64]) (.blk (.lop [(7, .int .i64), (11, .int .i64)] [8, 12, 13, 14, 15, 16, 17, 18, 19, 20, 21, 22, 23, 24, 25, 26, 27, 28, 29, 30, 31, 32, 33, 34, 35] (.seq (.reg []) (.seq (.cnd .z .z) (.seq (.blk (.seq (.reg []) (.seq (.opn [(0, []), (1, []), (2, []), (3, []), (4, []), (5, []), (6, []), (7, []), (8, []), (9, []), (10, []), (11, []), (13, []), (14, []), (15, []), (12, []), (16, []), (17, []), (18, []), (19, [])] [] [] 0 [.non, .non, .non, .bool, .spl, .non, .bool, .spl, .non, .non, .non, .ptr, .non, .non, .ptr, .int .i64, .int .i64, .bool, .non, .non]) (.cnd (.reg []) .z)))) (.reg [.int .i64]))))))) (.seq (.reg []) .z))))
theorem fn134 : tb.fn.get 134 = some Try.f134 := by kernel_rfl
theorem an134_ok : anB tb Try.f134.ntmps an134 (bodyOf Try.f134) = true := by kernel_rfl
theorem F134_eq : (fun (a0 a1 a2 : AV) (M : Mem) (Q : AV → Mem → Prop) => zCs [.l .any, .l .any, .l .any] [a0, a1, a2] fun args => wZ tb an134 (bodyOf Try.f134) (enterA Try.f134 args M) (retQ tb Try.f134 Q)) = fun (a0 a1 a2 : AV) (M : Mem) (Q : AV → Mem → Prop) => F134 a0 a1 a2 M Q := by kernel_rfl
theorem F134_ok {a0 a1 a2 : AV} {M : Mem} {Q : AV → Mem → Prop} (h : F134 a0 a1 a2 M Q) : CallA tb.P 134 [a0, a1, a2] M Q :=
  calla_wZ tb_ok tb_mix fn134 (c := bodyOf Try.f134) rfl an134_ok (ks := [.l .any, .l .any, .l .any]) (cast (congrFun (congrFun (congrFun (congrFun (congrFun F134_eq a0) a1) a2) M) Q).symm h)

def F135 (a0 a1 : AV) (M : Mem) (Q : AV → Mem → Prop) : Prop :=
  zI .i64 a0 fun z1 => zI .i64 a1 fun z2 => Q (.val (.bool (decide (z1 < z2)))) M
def an135 : An := (.seq (.reg []) (.seq (.reg [.non, .non, .bool]) .z))
theorem fn135 : tb.fn.get 135 = some Try.f135 := by kernel_rfl
theorem an135_ok : anB tb Try.f135.ntmps an135 (bodyOf Try.f135) = true := by kernel_rfl
theorem F135_eq : (fun (a0 a1 : AV) (M : Mem) (Q : AV → Mem → Prop) => zCs [.l (.int .i64), .l (.int .i64)] [a0, a1] fun args => wZ tb an135 (bodyOf Try.f135) (enterA Try.f135 args M) (retQ tb Try.f135 Q)) = fun (a0 a1 : AV) (M : Mem) (Q : AV → Mem → Prop) => F135 a0 a1 M Q := by kernel_rfl
theorem F135_ok {a0 a1 : AV} {M : Mem} {Q : AV → Mem → Prop} (h : F135 a0 a1 M Q) : CallA tb.P 135 [a0, a1] M Q :=
  calla_wZ tb_ok tb_mix fn135 (c := bodyOf Try.f135) rfl an135_ok (ks := [.l (.int .i64), .l (.int .i64)]) (cast (congrFun (congrFun (congrFun (congrFun F135_eq a0) a1) M) Q).symm h)

def F136 (a0 a1 : AV) (M : Mem) (Q : AV → Mem → Prop) : Prop :=
  zI .i64 a0 fun z1 => zI .i64 a1 fun z2 => Q (.val (.bool (decide (z1 > z2)))) M
def an136 : An := (.seq (.reg []) (.seq (.reg [.non, .non, .bool]) .z))
theorem fn136 : tb.fn.get 136 = some Try.f136 := by kernel_rfl
theorem an136_ok : anB tb Try.f136.ntmps an136 (bodyOf Try.f136) = true := by kernel_rfl
theorem F136_eq : (fun (a0 a1 : AV) (M : Mem) (Q : AV → Mem → Prop) => zCs [.l (.int .i64), .l (.int .i64)] [a0, a1] fun args => wZ tb an136 (bodyOf Try.f136) (enterA Try.f136 args M) (retQ tb Try.f136 Q)) = fun (a0 a1 : AV) (M : Mem) (Q : AV → Mem → Prop) => F136 a0 a1 M Q := by kernel_rfl
theorem F136_ok {a0 a1 : AV} {M : Mem} {Q : AV → Mem → Prop} (h : F136 a0 a1 M Q) : CallA tb.P 136 [a0, a1] M Q :=
  calla_wZ tb_ok tb_mix fn136 (c := bodyOf Try.f136) rfl an136_ok (ks := [.l (.int .i64), .l (.int .i64)]) (cast (congrFun (congrFun (congrFun (congrFun F136_eq a0) a1) M) Q).symm h)

def F139 (a0 a1 a2 : AV) (M : Mem) (Q : AV → Mem → Prop) : Prop :=
  zI .i64 a2 fun z1 => letP (fun (b11 : Bool) => Q (.val (.bool b11)) M) fun K12 => bindO (eLen tb false 60 a0 M) fun y2 => zI .i64 y2.1 fun z3 => condB (decide (z1 < z3)) (bindO (eLen tb false 97 a1 M) fun y4 => zI .i64 y4.1 fun z5 => condB (decide (z1 < z5)) (bindO (eIA tb 97 a1 (.val (.int .i64 z1)) M) fun y6 => zP y6.1 fun p7 o8 => bindO (eLd tb 4 (.ptr p7 o8) M) fun y9 => zB y9.1 fun b10 => K12 b10) (K12 false)) (K12 false)
def an139 : An := (.seq (.reg []) (.seq (.reg [.non, .non, .int .i64, .bool, .spl, .non, .non, .int .i64, .bool, .non, .spl, .non, .non, .ptr, .bool]) .z))
theorem fn139 : tb.fn.get 139 = some Try.f139 := by kernel_rfl
theorem an139_ok : anB tb Try.f139.ntmps an139 (bodyOf Try.f139) = true := by kernel_rfl
theorem F139_eq : (fun (a0 a1 a2 : AV) (M : Mem) (Q : AV → Mem → Prop) => zCs [.l .any, .l .any, .l (.int .i64)] [a0, a1, a2] fun args => wZ tb an139 (bodyOf Try.f139) (enterA Try.f139 args M) (retQ tb Try.f139 Q)) = fun (a0 a1 a2 : AV) (M : Mem) (Q : AV → Mem → Prop) => F139 a0 a1 a2 M Q := by kernel_rfl
theorem F139_ok {a0 a1 a2 : AV} {M : Mem} {Q : AV → Mem → Prop} (h : F139 a0 a1 a2 M Q) : CallA tb.P 139 [a0, a1, a2] M Q :=
  calla_wZ tb_ok tb_mix fn139 (c := bodyOf Try.f139) rfl an139_ok (ks := [.l .any, .l .any, .l (.int .i64)]) (cast (congrFun (congrFun (congrFun (congrFun (congrFun F139_eq a0) a1) a2) M) Q).symm h)

end Go.Proofs.Ytjffimbigamadaa
