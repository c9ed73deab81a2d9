import Derived.Test.YtjffimbigamadaaP2
set_option linter.unusedSimpArgs false
set_option linter.unusedVariables false
set_option linter.unusedSectionVars false
/- Functions as what has to be shown. (Printed by pr.py.) -/
namespace Go.Proofs.Ytjffimbigamadaa
open Go.AM
def F36 (a0 : AV) (M : Mem) (Q : AV → Mem → Prop) : Prop :=
  letP (M.new (.cells [(.val (.int .i64 0)), (.val (.int .i64 0)), (.val (.int .i64 0)), (.val (.int .i64 0)), (.val (.int .i64 0))] true)) fun M1 => bindO (eBin tb .eql 24 (.tmp 3) (.const (.pointer none)) a0 (.val (.pointer none)) M1) fun y2 => zB y2.1 fun b3 => condB (b3) (bindO (eSt tb 23 (.ptr M.next 0) (.agg [(.val (.int .i64 0)), (.val (.int .i64 0)), (.val (.int .i64 0)), (.val (.int .i64 0)), (.val (.int .i64 0))]) M1) fun y4 => bindO (eRes tb [.c 23 (.ptr M.next 0)] y4.2) fun x5 => Q x5 y4.2) (bindO (eNil a0 M1) fun y6 => bindO (eFA tb 114 y6.1 0 M1) fun y7 => zP y7.1 fun p8 o9 => bindO (eLd tb 23 (.ptr p8 o9) M1) fun y10 => ∃ (z11 : Int) (z12 : Int) (z13 : Int) (z14 : Int) (z15 : Int), y10.1 =
  (.agg [(.val (.int .i64 z11)), (.val (.int .i64 z12)), (.val (.int .i64 z13)), (.val (.int .i64 z14)), (.val (.int .i64 z15))]) ∧
  (bindO (eSt tb 23 (.ptr M.next 0) (.agg [(.val (.int .i64 z11)), (.val (.int .i64 z12)), (.val (.int .i64 z13)), (.val (.int .i64 z14)), (.val (.int .i64 z15))]) M1) fun y16 => bindO (eRes tb [.c 23 (.ptr M.next 0)] y16.2) fun x17 => Q x17 y16.2))
def an36 : An := (.seq (.reg []) (.seq (.seq (.reg [.non, .bool]) (.cnd (.seq (.reg []) .z) .z)) (.seq (.reg [.non, .non, .ptr, .agg [.int .i64, .int .i64, .int .i64, .int .i64, .int .i64]]) .z)))
theorem fn36 : tb.fn.get 36 = some Try.f36 := by kernel_rfl
theorem an36_ok : anB tb Try.f36.ntmps an36 (bodyOf Try.f36) = true := by kernel_rfl
theorem F36_eq : (fun (a0 : AV) (M : Mem) (Q : AV → Mem → Prop) => zCs [.l .any] [a0] fun args => wZ tb an36 (bodyOf Try.f36) (enterA Try.f36 args M) (retQ tb Try.f36 Q)) = fun (a0 : AV) (M : Mem) (Q : AV → Mem → Prop) => F36 a0 M Q := by kernel_rfl
theorem F36_ok {a0 : AV} {M : Mem} {Q : AV → Mem → Prop} (h : F36 a0 M Q) : CallA tb.P 36 [a0] M Q :=
  calla_wZ tb_ok tb_mix fn36 (c := bodyOf Try.f36) rfl an36_ok (ks := [.l .any]) (cast (congrFun (congrFun (congrFun F36_eq a0) M) Q).symm h)

def F83 (a0 a1 : AV) (M : Mem) (Q : AV → Mem → Prop) : Prop :=
  bindO (eLen tb false 33 a0 M) fun y1 => zI .i64 y1.1 fun z2 => bindO (eLen tb false 33 a0 M) fun y3 => zI .i64 y3.1 fun z4 => bindO (eSl tb 33 a0 (some (.val (.int .i64 z2))) (some (.val (.int .i64 (iAdd .i64 z4 3)))) none M) fun y5 => ∃ J6 : Int → Nat → Mem → Prop, (∃ n7 : Nat, J6 (0 : Int) n7 M) ∧
  ∀ (_ : Nat → Option AV) (z8 : Int) (n9 : Nat) (M10 : Mem), J6 z8 n9 M10 →
  (condB (decide (z8 < (3 : Int))) (bindO (eIA tb 33 y5.1 (.val (.int .i64 z8)) M10) fun y11 => zP y11.1 fun p12 o13 => bindO (eLd tb 5 (.ptr p12 o13) M10) fun y14 => zI .u8 y14.1 fun z15 => condB (z15 !=
  (119 : Int)) (Q (.val (.bool false)) M10) (∃ k16 : Nat, k16 < n9 ∧ (J6 (iAdd .i64 z8 1) k16 M10))) (CallA tb.P 22 [a0, a1] M10 fun y17 M18 => zB y17 fun b19 => Q (.val (.bool b19)) M18))
def an83 : An := (.seq (.reg []) (.seq (.reg [.non, .non, .int .i64, .non, .int .i64, .int .i64]) (.seq (.seq (.reg []) (.blk (.lop [(6, .int .i64)] [4, 14, 15, 16, 17, 18, 19, 20, 21, 22] (.seq (.seq (.reg [.non, .bool]) (.cnd .z .z)) (.seq (.blk (.seq (.reg [.non, .non, .ptr, .int .u8, .bool]) (.cnd (.seq (.reg []) .z) .z))) (.reg [.non, .int .i64])))))) (.seq (.reg [.non, .non, .bool]) .z))))
theorem fn83 : tb.fn.get 83 = some Try.f83 := by kernel_rfl
theorem an83_ok : anB tb Try.f83.ntmps an83 (bodyOf Try.f83) = true := by kernel_rfl
theorem F83_eq : (fun (a0 a1 : AV) (M : Mem) (Q : AV → Mem → Prop) => zCs [.l .any, .l .any] [a0, a1] fun args => wZ tb an83 (bodyOf Try.f83) (enterA Try.f83 args M) (retQ tb Try.f83 Q)) = fun (a0 a1 : AV) (M : Mem) (Q : AV → Mem → Prop) => F83 a0 a1 M Q := by kernel_rfl
theorem F83_ok {a0 a1 : AV} {M : Mem} {Q : AV → Mem → Prop} (h : F83 a0 a1 M Q) : CallA tb.P 83 [a0, a1] M Q :=
  calla_wZ tb_ok tb_mix fn83 (c := bodyOf Try.f83) rfl an83_ok (ks := [.l .any, .l .any]) (cast (congrFun (congrFun (congrFun (congrFun F83_eq a0) a1) M) Q).symm h)

end Go.Proofs.Ytjffimbigamadaa
