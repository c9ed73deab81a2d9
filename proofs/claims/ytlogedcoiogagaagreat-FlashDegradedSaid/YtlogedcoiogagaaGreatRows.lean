/-
  No cell of these rows narrows 'for every input' (looked for: loops, veiled, ifaces, maps, wideKeys, modest, calm, conditions, laid).
  DERIVED. THE GIVEN ROWS OF THIS SEAT. 6 by the template 'for every input the law returns true; each argument reads behind the call as it read before'; 0 by the template 'total and deterministic' (their statements: YtlogedcoiogagaaGreatTotals.lean).
  GIVEN WITH THE SEED: the statements are not yours to turn. If you find one false, say at which input.
  Laid BY PROGRAM, IN A SANDBOX (cutbox-rows.mjs): the forced cells as the released guide's own fill.sh prints them over the translation f42a56e8e1a3cd51… (all of the seat's roots in one cut). By AI agents, Wed Nov 11 2026. No macro, syntax, notation, axiom, sorry.
-/
import Derived.Test.YtlogedcoiogagaaGreatChecked
import GoSem.Claim
import GoSem.ClaimJoined
import GoSem.ClaimMapViews
import Derived.JoinedTies
import Derived.KernelRfl
namespace Go.Proofs.YtlogedcoiogagaaGreat
/- THE CELL 'sum', in the pinned program and in every row, IS THE sha256 OF THE DUMP (.gsa) THAT YtlogedcoiogagaaGreatProg.lean LOADS. Nothing in Lean hashes anything: it is a label: what it is worth is what the hold of that sum in a sandbox is worth. -/
noncomputable def Tryz.pinned : Pinned := { name := "ytlogedcoiogagaagreat", sum := "f42a56e8e1a3cd51a9f6bf541c352a40674d06df5fafe8e421ef018a6f44f40d", checked := Tryz.checked }
namespace Rows
def none {H : Type} : Left H := { results := [], args := [] }

/-- 'jotterlaw14.FlashAgain': WHATEVER THE INPUT: true; the input reads as it did. -/
def flashAgainSpec : ChangeSpec := { name := "flashAgain", fn := fun _ => fun
  | [d1, d2, d3, d4] => { results := [.lit (.bool true)], args := [d1, d2, d3, d4] }
  | _ => none }
def flashAgainRow : OpenClaim := { program := "ytlogedcoiogagaagreat", sum := "f42a56e8e1a3cd51a9f6bf541c352a40674d06df5fafe8e421ef018a6f44f40d", func := "jotter/jotterlaw14.FlashAgain", spec := "flashAgain", unfollowed := true, recurses := true, plainKeys := false, apart := false }
def FlashAgainSaid : Prop := flashAgainRow.holds Tryz.pinned (OpenSpec.ofChange flashAgainSpec)

/-- ITS FALSE NEIGHBOUR: 'it returns false'. Refute it at one input. -/
def flashAgainWrong : ChangeSpec := { name := "flashAgain", fn := fun _ => fun
  | [d1, d2, d3, d4] => { results := [.lit (.bool false)], args := [d1, d2, d3, d4] }
  | _ => none }
def FlashAgainWrongFalsely : Prop := flashAgainRow.holds Tryz.pinned (OpenSpec.ofChange flashAgainWrong)

/-- 'jotterlaw14.FlashFull': WHATEVER THE INPUT: true; the input reads as it did. -/
def flashFullSpec : ChangeSpec := { name := "flashFull", fn := fun _ => fun
  | [d1, d2, d3] => { results := [.lit (.bool true)], args := [d1, d2, d3] }
  | _ => none }
def flashFullRow : OpenClaim := { program := "ytlogedcoiogagaagreat", sum := "f42a56e8e1a3cd51a9f6bf541c352a40674d06df5fafe8e421ef018a6f44f40d", func := "jotter/jotterlaw14.FlashFull", spec := "flashFull", unfollowed := true, recurses := true, plainKeys := false, apart := false }
def FlashFullSaid : Prop := flashFullRow.holds Tryz.pinned (OpenSpec.ofChange flashFullSpec)

/-- ITS FALSE NEIGHBOUR: 'it returns false'. Refute it at one input. -/
def flashFullWrong : ChangeSpec := { name := "flashFull", fn := fun _ => fun
  | [d1, d2, d3] => { results := [.lit (.bool false)], args := [d1, d2, d3] }
  | _ => none }
def FlashFullWrongFalsely : Prop := flashFullRow.holds Tryz.pinned (OpenSpec.ofChange flashFullWrong)

/-- 'jotterlaw14.FlashWear': WHATEVER THE INPUT: true; the input reads as it did. -/
def flashWearSpec : ChangeSpec := { name := "flashWear", fn := fun _ => fun
  | [d1, d2] => { results := [.lit (.bool true)], args := [d1, d2] }
  | _ => none }
def flashWearRow : OpenClaim := { program := "ytlogedcoiogagaagreat", sum := "f42a56e8e1a3cd51a9f6bf541c352a40674d06df5fafe8e421ef018a6f44f40d", func := "jotter/jotterlaw14.FlashWear", spec := "flashWear", unfollowed := true, recurses := true, plainKeys := false, apart := false }
def FlashWearSaid : Prop := flashWearRow.holds Tryz.pinned (OpenSpec.ofChange flashWearSpec)

/-- ITS FALSE NEIGHBOUR: 'it returns false'. Refute it at one input. -/
def flashWearWrong : ChangeSpec := { name := "flashWear", fn := fun _ => fun
  | [d1, d2] => { results := [.lit (.bool false)], args := [d1, d2] }
  | _ => none }
def FlashWearWrongFalsely : Prop := flashWearRow.holds Tryz.pinned (OpenSpec.ofChange flashWearWrong)

/-- 'jotterlaw14.FlashTrims': WHATEVER THE INPUT: true; the input reads as it did. -/
def flashTrimsSpec : ChangeSpec := { name := "flashTrims", fn := fun _ => fun
  | [d1, d2, d3, d4] => { results := [.lit (.bool true)], args := [d1, d2, d3, d4] }
  | _ => none }
def flashTrimsRow : OpenClaim := { program := "ytlogedcoiogagaagreat", sum := "f42a56e8e1a3cd51a9f6bf541c352a40674d06df5fafe8e421ef018a6f44f40d", func := "jotter/jotterlaw14.FlashTrims", spec := "flashTrims", unfollowed := true, recurses := true, plainKeys := false, apart := false }
def FlashTrimsSaid : Prop := flashTrimsRow.holds Tryz.pinned (OpenSpec.ofChange flashTrimsSpec)

/-- ITS FALSE NEIGHBOUR: 'it returns false'. Refute it at one input. -/
def flashTrimsWrong : ChangeSpec := { name := "flashTrims", fn := fun _ => fun
  | [d1, d2, d3, d4] => { results := [.lit (.bool false)], args := [d1, d2, d3, d4] }
  | _ => none }
def FlashTrimsWrongFalsely : Prop := flashTrimsRow.holds Tryz.pinned (OpenSpec.ofChange flashTrimsWrong)

/-- 'jotterlaw14.FlashDegraded': WHATEVER THE INPUT: true; the input reads as it did. -/
def flashDegradedSpec : ChangeSpec := { name := "flashDegraded", fn := fun _ => fun
  | [d1, d2, d3] => { results := [.lit (.bool true)], args := [d1, d2, d3] }
  | _ => none }
def flashDegradedRow : OpenClaim := { program := "ytlogedcoiogagaagreat", sum := "f42a56e8e1a3cd51a9f6bf541c352a40674d06df5fafe8e421ef018a6f44f40d", func := "jotter/jotterlaw14.FlashDegraded", spec := "flashDegraded", unfollowed := true, recurses := true, plainKeys := false, apart := false }
def FlashDegradedSaid : Prop := flashDegradedRow.holds Tryz.pinned (OpenSpec.ofChange flashDegradedSpec)

/-- ITS FALSE NEIGHBOUR: 'it returns false'. Refute it at one input. -/
def flashDegradedWrong : ChangeSpec := { name := "flashDegraded", fn := fun _ => fun
  | [d1, d2, d3] => { results := [.lit (.bool false)], args := [d1, d2, d3] }
  | _ => none }
def FlashDegradedWrongFalsely : Prop := flashDegradedRow.holds Tryz.pinned (OpenSpec.ofChange flashDegradedWrong)

/-- 'jotterlaw14.FlashTwins': WHATEVER THE INPUT: true; the input reads as it did. -/
def flashTwinsSpec : ChangeSpec := { name := "flashTwins", fn := fun _ => fun
  | [d1, d2, d3, d4] => { results := [.lit (.bool true)], args := [d1, d2, d3, d4] }
  | _ => none }
def flashTwinsRow : OpenClaim := { program := "ytlogedcoiogagaagreat", sum := "f42a56e8e1a3cd51a9f6bf541c352a40674d06df5fafe8e421ef018a6f44f40d", func := "jotter/jotterlaw14.FlashTwins", spec := "flashTwins", unfollowed := true, recurses := true, plainKeys := false, apart := false }
def FlashTwinsSaid : Prop := flashTwinsRow.holds Tryz.pinned (OpenSpec.ofChange flashTwinsSpec)

/-- ITS FALSE NEIGHBOUR: 'it returns false'. Refute it at one input. -/
def flashTwinsWrong : ChangeSpec := { name := "flashTwins", fn := fun _ => fun
  | [d1, d2, d3, d4] => { results := [.lit (.bool false)], args := [d1, d2, d3, d4] }
  | _ => none }
def FlashTwinsWrongFalsely : Prop := flashTwinsRow.holds Tryz.pinned (OpenSpec.ofChange flashTwinsWrong)

/- THE SECOND FORM. 'bulk': how many values and letters a reading holds, each counted each time it is reached (what is shared counts as often as it is met; a slice's spare places count too). A statement '..UptoSaid' is the law's where the arguments, and the package variables that the reading takes, are together of bulk at most 1048576: NARROWER than '..Said'. Prove '..Said' where nothing that the law and all that it calls make is longer than what came in: it says more and counts as full. Else prove '..UptoSaid'. A law counts once. -/
mutual
def uptoBulk {H : Type} : DataW H → Nat
  | .lit (.string bytes) => bytes.length + 1
  | .lit _ => 1
  | .nil => 1
  | .ptr d => uptoBulk d + 1
  | .slice elems spare => uptoBulkAll elems + uptoBulkAll spare + 1
  | .agg parts => uptoBulkAll parts + 1
  | .iface _ d => uptoBulk d + 1
  | .map entries => uptoBulkEntries entries + 1
  | .held _ => 1
def uptoBulkAll {H : Type} : List (DataW H) → Nat
  | [] => 0
  | d :: r => uptoBulk d + uptoBulkAll r
def uptoBulkEntries {H : Type} : List (Lit × DataW H) → Nat
  | [] => 0
  | x :: r => uptoBulkEntry x + uptoBulkEntries r
def uptoBulkEntry {H : Type} : Lit × DataW H → Nat
  | (.string bytes, d) => bytes.length + uptoBulk d + 1
  | (_, d) => uptoBulk d + 1
 end
def uptoSmall : (H : Type) → List (DataW H) → Bool := fun _ ds => decide (uptoBulkAll ds ≤ 1048576)
def OpenSpec.upto (s : _root_.Go.ChangeSpec) : _root_.Go.OpenSpec := { _root_.Go.OpenSpec.ofChange s with cond := some uptoSmall }

/-- 'jotterlaw14.FlashAgain', WHERE WHAT IT READS IS OF BULK AT MOST 1048576: true; the input reads as it did. -/
def flashAgainUptoRow : OpenClaim := { program := "ytlogedcoiogagaagreat", sum := "f42a56e8e1a3cd51a9f6bf541c352a40674d06df5fafe8e421ef018a6f44f40d", func := "jotter/jotterlaw14.FlashAgain", spec := "flashAgain", unfollowed := true, recurses := true, plainKeys := false, apart := false, narrowed := true }
def FlashAgainUptoSaid : Prop := flashAgainUptoRow.holds Tryz.pinned (OpenSpec.upto flashAgainSpec)

/-- 'jotterlaw14.FlashFull', WHERE WHAT IT READS IS OF BULK AT MOST 1048576: true; the input reads as it did. -/
def flashFullUptoRow : OpenClaim := { program := "ytlogedcoiogagaagreat", sum := "f42a56e8e1a3cd51a9f6bf541c352a40674d06df5fafe8e421ef018a6f44f40d", func := "jotter/jotterlaw14.FlashFull", spec := "flashFull", unfollowed := true, recurses := true, plainKeys := false, apart := false, narrowed := true }
def FlashFullUptoSaid : Prop := flashFullUptoRow.holds Tryz.pinned (OpenSpec.upto flashFullSpec)

/-- 'jotterlaw14.FlashWear', WHERE WHAT IT READS IS OF BULK AT MOST 1048576: true; the input reads as it did. -/
def flashWearUptoRow : OpenClaim := { program := "ytlogedcoiogagaagreat", sum := "f42a56e8e1a3cd51a9f6bf541c352a40674d06df5fafe8e421ef018a6f44f40d", func := "jotter/jotterlaw14.FlashWear", spec := "flashWear", unfollowed := true, recurses := true, plainKeys := false, apart := false, narrowed := true }
def FlashWearUptoSaid : Prop := flashWearUptoRow.holds Tryz.pinned (OpenSpec.upto flashWearSpec)

/-- 'jotterlaw14.FlashTrims', WHERE WHAT IT READS IS OF BULK AT MOST 1048576: true; the input reads as it did. -/
def flashTrimsUptoRow : OpenClaim := { program := "ytlogedcoiogagaagreat", sum := "f42a56e8e1a3cd51a9f6bf541c352a40674d06df5fafe8e421ef018a6f44f40d", func := "jotter/jotterlaw14.FlashTrims", spec := "flashTrims", unfollowed := true, recurses := true, plainKeys := false, apart := false, narrowed := true }
def FlashTrimsUptoSaid : Prop := flashTrimsUptoRow.holds Tryz.pinned (OpenSpec.upto flashTrimsSpec)

/-- 'jotterlaw14.FlashDegraded', WHERE WHAT IT READS IS OF BULK AT MOST 1048576: true; the input reads as it did. -/
def flashDegradedUptoRow : OpenClaim := { program := "ytlogedcoiogagaagreat", sum := "f42a56e8e1a3cd51a9f6bf541c352a40674d06df5fafe8e421ef018a6f44f40d", func := "jotter/jotterlaw14.FlashDegraded", spec := "flashDegraded", unfollowed := true, recurses := true, plainKeys := false, apart := false, narrowed := true }
def FlashDegradedUptoSaid : Prop := flashDegradedUptoRow.holds Tryz.pinned (OpenSpec.upto flashDegradedSpec)

/-- 'jotterlaw14.FlashTwins', WHERE WHAT IT READS IS OF BULK AT MOST 1048576: true; the input reads as it did. -/
def flashTwinsUptoRow : OpenClaim := { program := "ytlogedcoiogagaagreat", sum := "f42a56e8e1a3cd51a9f6bf541c352a40674d06df5fafe8e421ef018a6f44f40d", func := "jotter/jotterlaw14.FlashTwins", spec := "flashTwins", unfollowed := true, recurses := true, plainKeys := false, apart := false, narrowed := true }
def FlashTwinsUptoSaid : Prop := flashTwinsUptoRow.holds Tryz.pinned (OpenSpec.upto flashTwinsSpec)

end Rows
end Go.Proofs.YtlogedcoiogagaaGreat
