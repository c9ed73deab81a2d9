/-
  No cell of these rows narrows 'for every input' (looked for: loops, veiled, ifaces, maps, wideKeys, modest, calm, conditions, laid).
  DERIVED. THE GIVEN ROWS OF THIS SEAT. 12 by the template 'for every input the law returns true; each argument reads behind the call as it read before'; 0 by the template 'total and deterministic' (their statements: YtjffimbigamadaaTotals.lean).
  GIVEN WITH THE SEED: the statements are not yours to turn. If you find one false, say at which input.
  Laid BY PROGRAM, IN A SANDBOX (cutbox-rows.mjs): the forced cells as the released guide's own fill.sh prints them over the translation 1bcf96dfcd904fa6… (all of the seat's roots in one cut). By AI agents, Wed Nov 11 2026. No macro, syntax, notation, axiom, sorry.
-/
import Derived.Test.YtjffimbigamadaaChecked
import GoSem.Claim
import GoSem.ClaimJoined
import GoSem.ClaimMapViews
import Derived.JoinedTies
import Derived.KernelRfl
namespace Go.Proofs.Ytjffimbigamadaa
/- THE CELL 'sum', in the pinned program and in every row, IS THE sha256 OF THE DUMP (.gsa) THAT YtjffimbigamadaaProg.lean LOADS. Nothing in Lean hashes anything: it is a label: what it is worth is what the hold of that sum in a sandbox is worth. -/
noncomputable def Try.pinned : Pinned := { name := "ytjffimbigamadaa", sum := "1bcf96dfcd904fa67defe2406b0d439e8678203b525b5e63b9013434f3e7790a", checked := Try.checked }
namespace Rows
def none {H : Type} : Left H := { results := [], args := [] }

/-- 'jotterlaw7.ChipOnce': WHATEVER THE INPUT: true; the input reads as it did. -/
def chipOnceSpec : ChangeSpec := { name := "chipOnce", fn := fun _ => fun
  | [d1, d2, d3, d4] => { results := [.lit (.bool true)], args := [d1, d2, d3, d4] }
  | _ => none }
def chipOnceRow : OpenClaim := { program := "ytjffimbigamadaa", sum := "1bcf96dfcd904fa67defe2406b0d439e8678203b525b5e63b9013434f3e7790a", func := "jotter/jotterlaw7.ChipOnce", spec := "chipOnce", unfollowed := true, recurses := true, apart := false }
def ChipOnceSaid : Prop := chipOnceRow.holds Try.pinned (OpenSpec.ofChange chipOnceSpec)

/-- ITS FALSE NEIGHBOUR: 'it returns false'. Refute it at one input. -/
def chipOnceWrong : ChangeSpec := { name := "chipOnce", fn := fun _ => fun
  | [d1, d2, d3, d4] => { results := [.lit (.bool false)], args := [d1, d2, d3, d4] }
  | _ => none }
def ChipOnceWrongFalsely : Prop := chipOnceRow.holds Try.pinned (OpenSpec.ofChange chipOnceWrong)

/-- 'jotterlaw7.ChipCuts': WHATEVER THE INPUT: true; the input reads as it did. -/
def chipCutsSpec : ChangeSpec := { name := "chipCuts", fn := fun _ => fun
  | [d1, d2, d3, d4] => { results := [.lit (.bool true)], args := [d1, d2, d3, d4] }
  | _ => none }
def chipCutsRow : OpenClaim := { program := "ytjffimbigamadaa", sum := "1bcf96dfcd904fa67defe2406b0d439e8678203b525b5e63b9013434f3e7790a", func := "jotter/jotterlaw7.ChipCuts", spec := "chipCuts", unfollowed := true, recurses := true, apart := false }
def ChipCutsSaid : Prop := chipCutsRow.holds Try.pinned (OpenSpec.ofChange chipCutsSpec)

/-- ITS FALSE NEIGHBOUR: 'it returns false'. Refute it at one input. -/
def chipCutsWrong : ChangeSpec := { name := "chipCuts", fn := fun _ => fun
  | [d1, d2, d3, d4] => { results := [.lit (.bool false)], args := [d1, d2, d3, d4] }
  | _ => none }
def ChipCutsWrongFalsely : Prop := chipCutsRow.holds Try.pinned (OpenSpec.ofChange chipCutsWrong)

/-- 'jotterlaw7.ChipTears': WHATEVER THE INPUT: true; the input reads as it did. -/
def chipTearsSpec : ChangeSpec := { name := "chipTears", fn := fun _ => fun
  | [d1, d2, d3, d4] => { results := [.lit (.bool true)], args := [d1, d2, d3, d4] }
  | _ => none }
def chipTearsRow : OpenClaim := { program := "ytjffimbigamadaa", sum := "1bcf96dfcd904fa67defe2406b0d439e8678203b525b5e63b9013434f3e7790a", func := "jotter/jotterlaw7.ChipTears", spec := "chipTears", unfollowed := true, recurses := true, apart := false }
def ChipTearsSaid : Prop := chipTearsRow.holds Try.pinned (OpenSpec.ofChange chipTearsSpec)

/-- ITS FALSE NEIGHBOUR: 'it returns false'. Refute it at one input. -/
def chipTearsWrong : ChangeSpec := { name := "chipTears", fn := fun _ => fun
  | [d1, d2, d3, d4] => { results := [.lit (.bool false)], args := [d1, d2, d3, d4] }
  | _ => none }
def ChipTearsWrongFalsely : Prop := chipTearsRow.holds Try.pinned (OpenSpec.ofChange chipTearsWrong)

/-- 'jotterlaw7.ChipApart': WHATEVER THE INPUT: true; the input reads as it did. -/
def chipApartSpec : ChangeSpec := { name := "chipApart", fn := fun _ => fun
  | [d1, d2, d3, d4] => { results := [.lit (.bool true)], args := [d1, d2, d3, d4] }
  | _ => none }
def chipApartRow : OpenClaim := { program := "ytjffimbigamadaa", sum := "1bcf96dfcd904fa67defe2406b0d439e8678203b525b5e63b9013434f3e7790a", func := "jotter/jotterlaw7.ChipApart", spec := "chipApart", unfollowed := true, recurses := true, apart := false }
def ChipApartSaid : Prop := chipApartRow.holds Try.pinned (OpenSpec.ofChange chipApartSpec)

/-- ITS FALSE NEIGHBOUR: 'it returns false'. Refute it at one input. -/
def chipApartWrong : ChangeSpec := { name := "chipApart", fn := fun _ => fun
  | [d1, d2, d3, d4] => { results := [.lit (.bool false)], args := [d1, d2, d3, d4] }
  | _ => none }
def ChipApartWrongFalsely : Prop := chipApartRow.holds Try.pinned (OpenSpec.ofChange chipApartWrong)

/-- 'jotterlaw7.ChipFaults': WHATEVER THE INPUT: true; the input reads as it did. -/
def chipFaultsSpec : ChangeSpec := { name := "chipFaults", fn := fun _ => fun
  | [d1, d2, d3, d4] => { results := [.lit (.bool true)], args := [d1, d2, d3, d4] }
  | _ => none }
def chipFaultsRow : OpenClaim := { program := "ytjffimbigamadaa", sum := "1bcf96dfcd904fa67defe2406b0d439e8678203b525b5e63b9013434f3e7790a", func := "jotter/jotterlaw7.ChipFaults", spec := "chipFaults", unfollowed := true, recurses := true, apart := false }
def ChipFaultsSaid : Prop := chipFaultsRow.holds Try.pinned (OpenSpec.ofChange chipFaultsSpec)

/-- ITS FALSE NEIGHBOUR: 'it returns false'. Refute it at one input. -/
def chipFaultsWrong : ChangeSpec := { name := "chipFaults", fn := fun _ => fun
  | [d1, d2, d3, d4] => { results := [.lit (.bool false)], args := [d1, d2, d3, d4] }
  | _ => none }
def ChipFaultsWrongFalsely : Prop := chipFaultsRow.holds Try.pinned (OpenSpec.ofChange chipFaultsWrong)

/-- 'jotterlaw7.ChipScript': WHATEVER THE INPUT: true; the input reads as it did. -/
def chipScriptSpec : ChangeSpec := { name := "chipScript", fn := fun _ => fun
  | [d1, d2, d3] => { results := [.lit (.bool true)], args := [d1, d2, d3] }
  | _ => none }
def chipScriptRow : OpenClaim := { program := "ytjffimbigamadaa", sum := "1bcf96dfcd904fa67defe2406b0d439e8678203b525b5e63b9013434f3e7790a", func := "jotter/jotterlaw7.ChipScript", spec := "chipScript", unfollowed := true, recurses := true, apart := false }
def ChipScriptSaid : Prop := chipScriptRow.holds Try.pinned (OpenSpec.ofChange chipScriptSpec)

/-- ITS FALSE NEIGHBOUR: 'it returns false'. Refute it at one input. -/
def chipScriptWrong : ChangeSpec := { name := "chipScript", fn := fun _ => fun
  | [d1, d2, d3] => { results := [.lit (.bool false)], args := [d1, d2, d3] }
  | _ => none }
def ChipScriptWrongFalsely : Prop := chipScriptRow.holds Try.pinned (OpenSpec.ofChange chipScriptWrong)

/-- 'jotterlaw7.ChipNone': WHATEVER THE INPUT: true; the input reads as it did. -/
def chipNoneSpec : ChangeSpec := { name := "chipNone", fn := fun _ => fun
  | [d] => { results := [.lit (.bool true)], args := [d] }
  | _ => none }
def chipNoneRow : OpenClaim := { program := "ytjffimbigamadaa", sum := "1bcf96dfcd904fa67defe2406b0d439e8678203b525b5e63b9013434f3e7790a", func := "jotter/jotterlaw7.ChipNone", spec := "chipNone", unfollowed := true, recurses := true, apart := false }
def ChipNoneSaid : Prop := chipNoneRow.holds Try.pinned (OpenSpec.ofChange chipNoneSpec)

/-- ITS FALSE NEIGHBOUR: 'it returns false'. Refute it at one input. -/
def chipNoneWrong : ChangeSpec := { name := "chipNone", fn := fun _ => fun
  | [d] => { results := [.lit (.bool false)], args := [d] }
  | _ => none }
def ChipNoneWrongFalsely : Prop := chipNoneRow.holds Try.pinned (OpenSpec.ofChange chipNoneWrong)

/-- 'jotterlaw9.LeafCounts': WHATEVER THE INPUT: true; the input reads as it did. -/
def leafCountsSpec : ChangeSpec := { name := "leafCounts", fn := fun _ => fun
  | [d1, d2, d3] => { results := [.lit (.bool true)], args := [d1, d2, d3] }
  | _ => none }
def leafCountsRow : OpenClaim := { program := "ytjffimbigamadaa", sum := "1bcf96dfcd904fa67defe2406b0d439e8678203b525b5e63b9013434f3e7790a", func := "jotter/jotterlaw9.LeafCounts", spec := "leafCounts", unfollowed := true, recurses := true, apart := false }
def LeafCountsSaid : Prop := leafCountsRow.holds Try.pinned (OpenSpec.ofChange leafCountsSpec)

/-- ITS FALSE NEIGHBOUR: 'it returns false'. Refute it at one input. -/
def leafCountsWrong : ChangeSpec := { name := "leafCounts", fn := fun _ => fun
  | [d1, d2, d3] => { results := [.lit (.bool false)], args := [d1, d2, d3] }
  | _ => none }
def LeafCountsWrongFalsely : Prop := leafCountsRow.holds Try.pinned (OpenSpec.ofChange leafCountsWrong)

/-- 'jotterlaw9.LeafTells': WHATEVER THE INPUT: true; the input reads as it did. -/
def leafTellsSpec : ChangeSpec := { name := "leafTells", fn := fun _ => fun
  | [d1, d2, d3, d4, d5] => { results := [.lit (.bool true)], args := [d1, d2, d3, d4, d5] }
  | _ => none }
def leafTellsRow : OpenClaim := { program := "ytjffimbigamadaa", sum := "1bcf96dfcd904fa67defe2406b0d439e8678203b525b5e63b9013434f3e7790a", func := "jotter/jotterlaw9.LeafTells", spec := "leafTells", unfollowed := true, recurses := true, apart := false }
def LeafTellsSaid : Prop := leafTellsRow.holds Try.pinned (OpenSpec.ofChange leafTellsSpec)

/-- ITS FALSE NEIGHBOUR: 'it returns false'. Refute it at one input. -/
def leafTellsWrong : ChangeSpec := { name := "leafTells", fn := fun _ => fun
  | [d1, d2, d3, d4, d5] => { results := [.lit (.bool false)], args := [d1, d2, d3, d4, d5] }
  | _ => none }
def LeafTellsWrongFalsely : Prop := leafTellsRow.holds Try.pinned (OpenSpec.ofChange leafTellsWrong)

/-- 'jotterlaw9.LeafErases': WHATEVER THE INPUT: true; the input reads as it did. -/
def leafErasesSpec : ChangeSpec := { name := "leafErases", fn := fun _ => fun
  | [d1, d2, d3] => { results := [.lit (.bool true)], args := [d1, d2, d3] }
  | _ => none }
def leafErasesRow : OpenClaim := { program := "ytjffimbigamadaa", sum := "1bcf96dfcd904fa67defe2406b0d439e8678203b525b5e63b9013434f3e7790a", func := "jotter/jotterlaw9.LeafErases", spec := "leafErases", unfollowed := true, recurses := true, apart := false }
def LeafErasesSaid : Prop := leafErasesRow.holds Try.pinned (OpenSpec.ofChange leafErasesSpec)

/-- ITS FALSE NEIGHBOUR: 'it returns false'. Refute it at one input. -/
def leafErasesWrong : ChangeSpec := { name := "leafErases", fn := fun _ => fun
  | [d1, d2, d3] => { results := [.lit (.bool false)], args := [d1, d2, d3] }
  | _ => none }
def LeafErasesWrongFalsely : Prop := leafErasesRow.holds Try.pinned (OpenSpec.ofChange leafErasesWrong)

/-- 'jotterlaw23.AuditWears': WHATEVER THE INPUT: true; the input reads as it did. -/
def auditWearsSpec : ChangeSpec := { name := "auditWears", fn := fun _ => fun
  | [d1, d2, d3, d4] => { results := [.lit (.bool true)], args := [d1, d2, d3, d4] }
  | _ => none }
def auditWearsRow : OpenClaim := { program := "ytjffimbigamadaa", sum := "1bcf96dfcd904fa67defe2406b0d439e8678203b525b5e63b9013434f3e7790a", func := "jotter/jotterlaw23.AuditWears", spec := "auditWears", unfollowed := true, recurses := true, apart := false }
def AuditWearsSaid : Prop := auditWearsRow.holds Try.pinned (OpenSpec.ofChange auditWearsSpec)

/-- ITS FALSE NEIGHBOUR: 'it returns false'. Refute it at one input. -/
def auditWearsWrong : ChangeSpec := { name := "auditWears", fn := fun _ => fun
  | [d1, d2, d3, d4] => { results := [.lit (.bool false)], args := [d1, d2, d3, d4] }
  | _ => none }
def AuditWearsWrongFalsely : Prop := auditWearsRow.holds Try.pinned (OpenSpec.ofChange auditWearsWrong)

/-- 'jotterlaw23.AuditTwice': WHATEVER THE INPUT: true; the input reads as it did. -/
def auditTwiceSpec : ChangeSpec := { name := "auditTwice", fn := fun _ => fun
  | [d1, d2, d3] => { results := [.lit (.bool true)], args := [d1, d2, d3] }
  | _ => none }
def auditTwiceRow : OpenClaim := { program := "ytjffimbigamadaa", sum := "1bcf96dfcd904fa67defe2406b0d439e8678203b525b5e63b9013434f3e7790a", func := "jotter/jotterlaw23.AuditTwice", spec := "auditTwice", unfollowed := true, recurses := true, apart := false }
def AuditTwiceSaid : Prop := auditTwiceRow.holds Try.pinned (OpenSpec.ofChange auditTwiceSpec)

/-- ITS FALSE NEIGHBOUR: 'it returns false'. Refute it at one input. -/
def auditTwiceWrong : ChangeSpec := { name := "auditTwice", fn := fun _ => fun
  | [d1, d2, d3] => { results := [.lit (.bool false)], args := [d1, d2, d3] }
  | _ => none }
def AuditTwiceWrongFalsely : Prop := auditTwiceRow.holds Try.pinned (OpenSpec.ofChange auditTwiceWrong)

/- THE SECOND FORM. 'bulk': how many values and letters a reading holds, each counted each time it is reached (what is shared counts as often as it is met; a slice's spare places count too). A statement '..UptoSaid' is the law's where the arguments, and the package variables that the reading takes, are together of bulk at most 1048576: NARROWER than '..Said'. Prove '..Said' where nothing that the law and all that it calls make is longer than what came in: it says more and counts as full. Else prove '..UptoSaid'. A law counts once. -/
mutual
def uptoBulk {H : Type} : DataW H → Nat
  | .lit (.string bytes) => bytes.length + 1
  | .lit _ => 1
  | .nil => 1
  | .ptr d => uptoBulk d + 1
  | .slice elems spare => uptoBulkAll elems + uptoBulkAll spare + 1
  | .agg parts => uptoBulkAll parts + 1
  | .iface _ d => uptoBulk d + 1
  | .map entries => uptoBulkEntries entries + 1
  | .held _ => 1
def uptoBulkAll {H : Type} : List (DataW H) → Nat
  | [] => 0
  | d :: r => uptoBulk d + uptoBulkAll r
def uptoBulkEntries {H : Type} : List (Lit × DataW H) → Nat
  | [] => 0
  | x :: r => uptoBulkEntry x + uptoBulkEntries r
def uptoBulkEntry {H : Type} : Lit × DataW H → Nat
  | (.string bytes, d) => bytes.length + uptoBulk d + 1
  | (_, d) => uptoBulk d + 1
 end
def uptoSmall : (H : Type) → List (DataW H) → Bool := fun _ ds => decide (uptoBulkAll ds ≤ 1048576)
def OpenSpec.upto (s : _root_.Go.ChangeSpec) : _root_.Go.OpenSpec := { _root_.Go.OpenSpec.ofChange s with cond := some uptoSmall }

/-- 'jotterlaw7.ChipOnce', WHERE WHAT IT READS IS OF BULK AT MOST 1048576: true; the input reads as it did. -/
def chipOnceUptoRow : OpenClaim := { program := "ytjffimbigamadaa", sum := "1bcf96dfcd904fa67defe2406b0d439e8678203b525b5e63b9013434f3e7790a", func := "jotter/jotterlaw7.ChipOnce", spec := "chipOnce", unfollowed := true, recurses := true, apart := false, narrowed := true }
def ChipOnceUptoSaid : Prop := chipOnceUptoRow.holds Try.pinned (OpenSpec.upto chipOnceSpec)

/-- 'jotterlaw7.ChipCuts', WHERE WHAT IT READS IS OF BULK AT MOST 1048576: true; the input reads as it did. -/
def chipCutsUptoRow : OpenClaim := { program := "ytjffimbigamadaa", sum := "1bcf96dfcd904fa67defe2406b0d439e8678203b525b5e63b9013434f3e7790a", func := "jotter/jotterlaw7.ChipCuts", spec := "chipCuts", unfollowed := true, recurses := true, apart := false, narrowed := true }
def ChipCutsUptoSaid : Prop := chipCutsUptoRow.holds Try.pinned (OpenSpec.upto chipCutsSpec)

/-- 'jotterlaw7.ChipTears', WHERE WHAT IT READS IS OF BULK AT MOST 1048576: true; the input reads as it did. -/
def chipTearsUptoRow : OpenClaim := { program := "ytjffimbigamadaa", sum := "1bcf96dfcd904fa67defe2406b0d439e8678203b525b5e63b9013434f3e7790a", func := "jotter/jotterlaw7.ChipTears", spec := "chipTears", unfollowed := true, recurses := true, apart := false, narrowed := true }
def ChipTearsUptoSaid : Prop := chipTearsUptoRow.holds Try.pinned (OpenSpec.upto chipTearsSpec)

/-- 'jotterlaw7.ChipApart', WHERE WHAT IT READS IS OF BULK AT MOST 1048576: true; the input reads as it did. -/
def chipApartUptoRow : OpenClaim := { program := "ytjffimbigamadaa", sum := "1bcf96dfcd904fa67defe2406b0d439e8678203b525b5e63b9013434f3e7790a", func := "jotter/jotterlaw7.ChipApart", spec := "chipApart", unfollowed := true, recurses := true, apart := false, narrowed := true }
def ChipApartUptoSaid : Prop := chipApartUptoRow.holds Try.pinned (OpenSpec.upto chipApartSpec)

/-- 'jotterlaw7.ChipFaults', WHERE WHAT IT READS IS OF BULK AT MOST 1048576: true; the input reads as it did. -/
def chipFaultsUptoRow : OpenClaim := { program := "ytjffimbigamadaa", sum := "1bcf96dfcd904fa67defe2406b0d439e8678203b525b5e63b9013434f3e7790a", func := "jotter/jotterlaw7.ChipFaults", spec := "chipFaults", unfollowed := true, recurses := true, apart := false, narrowed := true }
def ChipFaultsUptoSaid : Prop := chipFaultsUptoRow.holds Try.pinned (OpenSpec.upto chipFaultsSpec)

/-- 'jotterlaw7.ChipScript', WHERE WHAT IT READS IS OF BULK AT MOST 1048576: true; the input reads as it did. -/
def chipScriptUptoRow : OpenClaim := { program := "ytjffimbigamadaa", sum := "1bcf96dfcd904fa67defe2406b0d439e8678203b525b5e63b9013434f3e7790a", func := "jotter/jotterlaw7.ChipScript", spec := "chipScript", unfollowed := true, recurses := true, apart := false, narrowed := true }
def ChipScriptUptoSaid : Prop := chipScriptUptoRow.holds Try.pinned (OpenSpec.upto chipScriptSpec)

/-- 'jotterlaw7.ChipNone', WHERE WHAT IT READS IS OF BULK AT MOST 1048576: true; the input reads as it did. -/
def chipNoneUptoRow : OpenClaim := { program := "ytjffimbigamadaa", sum := "1bcf96dfcd904fa67defe2406b0d439e8678203b525b5e63b9013434f3e7790a", func := "jotter/jotterlaw7.ChipNone", spec := "chipNone", unfollowed := true, recurses := true, apart := false, narrowed := true }
def ChipNoneUptoSaid : Prop := chipNoneUptoRow.holds Try.pinned (OpenSpec.upto chipNoneSpec)

/-- 'jotterlaw9.LeafCounts', WHERE WHAT IT READS IS OF BULK AT MOST 1048576: true; the input reads as it did. -/
def leafCountsUptoRow : OpenClaim := { program := "ytjffimbigamadaa", sum := "1bcf96dfcd904fa67defe2406b0d439e8678203b525b5e63b9013434f3e7790a", func := "jotter/jotterlaw9.LeafCounts", spec := "leafCounts", unfollowed := true, recurses := true, apart := false, narrowed := true }
def LeafCountsUptoSaid : Prop := leafCountsUptoRow.holds Try.pinned (OpenSpec.upto leafCountsSpec)

/-- 'jotterlaw9.LeafTells', WHERE WHAT IT READS IS OF BULK AT MOST 1048576: true; the input reads as it did. -/
def leafTellsUptoRow : OpenClaim := { program := "ytjffimbigamadaa", sum := "1bcf96dfcd904fa67defe2406b0d439e8678203b525b5e63b9013434f3e7790a", func := "jotter/jotterlaw9.LeafTells", spec := "leafTells", unfollowed := true, recurses := true, apart := false, narrowed := true }
def LeafTellsUptoSaid : Prop := leafTellsUptoRow.holds Try.pinned (OpenSpec.upto leafTellsSpec)

/-- 'jotterlaw9.LeafErases', WHERE WHAT IT READS IS OF BULK AT MOST 1048576: true; the input reads as it did. -/
def leafErasesUptoRow : OpenClaim := { program := "ytjffimbigamadaa", sum := "1bcf96dfcd904fa67defe2406b0d439e8678203b525b5e63b9013434f3e7790a", func := "jotter/jotterlaw9.LeafErases", spec := "leafErases", unfollowed := true, recurses := true, apart := false, narrowed := true }
def LeafErasesUptoSaid : Prop := leafErasesUptoRow.holds Try.pinned (OpenSpec.upto leafErasesSpec)

/-- 'jotterlaw23.AuditWears', WHERE WHAT IT READS IS OF BULK AT MOST 1048576: true; the input reads as it did. -/
def auditWearsUptoRow : OpenClaim := { program := "ytjffimbigamadaa", sum := "1bcf96dfcd904fa67defe2406b0d439e8678203b525b5e63b9013434f3e7790a", func := "jotter/jotterlaw23.AuditWears", spec := "auditWears", unfollowed := true, recurses := true, apart := false, narrowed := true }
def AuditWearsUptoSaid : Prop := auditWearsUptoRow.holds Try.pinned (OpenSpec.upto auditWearsSpec)

/-- 'jotterlaw23.AuditTwice', WHERE WHAT IT READS IS OF BULK AT MOST 1048576: true; the input reads as it did. -/
def auditTwiceUptoRow : OpenClaim := { program := "ytjffimbigamadaa", sum := "1bcf96dfcd904fa67defe2406b0d439e8678203b525b5e63b9013434f3e7790a", func := "jotter/jotterlaw23.AuditTwice", spec := "auditTwice", unfollowed := true, recurses := true, apart := false, narrowed := true }
def AuditTwiceUptoSaid : Prop := auditTwiceUptoRow.holds Try.pinned (OpenSpec.upto auditTwiceSpec)

end Rows
end Go.Proofs.Ytjffimbigamadaa
