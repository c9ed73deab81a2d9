/-
  No cell of these rows narrows 'for every input' (looked for: loops, veiled, ifaces, maps, wideKeys, modest, calm, conditions, laid).
  DERIVED. THE GIVEN ROWS OF THIS SEAT. 9 by the template 'for every input the law returns true; each argument reads behind the call as it read before'; 0 by the template 'total and deterministic' (their statements: YtpfifmemkbddjaaTotals.lean).
  GIVEN WITH THE SEED: the statements are not yours to turn. If you find one false, say at which input.
  Laid BY PROGRAM, IN A SANDBOX (cutbox-rows.mjs): the forced cells as the released guide's own fill.sh prints them over the translation 6804683ec928ca8b… (all of the seat's roots in one cut). By AI agents, Wed Nov 11 2026. No macro, syntax, notation, axiom, sorry.
-/
import Derived.Test.YtpfifmemkbddjaaChecked
import GoSem.Claim
import GoSem.ClaimJoined
import GoSem.ClaimMapViews
import Derived.JoinedTies
import Derived.KernelRfl
namespace Go.Proofs.Ytpfifmemkbddjaa
/- THE CELL 'sum', in the pinned program and in every row, IS THE sha256 OF THE DUMP (.gsa) THAT YtpfifmemkbddjaaProg.lean LOADS. Nothing in Lean hashes anything: it is a label: what it is worth is what the hold of that sum in a sandbox is worth. -/
noncomputable def Try.pinned : Pinned := { name := "ytpfifmemkbddjaa", sum := "6804683ec928ca8b79b21436a770e9f24e154525621aa5ae671fc9d960f4f8df", checked := Try.checked }
namespace Rows
def none {H : Type} : Left H := { results := [], args := [] }

/-- 'jotterlaw4.CrcTells': WHATEVER THE INPUT: true; the input reads as it did. -/
def crcTellsSpec : ChangeSpec := { name := "crcTells", fn := fun _ => fun
  | [d1, d2] => { results := [.lit (.bool true)], args := [d1, d2] }
  | _ => none }
def crcTellsRow : OpenClaim := { program := "ytpfifmemkbddjaa", sum := "6804683ec928ca8b79b21436a770e9f24e154525621aa5ae671fc9d960f4f8df", func := "jotter/jotterlaw4.CrcTells", spec := "crcTells", apart := false }
def CrcTellsSaid : Prop := crcTellsRow.holds Try.pinned (OpenSpec.ofChange crcTellsSpec)

/-- ITS FALSE NEIGHBOUR: 'it returns false'. Refute it at one input. -/
def crcTellsWrong : ChangeSpec := { name := "crcTells", fn := fun _ => fun
  | [d1, d2] => { results := [.lit (.bool false)], args := [d1, d2] }
  | _ => none }
def CrcTellsWrongFalsely : Prop := crcTellsRow.holds Try.pinned (OpenSpec.ofChange crcTellsWrong)

/-- 'jotterlaw4.CrcParts': WHATEVER THE INPUT: true; the input reads as it did. -/
def crcPartsSpec : ChangeSpec := { name := "crcParts", fn := fun _ => fun
  | [d1, d2, d3] => { results := [.lit (.bool true)], args := [d1, d2, d3] }
  | _ => none }
def crcPartsRow : OpenClaim := { program := "ytpfifmemkbddjaa", sum := "6804683ec928ca8b79b21436a770e9f24e154525621aa5ae671fc9d960f4f8df", func := "jotter/jotterlaw4.CrcParts", spec := "crcParts", apart := false }
def CrcPartsSaid : Prop := crcPartsRow.holds Try.pinned (OpenSpec.ofChange crcPartsSpec)

/-- ITS FALSE NEIGHBOUR: 'it returns false'. Refute it at one input. -/
def crcPartsWrong : ChangeSpec := { name := "crcParts", fn := fun _ => fun
  | [d1, d2, d3] => { results := [.lit (.bool false)], args := [d1, d2, d3] }
  | _ => none }
def CrcPartsWrongFalsely : Prop := crcPartsRow.holds Try.pinned (OpenSpec.ofChange crcPartsWrong)

/-- 'jotterlaw4.CrcBits': WHATEVER THE INPUT: true; the input reads as it did. -/
def crcBitsSpec : ChangeSpec := { name := "crcBits", fn := fun _ => fun
  | [d1, d2, d3] => { results := [.lit (.bool true)], args := [d1, d2, d3] }
  | _ => none }
def crcBitsRow : OpenClaim := { program := "ytpfifmemkbddjaa", sum := "6804683ec928ca8b79b21436a770e9f24e154525621aa5ae671fc9d960f4f8df", func := "jotter/jotterlaw4.CrcBits", spec := "crcBits", apart := false }
def CrcBitsSaid : Prop := crcBitsRow.holds Try.pinned (OpenSpec.ofChange crcBitsSpec)

/-- ITS FALSE NEIGHBOUR: 'it returns false'. Refute it at one input. -/
def crcBitsWrong : ChangeSpec := { name := "crcBits", fn := fun _ => fun
  | [d1, d2, d3] => { results := [.lit (.bool false)], args := [d1, d2, d3] }
  | _ => none }
def CrcBitsWrongFalsely : Prop := crcBitsRow.holds Try.pinned (OpenSpec.ofChange crcBitsWrong)

/-- 'jotterlaw8.TagLays': WHATEVER THE INPUT: true; the input reads as it did. -/
def tagLaysSpec : ChangeSpec := { name := "tagLays", fn := fun _ => fun
  | [d1, d2] => { results := [.lit (.bool true)], args := [d1, d2] }
  | _ => none }
def tagLaysRow : OpenClaim := { program := "ytpfifmemkbddjaa", sum := "6804683ec928ca8b79b21436a770e9f24e154525621aa5ae671fc9d960f4f8df", func := "jotter/jotterlaw8.TagLays", spec := "tagLays", unfollowed := true, recurses := true, apart := false }
def TagLaysSaid : Prop := tagLaysRow.holds Try.pinned (OpenSpec.ofChange tagLaysSpec)

/-- ITS FALSE NEIGHBOUR: 'it returns false'. Refute it at one input. -/
def tagLaysWrong : ChangeSpec := { name := "tagLays", fn := fun _ => fun
  | [d1, d2] => { results := [.lit (.bool false)], args := [d1, d2] }
  | _ => none }
def TagLaysWrongFalsely : Prop := tagLaysRow.holds Try.pinned (OpenSpec.ofChange tagLaysWrong)

/-- 'jotterlaw8.TagReads': WHATEVER THE INPUT: true; the input reads as it did. -/
def tagReadsSpec : ChangeSpec := { name := "tagReads", fn := fun _ => fun
  | [d] => { results := [.lit (.bool true)], args := [d] }
  | _ => none }
def tagReadsRow : OpenClaim := { program := "ytpfifmemkbddjaa", sum := "6804683ec928ca8b79b21436a770e9f24e154525621aa5ae671fc9d960f4f8df", func := "jotter/jotterlaw8.TagReads", spec := "tagReads", unfollowed := true, recurses := true, apart := false }
def TagReadsSaid : Prop := tagReadsRow.holds Try.pinned (OpenSpec.ofChange tagReadsSpec)

/-- ITS FALSE NEIGHBOUR: 'it returns false'. Refute it at one input. -/
def tagReadsWrong : ChangeSpec := { name := "tagReads", fn := fun _ => fun
  | [d] => { results := [.lit (.bool false)], args := [d] }
  | _ => none }
def TagReadsWrongFalsely : Prop := tagReadsRow.holds Try.pinned (OpenSpec.ofChange tagReadsWrong)

/-- 'jotterlaw8.TagTorn': WHATEVER THE INPUT: true; the input reads as it did. -/
def tagTornSpec : ChangeSpec := { name := "tagTorn", fn := fun _ => fun
  | [d1, d2, d3, d4] => { results := [.lit (.bool true)], args := [d1, d2, d3, d4] }
  | _ => none }
def tagTornRow : OpenClaim := { program := "ytpfifmemkbddjaa", sum := "6804683ec928ca8b79b21436a770e9f24e154525621aa5ae671fc9d960f4f8df", func := "jotter/jotterlaw8.TagTorn", spec := "tagTorn", unfollowed := true, recurses := true, apart := false }
def TagTornSaid : Prop := tagTornRow.holds Try.pinned (OpenSpec.ofChange tagTornSpec)

/-- ITS FALSE NEIGHBOUR: 'it returns false'. Refute it at one input. -/
def tagTornWrong : ChangeSpec := { name := "tagTorn", fn := fun _ => fun
  | [d1, d2, d3, d4] => { results := [.lit (.bool false)], args := [d1, d2, d3, d4] }
  | _ => none }
def TagTornWrongFalsely : Prop := tagTornRow.holds Try.pinned (OpenSpec.ofChange tagTornWrong)

/-- 'jotterlaw8.TagBack': WHATEVER THE INPUT: true; the input reads as it did. -/
def tagBackSpec : ChangeSpec := { name := "tagBack", fn := fun _ => fun
  | [d1, d2, d3] => { results := [.lit (.bool true)], args := [d1, d2, d3] }
  | _ => none }
def tagBackRow : OpenClaim := { program := "ytpfifmemkbddjaa", sum := "6804683ec928ca8b79b21436a770e9f24e154525621aa5ae671fc9d960f4f8df", func := "jotter/jotterlaw8.TagBack", spec := "tagBack", unfollowed := true, recurses := true, apart := false }
def TagBackSaid : Prop := tagBackRow.holds Try.pinned (OpenSpec.ofChange tagBackSpec)

/-- ITS FALSE NEIGHBOUR: 'it returns false'. Refute it at one input. -/
def tagBackWrong : ChangeSpec := { name := "tagBack", fn := fun _ => fun
  | [d1, d2, d3] => { results := [.lit (.bool false)], args := [d1, d2, d3] }
  | _ => none }
def TagBackWrongFalsely : Prop := tagBackRow.holds Try.pinned (OpenSpec.ofChange tagBackWrong)

/-- 'jotterlaw8.TagUnlike': WHATEVER THE INPUT: true; the input reads as it did. -/
def tagUnlikeSpec : ChangeSpec := { name := "tagUnlike", fn := fun _ => fun
  | [d1, d2, d3, d4] => { results := [.lit (.bool true)], args := [d1, d2, d3, d4] }
  | _ => none }
def tagUnlikeRow : OpenClaim := { program := "ytpfifmemkbddjaa", sum := "6804683ec928ca8b79b21436a770e9f24e154525621aa5ae671fc9d960f4f8df", func := "jotter/jotterlaw8.TagUnlike", spec := "tagUnlike", unfollowed := true, recurses := true, apart := false }
def TagUnlikeSaid : Prop := tagUnlikeRow.holds Try.pinned (OpenSpec.ofChange tagUnlikeSpec)

/-- ITS FALSE NEIGHBOUR: 'it returns false'. Refute it at one input. -/
def tagUnlikeWrong : ChangeSpec := { name := "tagUnlike", fn := fun _ => fun
  | [d1, d2, d3, d4] => { results := [.lit (.bool false)], args := [d1, d2, d3, d4] }
  | _ => none }
def TagUnlikeWrongFalsely : Prop := tagUnlikeRow.holds Try.pinned (OpenSpec.ofChange tagUnlikeWrong)

/-- 'jotterlaw8.TagLengths': WHATEVER THE INPUT: true; the input reads as it did. -/
def tagLengthsSpec : ChangeSpec := { name := "tagLengths", fn := fun _ => fun
  | [d1, d2] => { results := [.lit (.bool true)], args := [d1, d2] }
  | _ => none }
def tagLengthsRow : OpenClaim := { program := "ytpfifmemkbddjaa", sum := "6804683ec928ca8b79b21436a770e9f24e154525621aa5ae671fc9d960f4f8df", func := "jotter/jotterlaw8.TagLengths", spec := "tagLengths", unfollowed := true, recurses := true, apart := false }
def TagLengthsSaid : Prop := tagLengthsRow.holds Try.pinned (OpenSpec.ofChange tagLengthsSpec)

/-- ITS FALSE NEIGHBOUR: 'it returns false'. Refute it at one input. -/
def tagLengthsWrong : ChangeSpec := { name := "tagLengths", fn := fun _ => fun
  | [d1, d2] => { results := [.lit (.bool false)], args := [d1, d2] }
  | _ => none }
def TagLengthsWrongFalsely : Prop := tagLengthsRow.holds Try.pinned (OpenSpec.ofChange tagLengthsWrong)

/- THE SECOND FORM. 'bulk': how many values and letters a reading holds, each counted each time it is reached (what is shared counts as often as it is met; a slice's spare places count too). A statement '..UptoSaid' is the law's where the arguments, and the package variables that the reading takes, are together of bulk at most 1048576: NARROWER than '..Said'. Prove '..Said' where nothing that the law and all that it calls make is longer than what came in: it says more and counts as full. Else prove '..UptoSaid'. A law counts once. -/
mutual
def uptoBulk {H : Type} : DataW H → Nat
  | .lit (.string bytes) => bytes.length + 1
  | .lit _ => 1
  | .nil => 1
  | .ptr d => uptoBulk d + 1
  | .slice elems spare => uptoBulkAll elems + uptoBulkAll spare + 1
  | .agg parts => uptoBulkAll parts + 1
  | .iface _ d => uptoBulk d + 1
  | .map entries => uptoBulkEntries entries + 1
  | .held _ => 1
def uptoBulkAll {H : Type} : List (DataW H) → Nat
  | [] => 0
  | d :: r => uptoBulk d + uptoBulkAll r
def uptoBulkEntries {H : Type} : List (Lit × DataW H) → Nat
  | [] => 0
  | x :: r => uptoBulkEntry x + uptoBulkEntries r
def uptoBulkEntry {H : Type} : Lit × DataW H → Nat
  | (.string bytes, d) => bytes.length + uptoBulk d + 1
  | (_, d) => uptoBulk d + 1
 end
def uptoSmall : (H : Type) → List (DataW H) → Bool := fun _ ds => decide (uptoBulkAll ds ≤ 1048576)
def OpenSpec.upto (s : _root_.Go.ChangeSpec) : _root_.Go.OpenSpec := { _root_.Go.OpenSpec.ofChange s with cond := some uptoSmall }

/-- 'jotterlaw4.CrcTells', WHERE WHAT IT READS IS OF BULK AT MOST 1048576: true; the input reads as it did. -/
def crcTellsUptoRow : OpenClaim := { program := "ytpfifmemkbddjaa", sum := "6804683ec928ca8b79b21436a770e9f24e154525621aa5ae671fc9d960f4f8df", func := "jotter/jotterlaw4.CrcTells", spec := "crcTells", apart := false, narrowed := true }
def CrcTellsUptoSaid : Prop := crcTellsUptoRow.holds Try.pinned (OpenSpec.upto crcTellsSpec)

/-- 'jotterlaw4.CrcParts', WHERE WHAT IT READS IS OF BULK AT MOST 1048576: true; the input reads as it did. -/
def crcPartsUptoRow : OpenClaim := { program := "ytpfifmemkbddjaa", sum := "6804683ec928ca8b79b21436a770e9f24e154525621aa5ae671fc9d960f4f8df", func := "jotter/jotterlaw4.CrcParts", spec := "crcParts", apart := false, narrowed := true }
def CrcPartsUptoSaid : Prop := crcPartsUptoRow.holds Try.pinned (OpenSpec.upto crcPartsSpec)

/-- 'jotterlaw4.CrcBits', WHERE WHAT IT READS IS OF BULK AT MOST 1048576: true; the input reads as it did. -/
def crcBitsUptoRow : OpenClaim := { program := "ytpfifmemkbddjaa", sum := "6804683ec928ca8b79b21436a770e9f24e154525621aa5ae671fc9d960f4f8df", func := "jotter/jotterlaw4.CrcBits", spec := "crcBits", apart := false, narrowed := true }
def CrcBitsUptoSaid : Prop := crcBitsUptoRow.holds Try.pinned (OpenSpec.upto crcBitsSpec)

/-- 'jotterlaw8.TagLays', WHERE WHAT IT READS IS OF BULK AT MOST 1048576: true; the input reads as it did. -/
def tagLaysUptoRow : OpenClaim := { program := "ytpfifmemkbddjaa", sum := "6804683ec928ca8b79b21436a770e9f24e154525621aa5ae671fc9d960f4f8df", func := "jotter/jotterlaw8.TagLays", spec := "tagLays", unfollowed := true, recurses := true, apart := false, narrowed := true }
def TagLaysUptoSaid : Prop := tagLaysUptoRow.holds Try.pinned (OpenSpec.upto tagLaysSpec)

/-- 'jotterlaw8.TagReads', WHERE WHAT IT READS IS OF BULK AT MOST 1048576: true; the input reads as it did. -/
def tagReadsUptoRow : OpenClaim := { program := "ytpfifmemkbddjaa", sum := "6804683ec928ca8b79b21436a770e9f24e154525621aa5ae671fc9d960f4f8df", func := "jotter/jotterlaw8.TagReads", spec := "tagReads", unfollowed := true, recurses := true, apart := false, narrowed := true }
def TagReadsUptoSaid : Prop := tagReadsUptoRow.holds Try.pinned (OpenSpec.upto tagReadsSpec)

/-- 'jotterlaw8.TagTorn', WHERE WHAT IT READS IS OF BULK AT MOST 1048576: true; the input reads as it did. -/
def tagTornUptoRow : OpenClaim := { program := "ytpfifmemkbddjaa", sum := "6804683ec928ca8b79b21436a770e9f24e154525621aa5ae671fc9d960f4f8df", func := "jotter/jotterlaw8.TagTorn", spec := "tagTorn", unfollowed := true, recurses := true, apart := false, narrowed := true }
def TagTornUptoSaid : Prop := tagTornUptoRow.holds Try.pinned (OpenSpec.upto tagTornSpec)

/-- 'jotterlaw8.TagBack', WHERE WHAT IT READS IS OF BULK AT MOST 1048576: true; the input reads as it did. -/
def tagBackUptoRow : OpenClaim := { program := "ytpfifmemkbddjaa", sum := "6804683ec928ca8b79b21436a770e9f24e154525621aa5ae671fc9d960f4f8df", func := "jotter/jotterlaw8.TagBack", spec := "tagBack", unfollowed := true, recurses := true, apart := false, narrowed := true }
def TagBackUptoSaid : Prop := tagBackUptoRow.holds Try.pinned (OpenSpec.upto tagBackSpec)

/-- 'jotterlaw8.TagUnlike', WHERE WHAT IT READS IS OF BULK AT MOST 1048576: true; the input reads as it did. -/
def tagUnlikeUptoRow : OpenClaim := { program := "ytpfifmemkbddjaa", sum := "6804683ec928ca8b79b21436a770e9f24e154525621aa5ae671fc9d960f4f8df", func := "jotter/jotterlaw8.TagUnlike", spec := "tagUnlike", unfollowed := true, recurses := true, apart := false, narrowed := true }
def TagUnlikeUptoSaid : Prop := tagUnlikeUptoRow.holds Try.pinned (OpenSpec.upto tagUnlikeSpec)

/-- 'jotterlaw8.TagLengths', WHERE WHAT IT READS IS OF BULK AT MOST 1048576: true; the input reads as it did. -/
def tagLengthsUptoRow : OpenClaim := { program := "ytpfifmemkbddjaa", sum := "6804683ec928ca8b79b21436a770e9f24e154525621aa5ae671fc9d960f4f8df", func := "jotter/jotterlaw8.TagLengths", spec := "tagLengths", unfollowed := true, recurses := true, apart := false, narrowed := true }
def TagLengthsUptoSaid : Prop := tagLengthsUptoRow.holds Try.pinned (OpenSpec.upto tagLengthsSpec)

end Rows
end Go.Proofs.Ytpfifmemkbddjaa
