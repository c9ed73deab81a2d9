/-
  DERIVED. GIVEN WITH THE SEED: THE CARDS: each row of YtgoehfelpekhcaaGreatDoorRows.lean that lists a variable, with what it lists TIED to the program's text (the seventh form; the later family's looks); each row that meets fmt, with fmt's text TOLD by the authors' own Lean function (tested against real Go, not proved from fmt's source: count such statements apart). THE CARD IS WHAT COUNTS. Prove the row's statement (the work); the ties are given (YtgoehfelpekhcaaGreatDoorTie.lean); close each card by the builder's one call (the guide's Derived/Test/ToyasCard.lean, 'card_holds'). Laid BY PROGRAM, IN A SANDBOX (cutbox-door.mjs). By AI agents, Wed Nov 11 2026. No macro, syntax, notation, axiom, sorry.
-/
import Derived.Test.YtgoehfelpekhcaaGreatDoorRows
import GoSem.ClaimSeven
namespace Go.Proofs.YtgoehfelpekhcaaGreatDoor
namespace Rows

/-- THE TIED CARD OF 'jotterlaw21.NotesNone'. -/
def notesNoneCard : Claim7 := { stood := { row := notesNoneRow, standIns := [], harness := (true, "f3b811b7b040ba97da9502e4035751494914628256285db917591ca6ce90678a"), looks := false }, kinds := [], alts := [], laidByText := true, laidKinds := [.data, .pinned], laidTests := true, laidLooks := .later }
def NotesNoneCardSaid : Prop := Claim7.holds Tryz.pinned (.plain (OpenSpec.ofChange notesNoneSpec)) notesNoneCard

/-- THE TIED CARD OF 'jotterlaw22.PlayNone'. -/
def playNoneCard : Claim7 := { stood := { row := playNoneRow, standIns := [], harness := (true, "f3b811b7b040ba97da9502e4035751494914628256285db917591ca6ce90678a"), looks := false }, kinds := [], alts := [], laidByText := true, laidKinds := [.data, .pinned], laidTests := true, laidLooks := .later }
def PlayNoneCardSaid : Prop := Claim7.holds Tryz.pinned (.plain (OpenSpec.ofChange playNoneSpec)) playNoneCard

/-- THE TIED CARD OF 'jotterlaw22.PlayMany'. -/
def playManyCard : Claim7 := { stood := { row := playManyRow, standIns := [], harness := (true, "f3b811b7b040ba97da9502e4035751494914628256285db917591ca6ce90678a"), looks := false }, kinds := [], alts := [], laidByText := true, laidKinds := [.data, .pinned], laidTests := true, laidLooks := .later }
def PlayManyCardSaid : Prop := Claim7.holds Tryz.pinned (.plain (OpenSpec.ofChange playManySpec)) playManyCard

/-- THE SECOND FORM's CARD OF 'jotterlaw21.NotesNone'. -/
def notesNoneUptoCard : Claim7 := { stood := { row := notesNoneUptoRow, standIns := [], harness := (true, "f3b811b7b040ba97da9502e4035751494914628256285db917591ca6ce90678a"), looks := false }, kinds := [], alts := [], laidByText := true, laidKinds := [.data, .pinned], laidTests := true, laidLooks := .later }
def NotesNoneUptoCardSaid : Prop := Claim7.holds Tryz.pinned (.plain (OpenSpec.upto notesNoneSpec)) notesNoneUptoCard

/-- THE SECOND FORM's CARD OF 'jotterlaw22.PlayNone'. -/
def playNoneUptoCard : Claim7 := { stood := { row := playNoneUptoRow, standIns := [], harness := (true, "f3b811b7b040ba97da9502e4035751494914628256285db917591ca6ce90678a"), looks := false }, kinds := [], alts := [], laidByText := true, laidKinds := [.data, .pinned], laidTests := true, laidLooks := .later }
def PlayNoneUptoCardSaid : Prop := Claim7.holds Tryz.pinned (.plain (OpenSpec.upto playNoneSpec)) playNoneUptoCard

/-- THE SECOND FORM's CARD OF 'jotterlaw22.PlayMany'. -/
def playManyUptoCard : Claim7 := { stood := { row := playManyUptoRow, standIns := [], harness := (true, "f3b811b7b040ba97da9502e4035751494914628256285db917591ca6ce90678a"), looks := false }, kinds := [], alts := [], laidByText := true, laidKinds := [.data, .pinned], laidTests := true, laidLooks := .later }
def PlayManyUptoCardSaid : Prop := Claim7.holds Tryz.pinned (.plain (OpenSpec.upto playManySpec)) playManyUptoCard
end Rows
end Go.Proofs.YtgoehfelpekhcaaGreatDoor
