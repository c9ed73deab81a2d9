/-
  DERIVED. GIVEN WITH THE SEED: THE CARDS: each row of YtmifiialedlcnaaGreatDoorRows.lean that lists a variable, with what it lists TIED to the program's text (the seventh form; the later family's looks); each row that meets fmt, with fmt's text TOLD by the authors' own Lean function (tested against real Go, not proved from fmt's source: count such statements apart). THE CARD IS WHAT COUNTS. Prove the row's statement (the work); the ties are given (YtmifiialedlcnaaGreatDoorTie.lean); close each card by the builder's one call (the guide's Derived/Test/ToyasCard.lean, 'card_holds'). Laid BY PROGRAM, IN A SANDBOX (cutbox-door.mjs). By AI agents, Wed Nov 11 2026. No macro, syntax, notation, axiom, sorry.
-/
import Derived.Test.YtmifiialedlcnaaGreatDoorRows
import GoSem.ClaimSeven
namespace Go.Proofs.YtmifiialedlcnaaGreatDoor
namespace Rows

/-- THE TIED CARD OF 'jotterlaw20.DeskNone'. -/
def deskNoneCard : Claim7 := { stood := { row := deskNoneRow, standIns := [], harness := (true, "f62c6f7241478ec147e0fafd291f0380a4a5871a13d33c5af61de8c0b71ec527"), looks := false }, kinds := [], alts := [], laidByText := true, laidKinds := [.data, .pinned], laidTests := true, laidLooks := .later }
def DeskNoneCardSaid : Prop := Claim7.holds Tryz.pinned (.plain (OpenSpec.ofChange deskNoneSpec)) deskNoneCard

/-- THE TIED CARD OF 'jotterlaw21.NotesNone'. -/
def notesNoneCard : Claim7 := { stood := { row := notesNoneRow, standIns := [], harness := (true, "f62c6f7241478ec147e0fafd291f0380a4a5871a13d33c5af61de8c0b71ec527"), looks := false }, kinds := [], alts := [], laidByText := true, laidKinds := [.data, .pinned], laidTests := true, laidLooks := .later }
def NotesNoneCardSaid : Prop := Claim7.holds Tryz.pinned (.plain (OpenSpec.ofChange notesNoneSpec)) notesNoneCard

/-- THE TIED CARD OF 'jotterlaw22.PlayNone'. -/
def playNoneCard : Claim7 := { stood := { row := playNoneRow, standIns := [], harness := (true, "f62c6f7241478ec147e0fafd291f0380a4a5871a13d33c5af61de8c0b71ec527"), looks := false }, kinds := [], alts := [], laidByText := true, laidKinds := [.data, .pinned], laidTests := true, laidLooks := .later }
def PlayNoneCardSaid : Prop := Claim7.holds Tryz.pinned (.plain (OpenSpec.ofChange playNoneSpec)) playNoneCard

/-- THE TIED CARD OF 'jotterlaw22.PlayMany'. -/
def playManyCard : Claim7 := { stood := { row := playManyRow, standIns := [], harness := (true, "f62c6f7241478ec147e0fafd291f0380a4a5871a13d33c5af61de8c0b71ec527"), looks := false }, kinds := [], alts := [], laidByText := true, laidKinds := [.data, .pinned], laidTests := true, laidLooks := .later }
def PlayManyCardSaid : Prop := Claim7.holds Tryz.pinned (.plain (OpenSpec.ofChange playManySpec)) playManyCard

/-- THE TIED CARD OF 'jottertop.TopFills'. -/
def topFillsCard : Claim7 := { stood := { row := topFillsRow, standIns := [], harness := (true, "f62c6f7241478ec147e0fafd291f0380a4a5871a13d33c5af61de8c0b71ec527"), looks := false }, kinds := [], alts := [], laidByText := true, laidKinds := [.data, .pinned], laidTests := true, laidLooks := .later }
def TopFillsCardSaid : Prop := Claim7.holds Tryz.pinned (.plain (OpenSpec.ofChange topFillsSpec)) topFillsCard

/-- THE TIED CARD OF 'jottertop.TopPictures'. -/
def topPicturesCard : Claim7 := { stood := { row := topPicturesRow, standIns := [], harness := (true, "f62c6f7241478ec147e0fafd291f0380a4a5871a13d33c5af61de8c0b71ec527"), looks := false }, kinds := [], alts := [], laidByText := true, laidKinds := [.data, .pinned], laidTests := true, laidLooks := .later }
def TopPicturesCardSaid : Prop := Claim7.holds Tryz.pinned (.plain (OpenSpec.ofChange topPicturesSpec)) topPicturesCard

/-- THE SECOND FORM's CARD OF 'jotterlaw20.DeskNone'. -/
def deskNoneUptoCard : Claim7 := { stood := { row := deskNoneUptoRow, standIns := [], harness := (true, "f62c6f7241478ec147e0fafd291f0380a4a5871a13d33c5af61de8c0b71ec527"), looks := false }, kinds := [], alts := [], laidByText := true, laidKinds := [.data, .pinned], laidTests := true, laidLooks := .later }
def DeskNoneUptoCardSaid : Prop := Claim7.holds Tryz.pinned (.plain (OpenSpec.upto deskNoneSpec)) deskNoneUptoCard

/-- THE SECOND FORM's CARD OF 'jotterlaw21.NotesNone'. -/
def notesNoneUptoCard : Claim7 := { stood := { row := notesNoneUptoRow, standIns := [], harness := (true, "f62c6f7241478ec147e0fafd291f0380a4a5871a13d33c5af61de8c0b71ec527"), looks := false }, kinds := [], alts := [], laidByText := true, laidKinds := [.data, .pinned], laidTests := true, laidLooks := .later }
def NotesNoneUptoCardSaid : Prop := Claim7.holds Tryz.pinned (.plain (OpenSpec.upto notesNoneSpec)) notesNoneUptoCard

/-- THE SECOND FORM's CARD OF 'jotterlaw22.PlayNone'. -/
def playNoneUptoCard : Claim7 := { stood := { row := playNoneUptoRow, standIns := [], harness := (true, "f62c6f7241478ec147e0fafd291f0380a4a5871a13d33c5af61de8c0b71ec527"), looks := false }, kinds := [], alts := [], laidByText := true, laidKinds := [.data, .pinned], laidTests := true, laidLooks := .later }
def PlayNoneUptoCardSaid : Prop := Claim7.holds Tryz.pinned (.plain (OpenSpec.upto playNoneSpec)) playNoneUptoCard

/-- THE SECOND FORM's CARD OF 'jotterlaw22.PlayMany'. -/
def playManyUptoCard : Claim7 := { stood := { row := playManyUptoRow, standIns := [], harness := (true, "f62c6f7241478ec147e0fafd291f0380a4a5871a13d33c5af61de8c0b71ec527"), looks := false }, kinds := [], alts := [], laidByText := true, laidKinds := [.data, .pinned], laidTests := true, laidLooks := .later }
def PlayManyUptoCardSaid : Prop := Claim7.holds Tryz.pinned (.plain (OpenSpec.upto playManySpec)) playManyUptoCard

/-- THE SECOND FORM's CARD OF 'jottertop.TopFills'. -/
def topFillsUptoCard : Claim7 := { stood := { row := topFillsUptoRow, standIns := [], harness := (true, "f62c6f7241478ec147e0fafd291f0380a4a5871a13d33c5af61de8c0b71ec527"), looks := false }, kinds := [], alts := [], laidByText := true, laidKinds := [.data, .pinned], laidTests := true, laidLooks := .later }
def TopFillsUptoCardSaid : Prop := Claim7.holds Tryz.pinned (.plain (OpenSpec.upto topFillsSpec)) topFillsUptoCard

/-- THE SECOND FORM's CARD OF 'jottertop.TopPictures'. -/
def topPicturesUptoCard : Claim7 := { stood := { row := topPicturesUptoRow, standIns := [], harness := (true, "f62c6f7241478ec147e0fafd291f0380a4a5871a13d33c5af61de8c0b71ec527"), looks := false }, kinds := [], alts := [], laidByText := true, laidKinds := [.data, .pinned], laidTests := true, laidLooks := .later }
def TopPicturesUptoCardSaid : Prop := Claim7.holds Tryz.pinned (.plain (OpenSpec.upto topPicturesSpec)) topPicturesUptoCard
end Rows
end Go.Proofs.YtmifiialedlcnaaGreatDoor
