/-
  DERIVED. GIVEN WITH THE SEED: THE CARDS: each row of YtkjokjogdehonaaGreatDoorRows.lean that lists a variable, with what it lists TIED to the program's text (the seventh form; the later family's looks); each row that meets fmt, with fmt's text TOLD by the authors' own Lean function (tested against real Go, not proved from fmt's source: count such statements apart). THE CARD IS WHAT COUNTS. Prove the row's statement (the work); the ties are given (YtkjokjogdehonaaGreatDoorTie.lean); close each card by the builder's one call (the guide's Derived/Test/ToyasCard.lean, 'card_holds'). Laid BY PROGRAM, IN A SANDBOX (cutbox-door.mjs). By AI agents, Wed Nov 11 2026. No macro, syntax, notation, axiom, sorry.
-/
import Derived.Test.YtkjokjogdehonaaGreatDoorRows
import GoSem.ClaimSeven
namespace Go.Proofs.YtkjokjogdehonaaGreatDoor
namespace Rows

/-- THE TIED CARD OF 'cringlelaw07.JsonMakes'. -/
def jsonMakesCard : Claim7 := { stood := { row := jsonMakesRow, standIns := [], harness := (true, "3b959c3baf907b38b1f1c899eb31b4d06de0f07c033b86a83cb1d45a7074d890"), looks := true }, kinds := [], alts := [], laidByText := true, laidKinds := [.data, .pinned], laidTests := true, laidLooks := .later }
def JsonMakesCardSaid : Prop := Claim7.holds Tryz.pinned (.plain (OpenSpec.ofChange jsonMakesSpec)) jsonMakesCard

/-- THE TIED CARD OF 'cringlelaw22.EntryVals'. -/
def entryValsCard : Claim7 := { stood := { row := entryValsRow, standIns := [], harness := (true, "3b959c3baf907b38b1f1c899eb31b4d06de0f07c033b86a83cb1d45a7074d890"), looks := true }, kinds := [], alts := [], laidByText := true, laidKinds := [.data, .pinned], laidTests := true, laidLooks := .later }
def EntryValsCardSaid : Prop := Claim7.holds Tryz.pinned (.plain (OpenSpec.ofChange entryValsSpec)) entryValsCard

/-- THE TIED CARD OF 'cringlelaw22.EntryParses'. -/
def entryParsesCard : Claim7 := { stood := { row := entryParsesRow, standIns := [], harness := (true, "3b959c3baf907b38b1f1c899eb31b4d06de0f07c033b86a83cb1d45a7074d890"), looks := true }, kinds := [], alts := [], laidByText := true, laidKinds := [.data, .pinned], laidTests := true, laidLooks := .later }
def EntryParsesCardSaid : Prop := Claim7.holds Tryz.pinned (.plain (OpenSpec.ofChange entryParsesSpec)) entryParsesCard

/-- THE TIED CARD OF 'cringlelaw22.EntryBack'. -/
def entryBackCard : Claim7 := { stood := { row := entryBackRow, standIns := [], harness := (true, "3b959c3baf907b38b1f1c899eb31b4d06de0f07c033b86a83cb1d45a7074d890"), looks := true }, kinds := [], alts := [], laidByText := true, laidKinds := [.data, .pinned], laidTests := true, laidLooks := .later }
def EntryBackCardSaid : Prop := Claim7.holds Tryz.pinned (.plain (OpenSpec.ofChange entryBackSpec)) entryBackCard

/-- THE TIED CARD OF 'cringlelaw22.EntryTold'. -/
def entryToldCard : Claim7 := { stood := { row := entryToldRow, standIns := [], harness := (true, "3b959c3baf907b38b1f1c899eb31b4d06de0f07c033b86a83cb1d45a7074d890"), looks := true }, kinds := [], alts := [], laidByText := true, laidKinds := [.data, .pinned], laidTests := true, laidLooks := .later }
def EntryToldCardSaid : Prop := Claim7.holds Tryz.pinned (.plain (OpenSpec.ofChange entryToldSpec)) entryToldCard

/-- THE TIED CARD OF 'cringlelaw25.OpMay'. -/
def opMayCard : Claim7 := { stood := { row := opMayRow, standIns := [], harness := (true, "3b959c3baf907b38b1f1c899eb31b4d06de0f07c033b86a83cb1d45a7074d890"), looks := true }, kinds := [], alts := [], laidByText := true, laidKinds := [.data, .pinned], laidTests := true, laidLooks := .later }
def OpMayCardSaid : Prop := Claim7.holds Tryz.pinned (.plain (OpenSpec.ofChange opMaySpec)) opMayCard

/-- THE TIED CARD OF 'cringlelaw25.OpOne'. -/
def opOneCard : Claim7 := { stood := { row := opOneRow, standIns := [], harness := (true, "3b959c3baf907b38b1f1c899eb31b4d06de0f07c033b86a83cb1d45a7074d890"), looks := true }, kinds := [], alts := [], laidByText := true, laidKinds := [.data, .pinned], laidTests := true, laidLooks := .later }
def OpOneCardSaid : Prop := Claim7.holds Tryz.pinned (.plain (OpenSpec.ofChange opOneSpec)) opOneCard

/-- THE TIED CARD OF 'cringlelaw32.PubBack'. -/
def pubBackCard : Claim7 := { stood := { row := pubBackRow, standIns := [], harness := (true, "3b959c3baf907b38b1f1c899eb31b4d06de0f07c033b86a83cb1d45a7074d890"), looks := true }, kinds := [], alts := [], laidByText := true, laidKinds := [.data, .pinned], laidTests := true, laidLooks := .later }
def PubBackCardSaid : Prop := Claim7.holds Tryz.pinned (.plain (OpenSpec.ofChange pubBackSpec)) pubBackCard

/-- THE TIED CARD OF 'cringlelaw32.PubReads'. -/
def pubReadsCard : Claim7 := { stood := { row := pubReadsRow, standIns := [], harness := (true, "3b959c3baf907b38b1f1c899eb31b4d06de0f07c033b86a83cb1d45a7074d890"), looks := true }, kinds := [], alts := [], laidByText := true, laidKinds := [.data, .pinned], laidTests := true, laidLooks := .later }
def PubReadsCardSaid : Prop := Claim7.holds Tryz.pinned (.plain (OpenSpec.ofChange pubReadsSpec)) pubReadsCard

/-- THE SECOND FORM's CARD OF 'cringlelaw07.JsonMakes'. -/
def jsonMakesUptoCard : Claim7 := { stood := { row := jsonMakesUptoRow, standIns := [], harness := (true, "3b959c3baf907b38b1f1c899eb31b4d06de0f07c033b86a83cb1d45a7074d890"), looks := true }, kinds := [], alts := [], laidByText := true, laidKinds := [.data, .pinned], laidTests := true, laidLooks := .later }
def JsonMakesUptoCardSaid : Prop := Claim7.holds Tryz.pinned (.plain (OpenSpec.upto jsonMakesSpec)) jsonMakesUptoCard

/-- THE SECOND FORM's CARD OF 'cringlelaw22.EntryVals'. -/
def entryValsUptoCard : Claim7 := { stood := { row := entryValsUptoRow, standIns := [], harness := (true, "3b959c3baf907b38b1f1c899eb31b4d06de0f07c033b86a83cb1d45a7074d890"), looks := true }, kinds := [], alts := [], laidByText := true, laidKinds := [.data, .pinned], laidTests := true, laidLooks := .later }
def EntryValsUptoCardSaid : Prop := Claim7.holds Tryz.pinned (.plain (OpenSpec.upto entryValsSpec)) entryValsUptoCard

/-- THE SECOND FORM's CARD OF 'cringlelaw22.EntryParses'. -/
def entryParsesUptoCard : Claim7 := { stood := { row := entryParsesUptoRow, standIns := [], harness := (true, "3b959c3baf907b38b1f1c899eb31b4d06de0f07c033b86a83cb1d45a7074d890"), looks := true }, kinds := [], alts := [], laidByText := true, laidKinds := [.data, .pinned], laidTests := true, laidLooks := .later }
def EntryParsesUptoCardSaid : Prop := Claim7.holds Tryz.pinned (.plain (OpenSpec.upto entryParsesSpec)) entryParsesUptoCard

/-- THE SECOND FORM's CARD OF 'cringlelaw22.EntryBack'. -/
def entryBackUptoCard : Claim7 := { stood := { row := entryBackUptoRow, standIns := [], harness := (true, "3b959c3baf907b38b1f1c899eb31b4d06de0f07c033b86a83cb1d45a7074d890"), looks := true }, kinds := [], alts := [], laidByText := true, laidKinds := [.data, .pinned], laidTests := true, laidLooks := .later }
def EntryBackUptoCardSaid : Prop := Claim7.holds Tryz.pinned (.plain (OpenSpec.upto entryBackSpec)) entryBackUptoCard

/-- THE SECOND FORM's CARD OF 'cringlelaw22.EntryTold'. -/
def entryToldUptoCard : Claim7 := { stood := { row := entryToldUptoRow, standIns := [], harness := (true, "3b959c3baf907b38b1f1c899eb31b4d06de0f07c033b86a83cb1d45a7074d890"), looks := true }, kinds := [], alts := [], laidByText := true, laidKinds := [.data, .pinned], laidTests := true, laidLooks := .later }
def EntryToldUptoCardSaid : Prop := Claim7.holds Tryz.pinned (.plain (OpenSpec.upto entryToldSpec)) entryToldUptoCard

/-- THE SECOND FORM's CARD OF 'cringlelaw25.OpMay'. -/
def opMayUptoCard : Claim7 := { stood := { row := opMayUptoRow, standIns := [], harness := (true, "3b959c3baf907b38b1f1c899eb31b4d06de0f07c033b86a83cb1d45a7074d890"), looks := true }, kinds := [], alts := [], laidByText := true, laidKinds := [.data, .pinned], laidTests := true, laidLooks := .later }
def OpMayUptoCardSaid : Prop := Claim7.holds Tryz.pinned (.plain (OpenSpec.upto opMaySpec)) opMayUptoCard

/-- THE SECOND FORM's CARD OF 'cringlelaw25.OpOne'. -/
def opOneUptoCard : Claim7 := { stood := { row := opOneUptoRow, standIns := [], harness := (true, "3b959c3baf907b38b1f1c899eb31b4d06de0f07c033b86a83cb1d45a7074d890"), looks := true }, kinds := [], alts := [], laidByText := true, laidKinds := [.data, .pinned], laidTests := true, laidLooks := .later }
def OpOneUptoCardSaid : Prop := Claim7.holds Tryz.pinned (.plain (OpenSpec.upto opOneSpec)) opOneUptoCard

/-- THE SECOND FORM's CARD OF 'cringlelaw32.PubBack'. -/
def pubBackUptoCard : Claim7 := { stood := { row := pubBackUptoRow, standIns := [], harness := (true, "3b959c3baf907b38b1f1c899eb31b4d06de0f07c033b86a83cb1d45a7074d890"), looks := true }, kinds := [], alts := [], laidByText := true, laidKinds := [.data, .pinned], laidTests := true, laidLooks := .later }
def PubBackUptoCardSaid : Prop := Claim7.holds Tryz.pinned (.plain (OpenSpec.upto pubBackSpec)) pubBackUptoCard

/-- THE SECOND FORM's CARD OF 'cringlelaw32.PubReads'. -/
def pubReadsUptoCard : Claim7 := { stood := { row := pubReadsUptoRow, standIns := [], harness := (true, "3b959c3baf907b38b1f1c899eb31b4d06de0f07c033b86a83cb1d45a7074d890"), looks := true }, kinds := [], alts := [], laidByText := true, laidKinds := [.data, .pinned], laidTests := true, laidLooks := .later }
def PubReadsUptoCardSaid : Prop := Claim7.holds Tryz.pinned (.plain (OpenSpec.upto pubReadsSpec)) pubReadsUptoCard
end Rows
end Go.Proofs.YtkjokjogdehonaaGreatDoor
