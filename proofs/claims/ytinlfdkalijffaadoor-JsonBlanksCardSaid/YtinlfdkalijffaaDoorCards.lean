/-
  DERIVED. GIVEN WITH THE SEED: THE CARDS: each row of YtinlfdkalijffaaDoorRows.lean that lists a variable, with what it lists TIED to the program's text (the seventh form; the later family's looks); each row that meets fmt, with fmt's text TOLD by the authors' own Lean function (tested against real Go, not proved from fmt's source: count such statements apart). THE CARD IS WHAT COUNTS. Prove the row's statement (the work); the ties are given (YtinlfdkalijffaaDoorTie.lean); close each card by the builder's one call (the guide's Derived/Test/ToyasCard.lean, 'card_holds'). Laid BY PROGRAM, IN A SANDBOX (cutbox-door.mjs). By AI agents, Wed Nov 11 2026. No macro, syntax, notation, axiom, sorry.
-/
import Derived.Test.YtinlfdkalijffaaDoorRows
import GoSem.ClaimSeven
namespace Go.Proofs.YtinlfdkalijffaaDoor
namespace Rows

/-- THE TIED CARD OF 'cringlelaw07.JsonParses'. -/
def jsonParsesCard : Claim7 := { stood := { row := jsonParsesRow, standIns := [], harness := (true, "7758abaa903b09d4867123fc2f4830e869398ef28636d81f14bbe87fb6c5768c"), looks := true }, kinds := [], alts := [], laidByText := true, laidKinds := [.data, .pinned], laidTests := true, laidLooks := .later }
def JsonParsesCardSaid : Prop := Claim7.holds Tryd.pinned (.plain (OpenSpec.ofChange jsonParsesSpec)) jsonParsesCard

/-- THE TIED CARD OF 'cringlelaw07.JsonGets'. -/
def jsonGetsCard : Claim7 := { stood := { row := jsonGetsRow, standIns := [], harness := (true, "7758abaa903b09d4867123fc2f4830e869398ef28636d81f14bbe87fb6c5768c"), looks := true }, kinds := [], alts := [], laidByText := true, laidKinds := [.data, .pinned], laidTests := true, laidLooks := .later }
def JsonGetsCardSaid : Prop := Claim7.holds Tryd.pinned (.plain (OpenSpec.ofChange jsonGetsSpec)) jsonGetsCard

/-- THE TIED CARD OF 'cringlelaw07.JsonMay'. -/
def jsonMayCard : Claim7 := { stood := { row := jsonMayRow, standIns := [], harness := (true, "7758abaa903b09d4867123fc2f4830e869398ef28636d81f14bbe87fb6c5768c"), looks := true }, kinds := [], alts := [], laidByText := true, laidKinds := [.data, .pinned], laidTests := true, laidLooks := .later }
def JsonMayCardSaid : Prop := Claim7.holds Tryd.pinned (.plain (OpenSpec.ofChange jsonMaySpec)) jsonMayCard

/-- THE TIED CARD OF 'cringlelaw07.JsonBack'. -/
def jsonBackCard : Claim7 := { stood := { row := jsonBackRow, standIns := [], harness := (true, "7758abaa903b09d4867123fc2f4830e869398ef28636d81f14bbe87fb6c5768c"), looks := true }, kinds := [], alts := [], laidByText := true, laidKinds := [.data, .pinned], laidTests := true, laidLooks := .later }
def JsonBackCardSaid : Prop := Claim7.holds Tryd.pinned (.plain (OpenSpec.ofChange jsonBackSpec)) jsonBackCard

/-- THE TIED CARD OF 'cringlelaw07.JsonRead'. -/
def jsonReadCard : Claim7 := { stood := { row := jsonReadRow, standIns := [], harness := (true, "7758abaa903b09d4867123fc2f4830e869398ef28636d81f14bbe87fb6c5768c"), looks := true }, kinds := [], alts := [], laidByText := true, laidKinds := [.data, .pinned], laidTests := true, laidLooks := .later }
def JsonReadCardSaid : Prop := Claim7.holds Tryd.pinned (.plain (OpenSpec.ofChange jsonReadSpec)) jsonReadCard

/-- THE TIED CARD OF 'cringlelaw07.JsonBlanks'. -/
def jsonBlanksCard : Claim7 := { stood := { row := jsonBlanksRow, standIns := [], harness := (true, "7758abaa903b09d4867123fc2f4830e869398ef28636d81f14bbe87fb6c5768c"), looks := true }, kinds := [], alts := [], laidByText := true, laidKinds := [.data, .pinned], laidTests := true, laidLooks := .later }
def JsonBlanksCardSaid : Prop := Claim7.holds Tryd.pinned (.plain (OpenSpec.ofChange jsonBlanksSpec)) jsonBlanksCard

/-- THE SECOND FORM's CARD OF 'cringlelaw07.JsonParses'. -/
def jsonParsesUptoCard : Claim7 := { stood := { row := jsonParsesUptoRow, standIns := [], harness := (true, "7758abaa903b09d4867123fc2f4830e869398ef28636d81f14bbe87fb6c5768c"), looks := true }, kinds := [], alts := [], laidByText := true, laidKinds := [.data, .pinned], laidTests := true, laidLooks := .later }
def JsonParsesUptoCardSaid : Prop := Claim7.holds Tryd.pinned (.plain (OpenSpec.upto jsonParsesSpec)) jsonParsesUptoCard

/-- THE SECOND FORM's CARD OF 'cringlelaw07.JsonGets'. -/
def jsonGetsUptoCard : Claim7 := { stood := { row := jsonGetsUptoRow, standIns := [], harness := (true, "7758abaa903b09d4867123fc2f4830e869398ef28636d81f14bbe87fb6c5768c"), looks := true }, kinds := [], alts := [], laidByText := true, laidKinds := [.data, .pinned], laidTests := true, laidLooks := .later }
def JsonGetsUptoCardSaid : Prop := Claim7.holds Tryd.pinned (.plain (OpenSpec.upto jsonGetsSpec)) jsonGetsUptoCard

/-- THE SECOND FORM's CARD OF 'cringlelaw07.JsonMay'. -/
def jsonMayUptoCard : Claim7 := { stood := { row := jsonMayUptoRow, standIns := [], harness := (true, "7758abaa903b09d4867123fc2f4830e869398ef28636d81f14bbe87fb6c5768c"), looks := true }, kinds := [], alts := [], laidByText := true, laidKinds := [.data, .pinned], laidTests := true, laidLooks := .later }
def JsonMayUptoCardSaid : Prop := Claim7.holds Tryd.pinned (.plain (OpenSpec.upto jsonMaySpec)) jsonMayUptoCard

/-- THE SECOND FORM's CARD OF 'cringlelaw07.JsonBack'. -/
def jsonBackUptoCard : Claim7 := { stood := { row := jsonBackUptoRow, standIns := [], harness := (true, "7758abaa903b09d4867123fc2f4830e869398ef28636d81f14bbe87fb6c5768c"), looks := true }, kinds := [], alts := [], laidByText := true, laidKinds := [.data, .pinned], laidTests := true, laidLooks := .later }
def JsonBackUptoCardSaid : Prop := Claim7.holds Tryd.pinned (.plain (OpenSpec.upto jsonBackSpec)) jsonBackUptoCard

/-- THE SECOND FORM's CARD OF 'cringlelaw07.JsonRead'. -/
def jsonReadUptoCard : Claim7 := { stood := { row := jsonReadUptoRow, standIns := [], harness := (true, "7758abaa903b09d4867123fc2f4830e869398ef28636d81f14bbe87fb6c5768c"), looks := true }, kinds := [], alts := [], laidByText := true, laidKinds := [.data, .pinned], laidTests := true, laidLooks := .later }
def JsonReadUptoCardSaid : Prop := Claim7.holds Tryd.pinned (.plain (OpenSpec.upto jsonReadSpec)) jsonReadUptoCard

/-- THE SECOND FORM's CARD OF 'cringlelaw07.JsonBlanks'. -/
def jsonBlanksUptoCard : Claim7 := { stood := { row := jsonBlanksUptoRow, standIns := [], harness := (true, "7758abaa903b09d4867123fc2f4830e869398ef28636d81f14bbe87fb6c5768c"), looks := true }, kinds := [], alts := [], laidByText := true, laidKinds := [.data, .pinned], laidTests := true, laidLooks := .later }
def JsonBlanksUptoCardSaid : Prop := Claim7.holds Tryd.pinned (.plain (OpenSpec.upto jsonBlanksSpec)) jsonBlanksUptoCard
end Rows
end Go.Proofs.YtinlfdkalijffaaDoor
