/-
  DERIVED. GIVEN WITH THE SEED: THE CARDS: each row of YtdfnkmiabmjolaaGreatDoorRows.lean that lists a variable, with what it lists TIED to the program's text (the seventh form; the later family's looks); each row that meets fmt, with fmt's text TOLD by the authors' own Lean function (tested against real Go, not proved from fmt's source: count such statements apart). THE CARD IS WHAT COUNTS. Prove the row's statement (the work); the ties are given (YtdfnkmiabmjolaaGreatDoorTie.lean); close each card by the builder's one call (the guide's Derived/Test/ToyasCard.lean, 'card_holds'). Laid BY PROGRAM, IN A SANDBOX (cutbox-door.mjs). By AI agents, Wed Nov 11 2026. No macro, syntax, notation, axiom, sorry.
-/
import Derived.Test.YtdfnkmiabmjolaaGreatDoorRows
import GoSem.ClaimSeven
namespace Go.Proofs.YtdfnkmiabmjolaaGreatDoor
namespace Rows

/-- THE TIED CARD OF 'rehearsallaw09.PrintOnce'. -/
def printOnceCard : Claim7 := { stood := { row := printOnceRow, standIns := [], harness := (true, "09d75ad68bd36bc2b7077eaa95d278105de78a1b6702a5d414312c42a87f2866"), looks := true }, kinds := [], alts := [], laidByText := true, laidKinds := [.data, .pinned], laidTests := true, laidLooks := .later }
def PrintOnceCardSaid : Prop := Claim7.holds Tryz.pinned (.plain (OpenSpec.ofChange printOnceSpec)) printOnceCard

/-- THE TIED CARD OF 'rehearsallaw09.PrintJoins'. -/
def printJoinsCard : Claim7 := { stood := { row := printJoinsRow, standIns := [], harness := (true, "09d75ad68bd36bc2b7077eaa95d278105de78a1b6702a5d414312c42a87f2866"), looks := true }, kinds := [], alts := [], laidByText := true, laidKinds := [.data, .pinned], laidTests := true, laidLooks := .later }
def PrintJoinsCardSaid : Prop := Claim7.holds Tryz.pinned (.plain (OpenSpec.ofChange printJoinsSpec)) printJoinsCard

/-- THE TIED CARD OF 'rehearsallaw09.PrintWrites'. -/
def printWritesCard : Claim7 := { stood := { row := printWritesRow, standIns := [], harness := (true, "09d75ad68bd36bc2b7077eaa95d278105de78a1b6702a5d414312c42a87f2866"), looks := true }, kinds := [], alts := [], laidByText := true, laidKinds := [.data, .pinned], laidTests := true, laidLooks := .later }
def PrintWritesCardSaid : Prop := Claim7.holds Tryz.pinned (.plain (OpenSpec.ofChange printWritesSpec)) printWritesCard

/-- THE TIED CARD OF 'rehearsallaw09.PrintSames'. -/
def printSamesCard : Claim7 := { stood := { row := printSamesRow, standIns := [], harness := (true, "09d75ad68bd36bc2b7077eaa95d278105de78a1b6702a5d414312c42a87f2866"), looks := true }, kinds := [], alts := [], laidByText := true, laidKinds := [.data, .pinned], laidTests := true, laidLooks := .later }
def PrintSamesCardSaid : Prop := Claim7.holds Tryz.pinned (.plain (OpenSpec.ofChange printSamesSpec)) printSamesCard

/-- THE SECOND FORM's CARD OF 'rehearsallaw09.PrintOnce'. -/
def printOnceUptoCard : Claim7 := { stood := { row := printOnceUptoRow, standIns := [], harness := (true, "09d75ad68bd36bc2b7077eaa95d278105de78a1b6702a5d414312c42a87f2866"), looks := true }, kinds := [], alts := [], laidByText := true, laidKinds := [.data, .pinned], laidTests := true, laidLooks := .later }
def PrintOnceUptoCardSaid : Prop := Claim7.holds Tryz.pinned (.plain (OpenSpec.upto printOnceSpec)) printOnceUptoCard

/-- THE SECOND FORM's CARD OF 'rehearsallaw09.PrintJoins'. -/
def printJoinsUptoCard : Claim7 := { stood := { row := printJoinsUptoRow, standIns := [], harness := (true, "09d75ad68bd36bc2b7077eaa95d278105de78a1b6702a5d414312c42a87f2866"), looks := true }, kinds := [], alts := [], laidByText := true, laidKinds := [.data, .pinned], laidTests := true, laidLooks := .later }
def PrintJoinsUptoCardSaid : Prop := Claim7.holds Tryz.pinned (.plain (OpenSpec.upto printJoinsSpec)) printJoinsUptoCard

/-- THE SECOND FORM's CARD OF 'rehearsallaw09.PrintWrites'. -/
def printWritesUptoCard : Claim7 := { stood := { row := printWritesUptoRow, standIns := [], harness := (true, "09d75ad68bd36bc2b7077eaa95d278105de78a1b6702a5d414312c42a87f2866"), looks := true }, kinds := [], alts := [], laidByText := true, laidKinds := [.data, .pinned], laidTests := true, laidLooks := .later }
def PrintWritesUptoCardSaid : Prop := Claim7.holds Tryz.pinned (.plain (OpenSpec.upto printWritesSpec)) printWritesUptoCard

/-- THE SECOND FORM's CARD OF 'rehearsallaw09.PrintSames'. -/
def printSamesUptoCard : Claim7 := { stood := { row := printSamesUptoRow, standIns := [], harness := (true, "09d75ad68bd36bc2b7077eaa95d278105de78a1b6702a5d414312c42a87f2866"), looks := true }, kinds := [], alts := [], laidByText := true, laidKinds := [.data, .pinned], laidTests := true, laidLooks := .later }
def PrintSamesUptoCardSaid : Prop := Claim7.holds Tryz.pinned (.plain (OpenSpec.upto printSamesSpec)) printSamesUptoCard
end Rows
end Go.Proofs.YtdfnkmiabmjolaaGreatDoor
