/-
  DERIVED. GIVEN WITH THE SEED: THE CARDS: each row of YtdfnkmiabmjolaaDoorRows.lean that lists a variable, with what it lists TIED to the program's text (the seventh form; the later family's looks); each row that meets fmt, with fmt's text TOLD by the authors' own Lean function (tested against real Go, not proved from fmt's source: count such statements apart). THE CARD IS WHAT COUNTS. Prove the row's statement (the work); the ties are given (YtdfnkmiabmjolaaDoorTie.lean); close each card by the builder's one call (the guide's Derived/Test/ToyasCard.lean, 'card_holds'). Laid BY PROGRAM, IN A SANDBOX (cutbox-door.mjs). By AI agents, Wed Nov 11 2026. No macro, syntax, notation, axiom, sorry.
-/
import Derived.Test.YtdfnkmiabmjolaaDoorRows
import GoSem.ClaimSeven
namespace Go.Proofs.YtdfnkmiabmjolaaDoor
namespace Rows

/-- THE TIED CARD OF 'rehearsallaw07.WordPrints'. -/
def wordPrintsCard : Claim7 := { stood := { row := wordPrintsRow, standIns := [], harness := (true, "3adff940e4a43ddf310d6f37042a23ad384b0022b1e20f43ea9f435c8e3b44db"), looks := true }, kinds := [], alts := [], laidByText := true, laidKinds := [.data, .pinned], laidTests := true, laidLooks := .later }
def WordPrintsCardSaid : Prop := Claim7.holds Tryd.pinned (.plain (OpenSpec.ofChange wordPrintsSpec)) wordPrintsCard

/-- THE SECOND FORM's CARD OF 'rehearsallaw07.WordPrints'. -/
def wordPrintsUptoCard : Claim7 := { stood := { row := wordPrintsUptoRow, standIns := [], harness := (true, "3adff940e4a43ddf310d6f37042a23ad384b0022b1e20f43ea9f435c8e3b44db"), looks := true }, kinds := [], alts := [], laidByText := true, laidKinds := [.data, .pinned], laidTests := true, laidLooks := .later }
def WordPrintsUptoCardSaid : Prop := Claim7.holds Tryd.pinned (.plain (OpenSpec.upto wordPrintsSpec)) wordPrintsUptoCard
end Rows
end Go.Proofs.YtdfnkmiabmjolaaDoor
