/-
  No cell of these rows narrows 'for every input' (looked for: loops, veiled, ifaces, maps, wideKeys, modest, calm, conditions, laid).
  DERIVED. THE GIVEN ROWS OF THIS SEAT. 6 by the template 'for every input the law returns true; each argument reads behind the call as it read before'; 0 by the template 'total and deterministic' (their statements: YtbjejnegfojnmaaTotals.lean).
  GIVEN WITH THE SEED: the statements are not yours to turn. If you find one false, say at which input.
  Laid BY PROGRAM, IN A SANDBOX (cutbox-rows.mjs): the forced cells as the released guide's own fill.sh prints them over the translation 231dbf7636f7d7dd… (all of the seat's roots in one cut). By AI agents, Wed Nov 11 2026. No macro, syntax, notation, axiom, sorry.
-/
import Derived.Test.YtbjejnegfojnmaaChecked
import GoSem.Claim
import GoSem.ClaimJoined
import GoSem.ClaimMapViews
import Derived.JoinedTies
import Derived.KernelRfl
namespace Go.Proofs.Ytbjejnegfojnmaa
/- THE CELL 'sum', in the pinned program and in every row, IS THE sha256 OF THE DUMP (.gsa) THAT YtbjejnegfojnmaaProg.lean LOADS. Nothing in Lean hashes anything: it is a label: what it is worth is what the hold of that sum in a sandbox is worth. -/
noncomputable def Try.pinned : Pinned := { name := "ytbjejnegfojnmaa", sum := "231dbf7636f7d7ddcb4fa1c14d13e0dff29ead2d5f848a779f268c688523b16d", checked := Try.checked }
namespace Rows
def none {H : Type} : Left H := { results := [], args := [] }

/-- 'rehearsallaw02.MatchFits': WHATEVER THE INPUT: true; the input reads as it did. -/
def matchFitsSpec : ChangeSpec := { name := "matchFits", fn := fun _ => fun
  | [d1, d2] => { results := [.lit (.bool true)], args := [d1, d2] }
  | _ => none }
def matchFitsRow : OpenClaim := { program := "ytbjejnegfojnmaa", sum := "231dbf7636f7d7ddcb4fa1c14d13e0dff29ead2d5f848a779f268c688523b16d", func := "rehearsal/rehearsallaw02.MatchFits", spec := "matchFits", apart := false }
def MatchFitsSaid : Prop := matchFitsRow.holds Try.pinned (OpenSpec.ofChange matchFitsSpec)

/-- ITS FALSE NEIGHBOUR: 'it returns false'. Refute it at one input. -/
def matchFitsWrong : ChangeSpec := { name := "matchFits", fn := fun _ => fun
  | [d1, d2] => { results := [.lit (.bool false)], args := [d1, d2] }
  | _ => none }
def MatchFitsWrongFalsely : Prop := matchFitsRow.holds Try.pinned (OpenSpec.ofChange matchFitsWrong)

/-- 'rehearsallaw02.MatchCuts': WHATEVER THE INPUT: true; the input reads as it did. -/
def matchCutsSpec : ChangeSpec := { name := "matchCuts", fn := fun _ => fun
  | [d1, d2, d3, d4] => { results := [.lit (.bool true)], args := [d1, d2, d3, d4] }
  | _ => none }
def matchCutsRow : OpenClaim := { program := "ytbjejnegfojnmaa", sum := "231dbf7636f7d7ddcb4fa1c14d13e0dff29ead2d5f848a779f268c688523b16d", func := "rehearsal/rehearsallaw02.MatchCuts", spec := "matchCuts", apart := false }
def MatchCutsSaid : Prop := matchCutsRow.holds Try.pinned (OpenSpec.ofChange matchCutsSpec)

/-- ITS FALSE NEIGHBOUR: 'it returns false'. Refute it at one input. -/
def matchCutsWrong : ChangeSpec := { name := "matchCuts", fn := fun _ => fun
  | [d1, d2, d3, d4] => { results := [.lit (.bool false)], args := [d1, d2, d3, d4] }
  | _ => none }
def MatchCutsWrongFalsely : Prop := matchCutsRow.holds Try.pinned (OpenSpec.ofChange matchCutsWrong)

/-- 'rehearsallaw02.MatchStars': WHATEVER THE INPUT: true; the input reads as it did. -/
def matchStarsSpec : ChangeSpec := { name := "matchStars", fn := fun _ => fun
  | [d1, d2] => { results := [.lit (.bool true)], args := [d1, d2] }
  | _ => none }
def matchStarsRow : OpenClaim := { program := "ytbjejnegfojnmaa", sum := "231dbf7636f7d7ddcb4fa1c14d13e0dff29ead2d5f848a779f268c688523b16d", func := "rehearsal/rehearsallaw02.MatchStars", spec := "matchStars", apart := false }
def MatchStarsSaid : Prop := matchStarsRow.holds Try.pinned (OpenSpec.ofChange matchStarsSpec)

/-- ITS FALSE NEIGHBOUR: 'it returns false'. Refute it at one input. -/
def matchStarsWrong : ChangeSpec := { name := "matchStars", fn := fun _ => fun
  | [d1, d2] => { results := [.lit (.bool false)], args := [d1, d2] }
  | _ => none }
def MatchStarsWrongFalsely : Prop := matchStarsRow.holds Try.pinned (OpenSpec.ofChange matchStarsWrong)

/-- 'rehearsallaw02.MatchShort': WHATEVER THE INPUT: true; the input reads as it did. -/
def matchShortSpec : ChangeSpec := { name := "matchShort", fn := fun _ => fun
  | [d1, d2, d3] => { results := [.lit (.bool true)], args := [d1, d2, d3] }
  | _ => none }
def matchShortRow : OpenClaim := { program := "ytbjejnegfojnmaa", sum := "231dbf7636f7d7ddcb4fa1c14d13e0dff29ead2d5f848a779f268c688523b16d", func := "rehearsal/rehearsallaw02.MatchShort", spec := "matchShort", apart := false }
def MatchShortSaid : Prop := matchShortRow.holds Try.pinned (OpenSpec.ofChange matchShortSpec)

/-- ITS FALSE NEIGHBOUR: 'it returns false'. Refute it at one input. -/
def matchShortWrong : ChangeSpec := { name := "matchShort", fn := fun _ => fun
  | [d1, d2, d3] => { results := [.lit (.bool false)], args := [d1, d2, d3] }
  | _ => none }
def MatchShortWrongFalsely : Prop := matchShortRow.holds Try.pinned (OpenSpec.ofChange matchShortWrong)

/-- 'rehearsallaw02.MatchSets': WHATEVER THE INPUT: true; the input reads as it did. -/
def matchSetsSpec : ChangeSpec := { name := "matchSets", fn := fun _ => fun
  | [d1, d2, d3] => { results := [.lit (.bool true)], args := [d1, d2, d3] }
  | _ => none }
def matchSetsRow : OpenClaim := { program := "ytbjejnegfojnmaa", sum := "231dbf7636f7d7ddcb4fa1c14d13e0dff29ead2d5f848a779f268c688523b16d", func := "rehearsal/rehearsallaw02.MatchSets", spec := "matchSets", apart := false }
def MatchSetsSaid : Prop := matchSetsRow.holds Try.pinned (OpenSpec.ofChange matchSetsSpec)

/-- ITS FALSE NEIGHBOUR: 'it returns false'. Refute it at one input. -/
def matchSetsWrong : ChangeSpec := { name := "matchSets", fn := fun _ => fun
  | [d1, d2, d3] => { results := [.lit (.bool false)], args := [d1, d2, d3] }
  | _ => none }
def MatchSetsWrongFalsely : Prop := matchSetsRow.holds Try.pinned (OpenSpec.ofChange matchSetsWrong)

/-- 'rehearsallaw02.MatchQuotes': WHATEVER THE INPUT: true; the input reads as it did. -/
def matchQuotesSpec : ChangeSpec := { name := "matchQuotes", fn := fun _ => fun
  | [d1, d2] => { results := [.lit (.bool true)], args := [d1, d2] }
  | _ => none }
def matchQuotesRow : OpenClaim := { program := "ytbjejnegfojnmaa", sum := "231dbf7636f7d7ddcb4fa1c14d13e0dff29ead2d5f848a779f268c688523b16d", func := "rehearsal/rehearsallaw02.MatchQuotes", spec := "matchQuotes", inPlace := ["internal/bytealg.IndexByteString", "internal/abi.NoEscape"], apart := false }
def MatchQuotesSaid : Prop := matchQuotesRow.holds Try.pinned (OpenSpec.ofChange matchQuotesSpec)

/-- ITS FALSE NEIGHBOUR: 'it returns false'. Refute it at one input. -/
def matchQuotesWrong : ChangeSpec := { name := "matchQuotes", fn := fun _ => fun
  | [d1, d2] => { results := [.lit (.bool false)], args := [d1, d2] }
  | _ => none }
def MatchQuotesWrongFalsely : Prop := matchQuotesRow.holds Try.pinned (OpenSpec.ofChange matchQuotesWrong)

/- THE SECOND FORM. 'bulk': how many values and letters a reading holds, each counted each time it is reached (what is shared counts as often as it is met; a slice's spare places count too). A statement '..UptoSaid' is the law's where the arguments, and the package variables that the reading takes, are together of bulk at most 1048576: NARROWER than '..Said'. Prove '..Said' where nothing that the law and all that it calls make is longer than what came in: it says more and counts as full. Else prove '..UptoSaid'. A law counts once. -/
mutual
def uptoBulk {H : Type} : DataW H → Nat
  | .lit (.string bytes) => bytes.length + 1
  | .lit _ => 1
  | .nil => 1
  | .ptr d => uptoBulk d + 1
  | .slice elems spare => uptoBulkAll elems + uptoBulkAll spare + 1
  | .agg parts => uptoBulkAll parts + 1
  | .iface _ d => uptoBulk d + 1
  | .map entries => uptoBulkEntries entries + 1
  | .held _ => 1
def uptoBulkAll {H : Type} : List (DataW H) → Nat
  | [] => 0
  | d :: r => uptoBulk d + uptoBulkAll r
def uptoBulkEntries {H : Type} : List (Lit × DataW H) → Nat
  | [] => 0
  | x :: r => uptoBulkEntry x + uptoBulkEntries r
def uptoBulkEntry {H : Type} : Lit × DataW H → Nat
  | (.string bytes, d) => bytes.length + uptoBulk d + 1
  | (_, d) => uptoBulk d + 1
 end
def uptoSmall : (H : Type) → List (DataW H) → Bool := fun _ ds => decide (uptoBulkAll ds ≤ 1048576)
def OpenSpec.upto (s : _root_.Go.ChangeSpec) : _root_.Go.OpenSpec := { _root_.Go.OpenSpec.ofChange s with cond := some uptoSmall }

/-- 'rehearsallaw02.MatchFits', WHERE WHAT IT READS IS OF BULK AT MOST 1048576: true; the input reads as it did. -/
def matchFitsUptoRow : OpenClaim := { program := "ytbjejnegfojnmaa", sum := "231dbf7636f7d7ddcb4fa1c14d13e0dff29ead2d5f848a779f268c688523b16d", func := "rehearsal/rehearsallaw02.MatchFits", spec := "matchFits", apart := false, narrowed := true }
def MatchFitsUptoSaid : Prop := matchFitsUptoRow.holds Try.pinned (OpenSpec.upto matchFitsSpec)

/-- 'rehearsallaw02.MatchCuts', WHERE WHAT IT READS IS OF BULK AT MOST 1048576: true; the input reads as it did. -/
def matchCutsUptoRow : OpenClaim := { program := "ytbjejnegfojnmaa", sum := "231dbf7636f7d7ddcb4fa1c14d13e0dff29ead2d5f848a779f268c688523b16d", func := "rehearsal/rehearsallaw02.MatchCuts", spec := "matchCuts", apart := false, narrowed := true }
def MatchCutsUptoSaid : Prop := matchCutsUptoRow.holds Try.pinned (OpenSpec.upto matchCutsSpec)

/-- 'rehearsallaw02.MatchStars', WHERE WHAT IT READS IS OF BULK AT MOST 1048576: true; the input reads as it did. -/
def matchStarsUptoRow : OpenClaim := { program := "ytbjejnegfojnmaa", sum := "231dbf7636f7d7ddcb4fa1c14d13e0dff29ead2d5f848a779f268c688523b16d", func := "rehearsal/rehearsallaw02.MatchStars", spec := "matchStars", apart := false, narrowed := true }
def MatchStarsUptoSaid : Prop := matchStarsUptoRow.holds Try.pinned (OpenSpec.upto matchStarsSpec)

/-- 'rehearsallaw02.MatchShort', WHERE WHAT IT READS IS OF BULK AT MOST 1048576: true; the input reads as it did. -/
def matchShortUptoRow : OpenClaim := { program := "ytbjejnegfojnmaa", sum := "231dbf7636f7d7ddcb4fa1c14d13e0dff29ead2d5f848a779f268c688523b16d", func := "rehearsal/rehearsallaw02.MatchShort", spec := "matchShort", apart := false, narrowed := true }
def MatchShortUptoSaid : Prop := matchShortUptoRow.holds Try.pinned (OpenSpec.upto matchShortSpec)

/-- 'rehearsallaw02.MatchSets', WHERE WHAT IT READS IS OF BULK AT MOST 1048576: true; the input reads as it did. -/
def matchSetsUptoRow : OpenClaim := { program := "ytbjejnegfojnmaa", sum := "231dbf7636f7d7ddcb4fa1c14d13e0dff29ead2d5f848a779f268c688523b16d", func := "rehearsal/rehearsallaw02.MatchSets", spec := "matchSets", apart := false, narrowed := true }
def MatchSetsUptoSaid : Prop := matchSetsUptoRow.holds Try.pinned (OpenSpec.upto matchSetsSpec)

/-- 'rehearsallaw02.MatchQuotes', WHERE WHAT IT READS IS OF BULK AT MOST 1048576: true; the input reads as it did. -/
def matchQuotesUptoRow : OpenClaim := { program := "ytbjejnegfojnmaa", sum := "231dbf7636f7d7ddcb4fa1c14d13e0dff29ead2d5f848a779f268c688523b16d", func := "rehearsal/rehearsallaw02.MatchQuotes", spec := "matchQuotes", inPlace := ["internal/bytealg.IndexByteString", "internal/abi.NoEscape"], apart := false, narrowed := true }
def MatchQuotesUptoSaid : Prop := matchQuotesUptoRow.holds Try.pinned (OpenSpec.upto matchQuotesSpec)

end Rows
end Go.Proofs.Ytbjejnegfojnmaa
