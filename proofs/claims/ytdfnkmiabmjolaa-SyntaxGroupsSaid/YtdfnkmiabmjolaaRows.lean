/-
  No cell of these rows narrows 'for every input' (looked for: loops, veiled, ifaces, maps, wideKeys, modest, calm, conditions, laid).
  DERIVED. THE GIVEN ROWS OF THIS SEAT. 7 by the template 'for every input the law returns true; each argument reads behind the call as it read before'; 0 by the template 'total and deterministic' (their statements: YtdfnkmiabmjolaaTotals.lean).
  GIVEN WITH THE SEED: the statements are not yours to turn. If you find one false, say at which input.
  Laid BY PROGRAM, IN A SANDBOX (cutbox-rows.mjs): the forced cells as the released guide's own fill.sh prints them over the translation 831dae8c411a1a9f… (all of the seat's roots in one cut). By AI agents, Wed Nov 11 2026. No macro, syntax, notation, axiom, sorry.
-/
import Derived.Test.YtdfnkmiabmjolaaChecked
import GoSem.Claim
import GoSem.ClaimJoined
import GoSem.ClaimMapViews
import Derived.JoinedTies
import Derived.KernelRfl
namespace Go.Proofs.Ytdfnkmiabmjolaa
/- THE CELL 'sum', in the pinned program and in every row, IS THE sha256 OF THE DUMP (.gsa) THAT YtdfnkmiabmjolaaProg.lean LOADS. Nothing in Lean hashes anything: it is a label: what it is worth is what the hold of that sum in a sandbox is worth. -/
noncomputable def Try.pinned : Pinned := { name := "ytdfnkmiabmjolaa", sum := "831dae8c411a1a9f531dc4b2624f5f6e3bca81743d9101267a500a0dedcbb7a2", checked := Try.checked }
namespace Rows
def none {H : Type} : Left H := { results := [], args := [] }

/-- 'rehearsallaw07.WordPlaces': WHATEVER THE INPUT: true; the input reads as it did. -/
def wordPlacesSpec : ChangeSpec := { name := "wordPlaces", fn := fun _ => fun
  | [d1, d2] => { results := [.lit (.bool true)], args := [d1, d2] }
  | _ => none }
def wordPlacesRow : OpenClaim := { program := "ytdfnkmiabmjolaa", sum := "831dae8c411a1a9f531dc4b2624f5f6e3bca81743d9101267a500a0dedcbb7a2", func := "rehearsal/rehearsallaw07.WordPlaces", spec := "wordPlaces", inPlace := ["internal/bytealg.IndexByteString"], unfollowed := true, recurses := true, apart := false }
def WordPlacesSaid : Prop := wordPlacesRow.holds Try.pinned (OpenSpec.ofChange wordPlacesSpec)

/-- ITS FALSE NEIGHBOUR: 'it returns false'. Refute it at one input. -/
def wordPlacesWrong : ChangeSpec := { name := "wordPlaces", fn := fun _ => fun
  | [d1, d2] => { results := [.lit (.bool false)], args := [d1, d2] }
  | _ => none }
def WordPlacesWrongFalsely : Prop := wordPlacesRow.holds Try.pinned (OpenSpec.ofChange wordPlacesWrong)

/-- 'rehearsallaw07.WordBytes': WHATEVER THE INPUT: true; the input reads as it did. -/
def wordBytesSpec : ChangeSpec := { name := "wordBytes", fn := fun _ => fun
  | [d1, d2] => { results := [.lit (.bool true)], args := [d1, d2] }
  | _ => none }
def wordBytesRow : OpenClaim := { program := "ytdfnkmiabmjolaa", sum := "831dae8c411a1a9f531dc4b2624f5f6e3bca81743d9101267a500a0dedcbb7a2", func := "rehearsal/rehearsallaw07.WordBytes", spec := "wordBytes", inPlace := ["internal/bytealg.IndexByteString"], unfollowed := true, recurses := true, apart := false }
def WordBytesSaid : Prop := wordBytesRow.holds Try.pinned (OpenSpec.ofChange wordBytesSpec)

/-- ITS FALSE NEIGHBOUR: 'it returns false'. Refute it at one input. -/
def wordBytesWrong : ChangeSpec := { name := "wordBytes", fn := fun _ => fun
  | [d1, d2] => { results := [.lit (.bool false)], args := [d1, d2] }
  | _ => none }
def WordBytesWrongFalsely : Prop := wordBytesRow.holds Try.pinned (OpenSpec.ofChange wordBytesWrong)

/-- 'rehearsallaw07.WordQuotes': WHATEVER THE INPUT: true; the input reads as it did. -/
def wordQuotesSpec : ChangeSpec := { name := "wordQuotes", fn := fun _ => fun
  | [d1, d2] => { results := [.lit (.bool true)], args := [d1, d2] }
  | _ => none }
def wordQuotesRow : OpenClaim := { program := "ytdfnkmiabmjolaa", sum := "831dae8c411a1a9f531dc4b2624f5f6e3bca81743d9101267a500a0dedcbb7a2", func := "rehearsal/rehearsallaw07.WordQuotes", spec := "wordQuotes", inPlace := ["internal/bytealg.IndexByteString"], unfollowed := true, recurses := true, apart := false }
def WordQuotesSaid : Prop := wordQuotesRow.holds Try.pinned (OpenSpec.ofChange wordQuotesSpec)

/-- ITS FALSE NEIGHBOUR: 'it returns false'. Refute it at one input. -/
def wordQuotesWrong : ChangeSpec := { name := "wordQuotes", fn := fun _ => fun
  | [d1, d2] => { results := [.lit (.bool false)], args := [d1, d2] }
  | _ => none }
def WordQuotesWrongFalsely : Prop := wordQuotesRow.holds Try.pinned (OpenSpec.ofChange wordQuotesWrong)

/-- 'rehearsallaw08.SyntaxBlanks': WHATEVER THE INPUT: true; the input reads as it did. -/
def syntaxBlanksSpec : ChangeSpec := { name := "syntaxBlanks", fn := fun _ => fun
  | [d1, d2] => { results := [.lit (.bool true)], args := [d1, d2] }
  | _ => none }
def syntaxBlanksRow : OpenClaim := { program := "ytdfnkmiabmjolaa", sum := "831dae8c411a1a9f531dc4b2624f5f6e3bca81743d9101267a500a0dedcbb7a2", func := "rehearsal/rehearsallaw08.SyntaxBlanks", spec := "syntaxBlanks", inPlace := ["internal/bytealg.IndexByteString", "internal/bytealg.IndexString"], unfollowed := true, recurses := true, named := ["internal/bytealg.MaxLen"], apart := false }
def SyntaxBlanksSaid : Prop := syntaxBlanksRow.holds Try.pinned (OpenSpec.ofChange syntaxBlanksSpec)

/-- ITS FALSE NEIGHBOUR: 'it returns false'. Refute it at one input. -/
def syntaxBlanksWrong : ChangeSpec := { name := "syntaxBlanks", fn := fun _ => fun
  | [d1, d2] => { results := [.lit (.bool false)], args := [d1, d2] }
  | _ => none }
def SyntaxBlanksWrongFalsely : Prop := syntaxBlanksRow.holds Try.pinned (OpenSpec.ofChange syntaxBlanksWrong)

/-- 'rehearsallaw08.SyntaxJoins': WHATEVER THE INPUT: true; the input reads as it did. -/
def syntaxJoinsSpec : ChangeSpec := { name := "syntaxJoins", fn := fun _ => fun
  | [d1, d2] => { results := [.lit (.bool true)], args := [d1, d2] }
  | _ => none }
def syntaxJoinsRow : OpenClaim := { program := "ytdfnkmiabmjolaa", sum := "831dae8c411a1a9f531dc4b2624f5f6e3bca81743d9101267a500a0dedcbb7a2", func := "rehearsal/rehearsallaw08.SyntaxJoins", spec := "syntaxJoins", inPlace := ["internal/bytealg.IndexByteString", "internal/bytealg.IndexString"], unfollowed := true, recurses := true, named := ["internal/bytealg.MaxLen"], apart := false }
def SyntaxJoinsSaid : Prop := syntaxJoinsRow.holds Try.pinned (OpenSpec.ofChange syntaxJoinsSpec)

/-- ITS FALSE NEIGHBOUR: 'it returns false'. Refute it at one input. -/
def syntaxJoinsWrong : ChangeSpec := { name := "syntaxJoins", fn := fun _ => fun
  | [d1, d2] => { results := [.lit (.bool false)], args := [d1, d2] }
  | _ => none }
def SyntaxJoinsWrongFalsely : Prop := syntaxJoinsRow.holds Try.pinned (OpenSpec.ofChange syntaxJoinsWrong)

/-- 'rehearsallaw08.SyntaxGroups': WHATEVER THE INPUT: true; the input reads as it did. -/
def syntaxGroupsSpec : ChangeSpec := { name := "syntaxGroups", fn := fun _ => fun
  | [d1, d2] => { results := [.lit (.bool true)], args := [d1, d2] }
  | _ => none }
def syntaxGroupsRow : OpenClaim := { program := "ytdfnkmiabmjolaa", sum := "831dae8c411a1a9f531dc4b2624f5f6e3bca81743d9101267a500a0dedcbb7a2", func := "rehearsal/rehearsallaw08.SyntaxGroups", spec := "syntaxGroups", inPlace := ["internal/bytealg.IndexByteString", "internal/bytealg.IndexString"], unfollowed := true, recurses := true, named := ["internal/bytealg.MaxLen"], apart := false }
def SyntaxGroupsSaid : Prop := syntaxGroupsRow.holds Try.pinned (OpenSpec.ofChange syntaxGroupsSpec)

/-- ITS FALSE NEIGHBOUR: 'it returns false'. Refute it at one input. -/
def syntaxGroupsWrong : ChangeSpec := { name := "syntaxGroups", fn := fun _ => fun
  | [d1, d2] => { results := [.lit (.bool false)], args := [d1, d2] }
  | _ => none }
def SyntaxGroupsWrongFalsely : Prop := syntaxGroupsRow.holds Try.pinned (OpenSpec.ofChange syntaxGroupsWrong)

/-- 'rehearsallaw08.SyntaxLists': WHATEVER THE INPUT: true; the input reads as it did. -/
def syntaxListsSpec : ChangeSpec := { name := "syntaxLists", fn := fun _ => fun
  | [d] => { results := [.lit (.bool true)], args := [d] }
  | _ => none }
def syntaxListsRow : OpenClaim := { program := "ytdfnkmiabmjolaa", sum := "831dae8c411a1a9f531dc4b2624f5f6e3bca81743d9101267a500a0dedcbb7a2", func := "rehearsal/rehearsallaw08.SyntaxLists", spec := "syntaxLists", inPlace := ["internal/bytealg.IndexByteString", "internal/bytealg.IndexString"], unfollowed := true, recurses := true, named := ["internal/bytealg.MaxLen"], apart := false }
def SyntaxListsSaid : Prop := syntaxListsRow.holds Try.pinned (OpenSpec.ofChange syntaxListsSpec)

/-- ITS FALSE NEIGHBOUR: 'it returns false'. Refute it at one input. -/
def syntaxListsWrong : ChangeSpec := { name := "syntaxLists", fn := fun _ => fun
  | [d] => { results := [.lit (.bool false)], args := [d] }
  | _ => none }
def SyntaxListsWrongFalsely : Prop := syntaxListsRow.holds Try.pinned (OpenSpec.ofChange syntaxListsWrong)

/- THE SECOND FORM. 'bulk': how many values and letters a reading holds, each counted each time it is reached (what is shared counts as often as it is met; a slice's spare places count too). A statement '..UptoSaid' is the law's where the arguments, and the package variables that the reading takes, are together of bulk at most 1048576: NARROWER than '..Said'. Prove '..Said' where nothing that the law and all that it calls make is longer than what came in: it says more and counts as full. Else prove '..UptoSaid'. A law counts once. -/
mutual
def uptoBulk {H : Type} : DataW H → Nat
  | .lit (.string bytes) => bytes.length + 1
  | .lit _ => 1
  | .nil => 1
  | .ptr d => uptoBulk d + 1
  | .slice elems spare => uptoBulkAll elems + uptoBulkAll spare + 1
  | .agg parts => uptoBulkAll parts + 1
  | .iface _ d => uptoBulk d + 1
  | .map entries => uptoBulkEntries entries + 1
  | .held _ => 1
def uptoBulkAll {H : Type} : List (DataW H) → Nat
  | [] => 0
  | d :: r => uptoBulk d + uptoBulkAll r
def uptoBulkEntries {H : Type} : List (Lit × DataW H) → Nat
  | [] => 0
  | x :: r => uptoBulkEntry x + uptoBulkEntries r
def uptoBulkEntry {H : Type} : Lit × DataW H → Nat
  | (.string bytes, d) => bytes.length + uptoBulk d + 1
  | (_, d) => uptoBulk d + 1
 end
def uptoSmall : (H : Type) → List (DataW H) → Bool := fun _ ds => decide (uptoBulkAll ds ≤ 1048576)
def OpenSpec.upto (s : _root_.Go.ChangeSpec) : _root_.Go.OpenSpec := { _root_.Go.OpenSpec.ofChange s with cond := some uptoSmall }

/-- 'rehearsallaw07.WordPlaces', WHERE WHAT IT READS IS OF BULK AT MOST 1048576: true; the input reads as it did. -/
def wordPlacesUptoRow : OpenClaim := { program := "ytdfnkmiabmjolaa", sum := "831dae8c411a1a9f531dc4b2624f5f6e3bca81743d9101267a500a0dedcbb7a2", func := "rehearsal/rehearsallaw07.WordPlaces", spec := "wordPlaces", inPlace := ["internal/bytealg.IndexByteString"], unfollowed := true, recurses := true, apart := false, narrowed := true }
def WordPlacesUptoSaid : Prop := wordPlacesUptoRow.holds Try.pinned (OpenSpec.upto wordPlacesSpec)

/-- 'rehearsallaw07.WordBytes', WHERE WHAT IT READS IS OF BULK AT MOST 1048576: true; the input reads as it did. -/
def wordBytesUptoRow : OpenClaim := { program := "ytdfnkmiabmjolaa", sum := "831dae8c411a1a9f531dc4b2624f5f6e3bca81743d9101267a500a0dedcbb7a2", func := "rehearsal/rehearsallaw07.WordBytes", spec := "wordBytes", inPlace := ["internal/bytealg.IndexByteString"], unfollowed := true, recurses := true, apart := false, narrowed := true }
def WordBytesUptoSaid : Prop := wordBytesUptoRow.holds Try.pinned (OpenSpec.upto wordBytesSpec)

/-- 'rehearsallaw07.WordQuotes', WHERE WHAT IT READS IS OF BULK AT MOST 1048576: true; the input reads as it did. -/
def wordQuotesUptoRow : OpenClaim := { program := "ytdfnkmiabmjolaa", sum := "831dae8c411a1a9f531dc4b2624f5f6e3bca81743d9101267a500a0dedcbb7a2", func := "rehearsal/rehearsallaw07.WordQuotes", spec := "wordQuotes", inPlace := ["internal/bytealg.IndexByteString"], unfollowed := true, recurses := true, apart := false, narrowed := true }
def WordQuotesUptoSaid : Prop := wordQuotesUptoRow.holds Try.pinned (OpenSpec.upto wordQuotesSpec)

/-- 'rehearsallaw08.SyntaxBlanks', WHERE WHAT IT READS IS OF BULK AT MOST 1048576: true; the input reads as it did. -/
def syntaxBlanksUptoRow : OpenClaim := { program := "ytdfnkmiabmjolaa", sum := "831dae8c411a1a9f531dc4b2624f5f6e3bca81743d9101267a500a0dedcbb7a2", func := "rehearsal/rehearsallaw08.SyntaxBlanks", spec := "syntaxBlanks", inPlace := ["internal/bytealg.IndexByteString", "internal/bytealg.IndexString"], unfollowed := true, recurses := true, named := ["internal/bytealg.MaxLen"], apart := false, narrowed := true }
def SyntaxBlanksUptoSaid : Prop := syntaxBlanksUptoRow.holds Try.pinned (OpenSpec.upto syntaxBlanksSpec)

/-- 'rehearsallaw08.SyntaxJoins', WHERE WHAT IT READS IS OF BULK AT MOST 1048576: true; the input reads as it did. -/
def syntaxJoinsUptoRow : OpenClaim := { program := "ytdfnkmiabmjolaa", sum := "831dae8c411a1a9f531dc4b2624f5f6e3bca81743d9101267a500a0dedcbb7a2", func := "rehearsal/rehearsallaw08.SyntaxJoins", spec := "syntaxJoins", inPlace := ["internal/bytealg.IndexByteString", "internal/bytealg.IndexString"], unfollowed := true, recurses := true, named := ["internal/bytealg.MaxLen"], apart := false, narrowed := true }
def SyntaxJoinsUptoSaid : Prop := syntaxJoinsUptoRow.holds Try.pinned (OpenSpec.upto syntaxJoinsSpec)

/-- 'rehearsallaw08.SyntaxGroups', WHERE WHAT IT READS IS OF BULK AT MOST 1048576: true; the input reads as it did. -/
def syntaxGroupsUptoRow : OpenClaim := { program := "ytdfnkmiabmjolaa", sum := "831dae8c411a1a9f531dc4b2624f5f6e3bca81743d9101267a500a0dedcbb7a2", func := "rehearsal/rehearsallaw08.SyntaxGroups", spec := "syntaxGroups", inPlace := ["internal/bytealg.IndexByteString", "internal/bytealg.IndexString"], unfollowed := true, recurses := true, named := ["internal/bytealg.MaxLen"], apart := false, narrowed := true }
def SyntaxGroupsUptoSaid : Prop := syntaxGroupsUptoRow.holds Try.pinned (OpenSpec.upto syntaxGroupsSpec)

/-- 'rehearsallaw08.SyntaxLists', WHERE WHAT IT READS IS OF BULK AT MOST 1048576: true; the input reads as it did. -/
def syntaxListsUptoRow : OpenClaim := { program := "ytdfnkmiabmjolaa", sum := "831dae8c411a1a9f531dc4b2624f5f6e3bca81743d9101267a500a0dedcbb7a2", func := "rehearsal/rehearsallaw08.SyntaxLists", spec := "syntaxLists", inPlace := ["internal/bytealg.IndexByteString", "internal/bytealg.IndexString"], unfollowed := true, recurses := true, named := ["internal/bytealg.MaxLen"], apart := false, narrowed := true }
def SyntaxListsUptoSaid : Prop := syntaxListsUptoRow.holds Try.pinned (OpenSpec.upto syntaxListsSpec)

end Rows
end Go.Proofs.Ytdfnkmiabmjolaa
