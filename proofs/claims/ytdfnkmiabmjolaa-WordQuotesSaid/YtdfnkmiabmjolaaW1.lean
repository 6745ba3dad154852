/- Walks of package word: its smallest functions. -/
import Derived.Test.YtdfnkmiabmjolaaProg
import Derived.Test.YtdfnkmiabmjolaaRep
import Derived.Test.YtdfnkmiabmjolaaModel
import Derived.Deep.QuietTactic
import Derived.BigQuiet
import Derived.WalkLawsBesides
namespace Go.Proofs.Ytdfnkmiabmjolaa
open Go.RowKit
set_option linter.unusedVariables false
set_option linter.unusedSimpArgs false

/-- The scanner lies in block g. -/
def ScanAt (w : World) (g : Nat) (s : ByteArray) (at_ deep : Int) : Prop := w.heap[g]? = some (.cells #[.string s, .int .i64 at_, .int .i64 deep] 60 (0, 0))

theorem fail_calls (g : Nat) (a e : Int) (w : World) :
    Calls Try.prog 36 #[.pointer (some ⟨g, 0, none⟩), .int .i64 a, .int .i64 e] w fun en w' => en = .panicked [{ v := .iface 57 (.agg #[.int .i64 a, .int .i64 e]), recovered := false }] ∧ w = w' := by
  go_enter Try.func36, Try.ntmps36
  go_wp2
  exact ⟨rfl, rfl, rfl⟩

theorem lit_calls (s : ByteArray) (q : Bool) (w : World) :
    Calls Try.prog 38 #[.string s, .bool q] w fun en w' => en = .returned (.agg #[.int .i64 1, .bool q, .string s, .string ⟨#[]⟩, .slice none 0 0]) ∧ Below w.heap.size w w' := by
  go_enter Try.func38, Try.ntmps38
  go_wp2
  refine bodyPost_ret (v := .agg #[.int .i64 1, .bool q, .string s, .string ⟨#[]⟩, .slice none 0 0]) (by simp [results, Try.results38, go_sem]) rfl ⟨rfl, (Below.refl _ _).alloc (Nat.le_refl _) _⟩
end Go.Proofs.Ytdfnkmiabmjolaa
