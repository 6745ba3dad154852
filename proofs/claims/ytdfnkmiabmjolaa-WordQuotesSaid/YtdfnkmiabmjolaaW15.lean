/- Walks of package word: the four that call each other, joined. -/
import Derived.Test.YtdfnkmiabmjolaaW14
namespace Go.Proofs.Ytdfnkmiabmjolaa
open Go.RowKit

structure ScanSaid (n : Nat) : Prop where
  word : WordSaid n
  double : DoubleSaid n
  dollar : DollarSaid n
  param : ParamSaid n

theorem scan_said (n : Nat) : ScanSaid n := by
  induction n using Nat.strongRecOn with
  | _ n ih =>
    refine ⟨word_said n (fun m h => ⟨(ih m h).double, (ih m h).dollar⟩), double_said n (fun m h => (ih m h).dollar), ?_, ?_⟩
    · cases n with
      | zero => intro w g s a d q h ha hs hd hf; exact absurd hf (by omega)
      | succ n => exact dollar_said n (ih n (by omega)).param
    · cases n with
      | zero => intro w g s a d q h ha hs hd hf; exact absurd hf (by omega)
      | succ n => exact param_said n (ih n (by omega)).word

theorem word_calls (w : World) (g : Nat) (s : ByteArray) (a : Nat) (h : ScanAt w g s a 0) (ha : a ≤ s.size) (hs : s.size ≤ 8192) :
    Calls Try.prog 27 #[.pointer (some ⟨g, 0, none⟩), .bool false, .bool false] w (ScanPost w g s 0 (scan (s.data.toList.drop a)) (fun _ => False) (RowVal w (fun _ => False))) :=
  (scan_said _).word w g s a 0 false false h ha hs (by decide) (by rw [fuel, drop_len]; exact Nat.le_refl _)
end Go.Proofs.Ytdfnkmiabmjolaa
