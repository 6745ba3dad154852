/- Walks of package match: a byte held against a piece. -/
import Derived.Test.YtbjejnegfojnmaaM4
import Derived.Test.YtbjejnegfojnmaaRep
namespace Go.Proofs.Ytbjejnegfojnmaa
open Go.RowKit
set_option linter.unusedVariables false
set_option linter.unusedSimpArgs false

def bstr (s : Bytes) : ByteArray := ⟨s.toArray⟩
theorem bstr_size (s : Bytes) : (bstr s).size = s.length := by simp [bstr, ByteArray.size]
theorem bstr_toList (s : Bytes) : (bstr s).data.toList = s := by simp [bstr]
theorem bstr_of (s : ByteArray) : bstr s.data.toList = s := by simp [bstr]
theorem extract_bstr (s : ByteArray) (a b : Nat) : s.extract a b = bstr ((s.data.toList.drop a).take (b - a)) := by
  rw [← Lib.extract_data, bstr_of]

def Piece.k : Piece → Int
  | .star => 42
  | .any => 63
  | .set _ => 91
  | .byte _ => 61
def Piece.t : Piece → Bytes
  | .star => []
  | .any => []
  | .set t => t
  | .byte c => [c]
def Piece.d (x : Piece) : D := .st [.int .u8 x.k, .str (bstr x.t)]
theorem piece_rep {w : World} {S : Nat → Prop} {x : Piece} {cs : List Value} : Rep w S x.d cs ↔ cs = [.int .u8 x.k, .string (bstr x.t)] := by
  constructor
  · rintro ⟨_, _, rfl, rfl, _, _, rfl, rfl, rfl⟩; rfl
  · rintro rfl; exact ⟨_, _, rfl, rfl, _, _, rfl, rfl, rfl⟩

set_option maxRecDepth 100000 in
set_option maxHeartbeats 1000000 in
theorem one_calls (x : Piece) (hx : x.isStar = false) (c : UInt8) (w : World) :
    Calls Try.prog 27 #[.agg #[.int .u8 x.k, .string (bstr x.t)], .int .u8 c.toNat] w fun e w' => e = .returned (.bool (oneL x c)) ∧ Chg (fun _ => False) w w' := by
  cases x with
  | star => cases hx
  | any =>
    simp only [Piece.k, Piece.t, oneL]
    go_enter Try.func27, Try.ntmps27
    go_wp2
    go_ret
    exact ⟨rfl, (Chg.refl _ _).alloc _⟩
  | set t =>
    simp only [Piece.k, Piece.t, oneL]
    go_enter Try.func27, Try.ntmps27
    go_wp2_with (go_at_call 33; refine (in_calls _ _ _).mono ?_; rintro e w' ⟨rfl, m, rfl⟩)
    go_ret
    exact ⟨by rw [bstr_toList]; rfl, ((Chg.refl _ _).alloc _).drewN _⟩
  | byte d =>
    simp only [Piece.k, Piece.t, oneL]
    have h0 : 0 < (bstr [d]).size := by rw [bstr_size]; simp
    have hd : (bstr [d])[0] = d := rfl
    have hz : (bstr [d]).size = 1 := rfl
    have hq := byte_eq d c
    go_enter Try.func27, Try.ntmps27
    go_wp2
    go_ret
    exact ⟨by simp [hd, hq], (Chg.refl _ _).alloc _⟩
end Go.Proofs.Ytbjejnegfojnmaa
