/- Walks of the reference of match: what stands at a place. -/
import Derived.Test.YtbjejnegfojnmaaM14
namespace Go.Proofs.Ytbjejnegfojnmaa
open Go.RowKit
set_option linter.unusedVariables false
set_option linter.unusedSimpArgs false

def Piece.kind : Piece → Int
  | .star => 0
  | .any => 1
  | .set _ => 2
  | .byte _ => 3
def Piece.byte? : Piece → UInt8
  | .byte c => c
  | _ => 0
/-- What stands at a place of a pattern, and where it ends. -/
def PartAt (p : ByteArray) (a : Nat) (x : Piece) (to : Nat) : Prop :=
  a < to ∧ to ≤ p.size ∧ (∀ n, cutF (n + 1) (p.data.toList.drop a) = x :: cutF n (p.data.toList.drop to)) ∧
    match x with
    | .set t => a + 2 ≤ to ∧ p.extract (a + 1) (to - 1) = bstr t
    | .byte c => p.extract (to - 1) to = bstr [c]
    | _ => True
theorem extract_one (s : ByteArray) (a : Nat) (h : a < s.size) : s.extract a (a + 1) = bstr [s[a]] := by
  rw [extract_bstr, byte_drop s a h, show a + 1 - a = 1 by omega]
  rfl

set_option maxRecDepth 100000 in
set_option maxHeartbeats 4000000 in
theorem part_calls (p : ByteArray) (a : Nat) (w : World) (h0 : a < p.size) (hs : p.size ≤ 140737488355328) :
    Calls Try.prog 26 #[.string p, .int .i64 a] w fun e w' => (∃ x to, e = .returned (.tuple #[.int .i64 x.kind, .int .i64 (to : Nat), .int .u8 x.byte?.toNat]) ∧ PartAt p a x to) ∧ ∃ m, w' = w.drewN m := by
  have q0 : (0 : Int) ≤ (a : Int) := by omega
  have q1 : (a : Int) < (p.size : Int) := by omega
  have hq42 : ((p[a].toNat : Int) == 42) = (p[a] == 42) := byte_eqn p[a] 42 (by decide)
  have hq63 : ((p[a].toNat : Int) == 63) = (p[a] == 63) := byte_eqn p[a] 63 (by decide)
  have hq92 : ((p[a].toNat : Int) == 92) = (p[a] == 92) := byte_eqn p[a] 92 (by decide)
  have hq91 : ((p[a].toNat : Int) == 91) = (p[a] == 91) := byte_eqn p[a] 91 (by decide)
  have HD := Lib.hid (byte_drop p a h0)
  cases h42 : p[a] == 42
  case true =>
    rw [h42] at hq42
    have HC : Hid (p[a] = 42) := Lib.hid (by simpa using h42)
    clear hq63 hq92 hq91 h42
    go_enter Try.func26, Try.ntmps26
    go_wp2
    go_ret3
    exact ⟨⟨.star, a + 1, by rfl, by omega, by omega, fun n => by rw [HD.out, HC.out]; rfl, trivial⟩, 0, rfl⟩
  case false =>
    rw [h42] at hq42
    cases h63 : p[a] == 63
    case true =>
      rw [h63] at hq63
      have HC : Hid (p[a] = 63) := Lib.hid (by simpa using h63)
      clear hq92 hq91 h63 h42
      go_enter Try.func26, Try.ntmps26
      go_wp2
      go_ret3
      exact ⟨⟨.any, a + 1, by rfl, by omega, by omega, fun n => by rw [HD.out, HC.out]; rfl, trivial⟩, 0, rfl⟩
    case false =>
      rw [h63] at hq63
      cases h91 : p[a] == 91
      case true =>
        rw [h91] at hq91
        have HC : Hid (p[a] = 91) := Lib.hid (by simpa using h91)
        have hq92' : ((p[a].toNat : Int) == 92) = false := by rw [hq92, show p[a] = 91 from HC.out]; rfl
        clear hq92 h91 h63 h42
        have hE := fun w => setEnd_calls p a w h0 hs
        cases hk : setL (p.data.toList.drop (a + 1)) with
        | none =>
          have HF := Lib.hid (fun n => cutF_open n (p.data.toList.drop (a + 1)) hk)
          rw [show endI a (p.data.toList.drop (a + 1)) = 0 by rw [endI, hk]] at hE
          have HX := Lib.hid (extract_one p a h0)
          have q5 : IntKind.i64.wrap ((a : Int) + 1) = (a : Int) + 1 := IntWalk.i64_in _ (by omega)
          clear hk
          go_enter Try.func26, Try.ntmps26
          go_wp2_with fail
          refine Calls.mono (hE _) ?_
          clear hE
          rintro e w1 ⟨rfl, rfl⟩
          go_wp2
          with_reducible go_quiet (fail)
          clear q5
          go_wp2
          go_ret3
          exact ⟨⟨.byte p[a], a + 1, by rfl, by omega, by omega, fun n => by rw [HD.out]; rw [show p[a] = 91 from HC.out]; exact HF.out n, by show p.extract (a + 1 - 1) (a + 1) = _; rw [Nat.add_sub_cancel]; exact HX.out⟩, nq, rfl⟩
        | some k =>
          have hk2 := setL_le _ _ hk
          rw [drop_len] at hk2
          have HF := Lib.hid (fun n => cutF_set n (p.data.toList.drop (a + 1)) k hk)
          rw [show endI a (p.data.toList.drop (a + 1)) = ((a + k : Nat) : Int) by rw [endI, hk]; simp] at hE
          have HX : Hid (p.extract (a + 1) (a + k - 1) = bstr ((p.data.toList.drop (a + 1)).take (k - 2))) := Lib.hid (by rw [extract_bstr, show a + k - 1 - (a + 1) = k - 2 by omega])
          have q4 : (0 : Int) < ((a + k : Nat) : Int) := by omega
          have q5 : (0 : Int) < (a : Int) + (k : Int) := by omega
          clear hk
          go_enter Try.func26, Try.ntmps26
          go_wp2_with fail
          refine Calls.mono (hE _) ?_
          rintro e w1 ⟨rfl, rfl⟩
          go_wp2_with fail
          refine Calls.mono (hE _) ?_
          clear hE
          rintro e w1 ⟨rfl, rfl⟩
          go_wp2
          go_ret3
          exact ⟨⟨.set ((p.data.toList.drop (a + 1)).take (k - 2)), a + k, by rfl, by omega, by omega, fun n => by rw [HD.out]; rw [show p[a] = 91 from HC.out, HF.out n, List.drop_drop, show a + 1 + (k - 1) = a + k by omega], by omega, HX.out⟩, 0, rfl⟩
      case false =>
        rw [h91] at hq91
        cases h92 : p[a] == 92
        case true =>
          rw [h92] at hq92
          have HC : Hid (p[a] = 92) := Lib.hid (by simpa using h92)
          clear h91 h92 h63 h42
          by_cases h1 : a + 1 < p.size
          · have q2 : (a : Int) + 1 < (p.size : Int) := by omega
            have q3 : (0 : Int) ≤ (a : Int) + 1 := by omega
            have q4 : ((a : Int) + 1).toNat = a + 1 := by omega
            have q5 : IntKind.i64.wrap ((a : Int) + 1) = (a : Int) + 1 := IntWalk.i64_in _ (by omega)
            have q6 : IntKind.i64.wrap ((a : Int) + 2) = (a : Int) + 2 := IntWalk.i64_in _ (by omega)
            have HD1 := Lib.hid (byte_drop p (a + 1) h1)
            have HX := Lib.hid (extract_one p (a + 1) h1)
            go_enter Try.func26, Try.ntmps26
            go_wp2
            with_reducible go_quiet (fail)
            clear q5 q6
            go_wp2
            go_ret3
            exact ⟨⟨.byte p[a + 1], a + 2, by rfl, by omega, by omega, fun n => by rw [HD.out]; rw [show p[a] = 92 from HC.out, HD1.out]; rfl, HX.out⟩, nq, rfl⟩
          · have q2 : decide ((a : Int) + 1 < (p.size : Int)) = false := by rw [decide_eq_false_iff_not]; omega
            have q2' : decide (a + 1 < p.size) = false := by rw [decide_eq_false_iff_not]; omega
            have q5 : IntKind.i64.wrap ((a : Int) + 1) = (a : Int) + 1 := IntWalk.i64_in _ (by omega)
            have HD1 := Lib.hid (drop_end p (a + 1) h1)
            have HX := Lib.hid (extract_one p a h0)
            go_enter Try.func26, Try.ntmps26
            go_wp2
            with_reducible go_quiet (fail)
            clear q5
            go_wp2
            go_ret3
            exact ⟨⟨.byte p[a], a + 1, by rfl, by omega, by omega, fun n => by rw [HD.out, HD1.out]; rw [show p[a] = 92 from HC.out]; cases n <;> rfl, by show p.extract (a + 1 - 1) (a + 1) = _; rw [Nat.add_sub_cancel]; exact HX.out⟩, nq, rfl⟩
        case false =>
          rw [h92] at hq92
          have HF := Lib.hid (fun n => cutF_byte n p[a] (p.data.toList.drop (a + 1)) h42 h63 h92 h91)
          have q5 : IntKind.i64.wrap ((a : Int) + 1) = (a : Int) + 1 := IntWalk.i64_in _ (by omega)
          have HX := Lib.hid (extract_one p a h0)
          clear h91 h92 h63 h42
          go_enter Try.func26, Try.ntmps26
          go_wp2
          with_reducible go_quiet (fail)
          clear q5
          go_wp2
          go_ret3
          exact ⟨⟨.byte p[a], a + 1, by rfl, by omega, by omega, fun n => by rw [HD.out]; exact HF.out n, by show p.extract (a + 1 - 1) (a + 1) = _; rw [Nat.add_sub_cancel]; exact HX.out⟩, nq, rfl⟩
end Go.Proofs.Ytbjejnegfojnmaa
