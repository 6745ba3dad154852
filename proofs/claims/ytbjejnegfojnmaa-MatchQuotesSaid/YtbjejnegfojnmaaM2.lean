/- Walks of package match: a byte of a set, sets, pieces. -/
import Derived.Test.YtbjejnegfojnmaaM1
import Derived.Deep.QuietTactic
import Derived.Deep.Draws
import Derived.Lib.IndexBytes
import Derived.WalkKit
namespace Go.Proofs.Ytbjejnegfojnmaa
open Go.RowKit
set_option linter.unusedVariables false
set_option linter.unusedSimpArgs false

theorem data_cons (t : ByteArray) (h : 0 < t.size) : t.data.toList = t[0] :: t.data.toList.drop 1 := byte_drop t 0 h
theorem signL_esc (d : UInt8) (r : Bytes) : signL (92 :: d :: r) = (d, r) := rfl
theorem signL_one (c : UInt8) (r : Bytes) (h : (c == 92) = false ∨ r = []) : signL (c :: r) = (c, r) := by
  unfold signL
  split
  · rename_i heq
    simp only [List.cons.injEq] at heq
    obtain ⟨rfl, rfl⟩ := heq
    rcases h with h | h
    · exact absurd h (by decide)
    · exact absurd h (by simp)
  · rename_i heq
    simp only [List.cons.injEq] at heq
    obtain ⟨rfl, rfl⟩ := heq
    rfl
  · rename_i heq
    simp at heq

set_option maxRecDepth 100000 in
set_option maxHeartbeats 1000000 in
theorem sign_calls (s : ByteArray) (w : World) (h0 : 0 < s.size) :
    Calls Try.prog 38 #[.string s] w fun e w' => (∃ t, e = .returned (.tuple #[.int .u8 (signL s.data.toList).1.toNat, .string t]) ∧ t.data.toList = (signL s.data.toList).2) ∧ ∃ m, w' = w.drewN m := by
  have q1 : (0 : Int) < (s.size : Int) := by omega
  have hq92 : ((s[0].toNat : Int) == 92) = (s[0] == 92) := byte_eqn s[0] 92 (by decide)
  have hc := data_cons s h0
  cases h92 : s[0] == 92
  case true =>
    rw [h92] at hq92
    by_cases h1 : 1 < s.size
    · have q2 : (1 : Int) < (s.size : Int) := by omega
      have q3 : (1 : Int) ≤ (s.size : Int) := by omega
      have hS : signL s.data.toList = (s[1], s.data.toList.drop 2) := by
        rw [hc, byte_drop s 1 h1, show s[0] = 92 by simpa using h92]; rfl
      rw [hS]
      have HT := Lib.hid (Lib.extract_to_end s 1)
      have HZ : Hid ((s.extract 1 s.size).size = s.size - 1) := Lib.hid (by simp [ByteArray.size_extract])
      have hbd := byte_drop s 1 h1
      clear hS hc
      go_enter Try.func38, Try.ntmps38
      go_wp2
      generalize s.extract 1 s.size = u at *
      have hz := HZ.out
      have u0 : 0 < u.size := by omega
      have q4 : (0 : Int) < (u.size : Int) := by omega
      have q5 : (1 : Int) ≤ (u.size : Int) := by omega
      have hu := data_cons u u0
      rw [HT.out, hbd] at hu
      simp only [List.cons.injEq] at hu
      obtain ⟨hu0, hu1⟩ := hu
      have HU0 := Lib.hid hu0; clear hu1 hu0 hbd hz
      go_quiet (fail)
      go_wp2
      go_ret2
      refine ⟨⟨u.extract 1 u.size, by rw [HU0.out]; try rfl, ?_⟩, _, rfl⟩
      rw [Lib.extract_to_end, HT.out, List.drop_drop]
    · have q2 : decide ((1 : Int) < (s.size : Int)) = false := by simp; omega
      have q3 : (1 : Int) ≤ (s.size : Int) := by omega
      have hS : signL s.data.toList = (s[0], s.data.toList.drop 1) := by
        rw [hc, signL_one _ _ (.inr (drop_end s 1 h1))]; rfl
      rw [hS]
      clear hS hc
      go_enter Try.func38, Try.ntmps38
      go_wp2
      go_quiet (fail)
      go_wp2
      go_ret2
      refine ⟨⟨_, rfl, ?_⟩, _, rfl⟩
      rw [Lib.extract_to_end]
  case false =>
    rw [h92] at hq92
    have q3 : (1 : Int) ≤ (s.size : Int) := by omega
    have hS : signL s.data.toList = (s[0], s.data.toList.drop 1) := by
      rw [hc, signL_one _ _ (.inl h92)]; rfl
    rw [hS]
    clear hS hc
    go_enter Try.func38, Try.ntmps38
    go_wp2
    go_quiet (fail)
    go_wp2
    go_ret2
    refine ⟨⟨_, rfl, ?_⟩, _, rfl⟩
    rw [Lib.extract_to_end]
end Go.Proofs.Ytbjejnegfojnmaa
