/- Walks of package match: the ! of a set. -/
import Derived.Test.YtbjejnegfojnmaaM2
namespace Go.Proofs.Ytbjejnegfojnmaa
open Go.RowKit
set_option linter.unusedVariables false
set_option linter.unusedSimpArgs false

theorem extract_bang (s : ByteArray) (h : 0 < s.size) : ((s.extract 0 1).toList == [33]) = (s[0] == 33) := by
  rw [ByteArray.toList_eq, Lib.extract_data, List.drop_zero, data_cons s h]
  simp

set_option maxHeartbeats 1000000 in
theorem bang_calls (s : ByteArray) (w : World) :
    Calls Try.prog 40 #[.string s, .string ⟨#[33]⟩] w fun e w' => e = .returned (.bool (s.data.toList.head? == some 33)) ∧ w = w' := by
  by_cases h0 : 0 < s.size
  · have q1 : (1 : Int) ≤ (s.size : Int) := by omega
    have hx := extract_bang s h0
    have hH : (s.data.toList.head? == some 33) = (s[0] == 33) := by rw [data_cons s h0]; rfl
    rw [hH]
    go_enter Try.func40, Try.ntmps40
    go_wp2
    go_ret
    exact ⟨ret_bool (by simp), rfl⟩
  · have q1 : decide ((1 : Int) ≤ (s.size : Int)) = false := by simp; omega
    have hH : (s.data.toList.head? == some 33) = false := by
      rw [show s.data.toList = [] from drop_end s 0 h0]; rfl
    rw [hH]
    go_enter Try.func40, Try.ntmps40
    go_wp2
    go_ret
    exact ⟨rfl, rfl⟩

theorem cutbang2_calls (s : ByteArray) (w : World) :
    Calls Try.prog 39 #[.string s, .string ⟨#[33]⟩] w fun e w' => (∃ t, e = .returned (.tuple #[.string t, .bool (s.data.toList.head? == some 33)]) ∧ t.data.toList = if s.data.toList.head? == some 33 then s.data.toList.drop 1 else s.data.toList) ∧ w = w' := by
  cases hb : s.data.toList.head? == some 33
  case false =>
    go_enter Try.func39, Try.ntmps39
    go_wp2_with (go_at_call 40; refine (bang_calls _ _).mono ?_; rintro e w' ⟨rfl, rfl⟩; rw [hb])
    go_ret2
    exact ⟨⟨s, rfl, by simp⟩, rfl⟩
  case true =>
    have h0 : 0 < s.size := by
      by_cases h : 0 < s.size
      · exact h
      · rw [show s.data.toList = [] from drop_end s 0 h] at hb; simp at hb
    have q1 : (1 : Int) ≤ (s.size : Int) := by omega
    go_enter Try.func39, Try.ntmps39
    go_wp2_with (go_at_call 40; refine (bang_calls _ _).mono ?_; rintro e w' ⟨rfl, rfl⟩; rw [hb])
    go_ret2
    exact ⟨⟨s.extract 1 s.size, rfl, by rw [Lib.extract_to_end]; simp⟩, rfl⟩
theorem cutbang_calls (s : ByteArray) (w : World) :
    Calls Try.prog 37 #[.string s, .string ⟨#[33]⟩] w fun e w' => (∃ t, e = .returned (.tuple #[.string t, .bool (s.data.toList.head? == some 33)]) ∧ t.data.toList = if s.data.toList.head? == some 33 then s.data.toList.drop 1 else s.data.toList) ∧ w = w' := by
  have h := cutbang2_calls s w
  revert h
  generalize (s.data.toList.head? == some 33) = b
  generalize (if b = true then List.drop 1 s.data.toList else s.data.toList) = L
  intro h
  go_enter Try.func37, Try.ntmps37
  go_wp2_with fail
  refine Calls.mono h ?_
  rintro e w' ⟨⟨t, rfl, ht⟩, rfl⟩
  have HT := Lib.hid ht; clear ht h
  go_wp2
  go_ret2
  exact ⟨⟨t, rfl, HT.out⟩, rfl⟩
end Go.Proofs.Ytbjejnegfojnmaa
