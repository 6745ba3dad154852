/- Walks of package word: what only looks at texts. -/
import Derived.Test.YtdfnkmiabmjolaaW1
import Derived.Test.YtdfnkmiabmjolaaPart
import Derived.Test.YtdfnkmiabmjolaaShelf
import Derived.Lib.Hide
namespace Go.Proofs.Ytdfnkmiabmjolaa
open Go.RowKit
set_option linter.unusedVariables false
set_option linter.unusedSimpArgs false

theorem byte_drop (s : ByteArray) (i : Nat) (h : i < s.size) : s.data.toList.drop i = s[i] :: s.data.toList.drop (i + 1) := by
  rw [List.drop_eq_getElem_cons (by rw [len_data]; exact h)]
  rfl
theorem drop_end (s : ByteArray) (i : Nat) (h : ¬ i < s.size) : s.data.toList.drop i = [] := List.drop_eq_nil_of_le (by rw [len_data]; omega)
theorem ret_int {k : IntKind} {a b : Int} (h : a = b) : Ending.returned (.int k a) = .returned (.int k b) := by rw [h]

theorem letter_calls (n : Int) (w : World) : Calls Try.prog 14 #[.int .u8 n] w fun e w' => e = .returned (.bool (letterB n)) ∧ w = w' := by
  unfold letterB
  by_cases h1 : n = 95
  · subst h1
    go_enter Try.func14, Try.ntmps14
    go_wp2
    go_ret
    exact ⟨by simp, rfl⟩
  · have h1' : (n == 95) = false := by simpa using h1
    by_cases h2 : 97 ≤ n <;> by_cases h3 : n ≤ 122 <;> by_cases h4 : 65 ≤ n <;> by_cases h5 : n ≤ 90
    all_goals first | (exfalso; omega) | skip
    all_goals
      go_enter Try.func14, Try.ntmps14
      go_wp2
      go_ret
      exact ⟨by simp [*], rfl⟩
theorem digit_calls (n : Int) (w : World) : Calls Try.prog 16 #[.int .u8 n] w fun e w' => e = .returned (.bool (digitB n)) ∧ w = w' := by
  unfold digitB
  by_cases h2 : 48 ≤ n <;> by_cases h3 : n ≤ 57
  all_goals
    go_enter Try.func16, Try.ntmps16
    go_wp2
    go_ret
    exact ⟨by simp [*], rfl⟩

theorem indexByte_neg (l : List UInt8) (c : UInt8) : decide (0 ≤ Lib.indexByte l c) = l.contains c := by
  induction l with
  | nil => rfl
  | cons b l ih =>
    have hg := Lib.indexByte_ge l c
    rw [Lib.indexByte, List.contains_cons, ← ih]
    by_cases h : b = c
    · simp [h]
    · have h1 : (b == c) = false := by simpa using h
      have h2 : (c == b) = false := by simpa using fun e => h e.symm
      rw [h1, h2]
      by_cases h3 : Lib.indexByte l c = -1
      · rw [h3]; rfl
      · have h4 : (Lib.indexByte l c == -1) = false := by simpa using h3
        simp only [Bool.false_eq_true, if_false, h4, Bool.false_or, decide_eq_decide]
        omega
theorem code_back (c : UInt8) : ((c.toNat : Int).toNat.toUInt8) = c := by simp
theorem meta_calls (c : UInt8) (w : World) : Calls Try.prog 13 #[.int .u8 c.toNat] w fun e w' => e = .returned (.bool (metaB c)) ∧ w = w' := by
  have h := indexByte_neg metas c
  go_enter Try.func13, Try.ntmps13
  go_wp2_with (go_at_call 28; refine (Try.strings_IndexByte _ _ _).mono ?_; rintro e w' ⟨rfl, rfl⟩)
  go_ret
  exact ⟨congrArg (fun b => Ending.returned (.bool b)) h, rfl⟩
theorem special_calls (c : UInt8) (w : World) : Calls Try.prog 47 #[.int .u8 c.toNat] w fun e w' => e = .returned (.bool (special c)) ∧ w = w' := by
  have h := indexByte_neg specials c
  go_enter Try.func47, Try.ntmps47
  go_wp2_with (go_at_call 28; refine (Try.strings_IndexByte _ _ _).mono ?_; rintro e w' ⟨rfl, rfl⟩)
  go_ret
  exact ⟨congrArg (fun b => Ending.returned (.bool b)) h, rfl⟩

theorem named_cons (s : ByteArray) (h : 0 < s.size) : named s.data.toList = if letterB s[0].toNat then 1 + ((s.data.toList.drop 1).takeWhile alnum).length else 0 := by
  have e := byte_drop s 0 h
  simp only [List.drop_zero, Nat.zero_add] at e
  rw [e]
  rfl
theorem takeWhile_step {p : UInt8 → Bool} (s : ByteArray) (k : Nat) (h : k < s.size) : ((s.data.toList.drop k).takeWhile p).length = if p s[k] then 1 + ((s.data.toList.drop (k + 1)).takeWhile p).length else 0 := by
  rw [byte_drop s k h, List.takeWhile_cons]
  split <;> simp [Nat.add_comm]
theorem takeWhile_end {p : UInt8 → Bool} (s : ByteArray) (k : Nat) (h : ¬ k < s.size) : ((s.data.toList.drop k).takeWhile p).length = 0 := by
  rw [drop_end s k h]
  rfl

theorem isEmpty_pos (s : ByteArray) (h : 0 < s.size) : s.toList.isEmpty = false := by
  rw [ByteArray.toList_eq]
  cases hl : s.data.toList with
  | nil => have := len_data s; rw [hl] at this; simp at this; omega
  | cons _ _ => rfl
theorem isEmpty_zero (s : ByteArray) (h : ¬ 0 < s.size) : s.toList.isEmpty = true := by
  rw [ByteArray.toList_eq]
  have := len_data s
  cases hl : s.data.toList with
  | nil => rfl
  | cons _ _ => rw [hl] at this; simp at this; omega
theorem nil_zero (s : ByteArray) (h : ¬ 0 < s.size) : s.data.toList = [] := by
  have := len_data s
  cases hl : s.data.toList with
  | nil => rfl
  | cons _ _ => rw [hl] at this; simp at this; omega
theorem takeWhile_le {p : UInt8 → Bool} (l : List UInt8) : (l.takeWhile p).length ≤ l.length := List.IsPrefix.length_le (List.takeWhile_prefix p)
theorem drop_len (s : ByteArray) (k : Nat) : (s.data.toList.drop k).length = s.size - k := by rw [List.length_drop, len_data]

set_option maxHeartbeats 1000000 in
theorem named_calls (s : ByteArray) (w : World) (hs : s.size ≤ 140737488355328) : Calls Try.prog 30 #[.string s] w fun e w' => e = .returned (.int .i64 (named s.data.toList)) ∧ w = w' := by
  by_cases h0 : 0 < s.size
  · have hn := named_cons s h0
    have he := isEmpty_pos s h0
    cases hl : letterB s[0].toNat with
    | false =>
      rw [hl] at hn
      have HN := Lib.hid hn; clear hn
      go_enter Try.func30, Try.ntmps30
      go_wp2_with (go_at_call 14; refine (letter_calls _ _).mono ?_; rintro e w' ⟨rfl, rfl⟩)
      go_ret
      exact ⟨ret_int (by rw [HN.out]; simp), rfl⟩
    | true =>
      rw [hl] at hn
      have HN := Lib.hid hn; clear hn
      go_enter Try.func30, Try.ntmps30
      go_wp2_with (go_at_call 14; refine (letter_calls _ _).mono ?_; rintro e w' ⟨rfl, rfl⟩)
      go_loop [3] (fun n => ∃ k : Nat, 1 ≤ k ∧ k ≤ s.size ∧ n = .int .i64 k ∧ Hid (named s.data.toList = k + ((s.data.toList.drop k).takeWhile alnum).length)) (fun n => s.size - (intOf n).toNat)
      case atStart => exact ⟨1, by omega, by omega, rfl, Lib.hid (by rw [HN.out]; simp)⟩
      case round =>
        obtain ⟨k, hk1, hk2, rfl, HK⟩ := hrel
        clear HN hl
        by_cases hlt : k < s.size
        · have hst := takeWhile_step (p := alnum) s k hlt
          have ha : alnum s[k] = (letterB s[k].toNat || digitB s[k].toNat) := rfl
          rw [ha] at hst
          have HS := Lib.hid hst; clear hst ha
          cases h1 : letterB s[k].toNat
          · cases h2 : digitB s[k].toNat
            · go_wp2_with (first | (go_at_call 14; refine (letter_calls _ _).mono ?_; rintro e w' ⟨rfl, rfl⟩) | (go_at_call 16; refine (digit_calls _ _).mono ?_; rintro e w' ⟨rfl, rfl⟩))
              go_ret
              exact ⟨ret_int (by rw [HK.out, HS.out]; simp [h1, h2]), rfl⟩
            · go_wp2_with (first | (go_at_call 14; refine (letter_calls _ _).mono ?_; rintro e w' ⟨rfl, rfl⟩) | (go_at_call 16; refine (digit_calls _ _).mono ?_; rintro e w' ⟨rfl, rfl⟩))
              go_round
              case rel => exact ⟨k + 1, by omega, by omega, by go_num, Lib.hid (by rw [HK.out, HS.out]; simp [h1, h2]; omega)⟩
              case measure => simp [intOf]; omega
          · go_wp2_with (first | (go_at_call 14; refine (letter_calls _ _).mono ?_; rintro e w' ⟨rfl, rfl⟩) | (go_at_call 16; refine (digit_calls _ _).mono ?_; rintro e w' ⟨rfl, rfl⟩))
            go_round
            case rel => exact ⟨k + 1, by omega, by omega, by go_num, Lib.hid (by rw [HK.out, HS.out]; simp [h1]; omega)⟩
            case measure => simp [intOf]; omega
        · have hst := takeWhile_end (p := alnum) s k hlt
          have HS := Lib.hid hst; clear hst
          go_wp2
          go_ret
          exact ⟨ret_int (by rw [HK.out, HS.out]; simp), rfl⟩
  · have he := isEmpty_zero s h0
    have hn := nil_zero s h0
    have HN := Lib.hid hn; clear hn
    go_enter Try.func30, Try.ntmps30
    go_wp2
    go_ret
    exact ⟨ret_int (by rw [HN.out]; rfl), rfl⟩
end Go.Proofs.Ytdfnkmiabmjolaa
