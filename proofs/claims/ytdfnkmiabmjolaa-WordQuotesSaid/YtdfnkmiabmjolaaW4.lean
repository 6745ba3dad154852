/- Walks of package word: names, quotes, parentheses. -/
import Derived.Test.YtdfnkmiabmjolaaW3
namespace Go.Proofs.Ytdfnkmiabmjolaa
open Go.RowKit
set_option linter.unusedVariables false
set_option linter.unusedSimpArgs false

theorem ret_bool {a b : Bool} (h : a = b) : Ending.returned (.bool a) = .returned (.bool b) := by rw [h]
set_option maxHeartbeats 1000000 in
theorem name_calls (s : ByteArray) (w : World) (hs : s.size ≤ 140737488355328) : Calls Try.prog 19 #[.string s] w fun e w' => e = .returned (.bool (nameB s.data.toList)) ∧ w = w' := by
  have hl := len_data s
  by_cases h0 : 0 < s.size
  · have he := isEmpty_pos s h0
    have hn : nameB s.data.toList = (decide (s.size ≤ 64) && ((named s.data.toList : Int) == (s.size : Int))) := by
      unfold nameB
      rw [hl]
      have : (s.data.toList != []) = true := by cases h : s.data.toList with | nil => rw [h] at hl; simp at hl; omega | cons _ _ => rfl
      rw [this, Bool.true_and]
      congr 1
      rw [Bool.eq_iff_iff]; simp; omega
    have HN := Lib.hid hn; clear hn hl
    by_cases h1 : s.size ≤ 64
    · go_enter Try.func19, Try.ntmps19
      go_wp2_with (go_at_call 30; refine (named_calls _ _ (by omega)).mono ?_; rintro e w' ⟨rfl, rfl⟩)
      go_ret
      exact ⟨ret_bool (by rw [HN.out]; simp [h1]), rfl⟩
    · go_enter Try.func19, Try.ntmps19
      go_wp2_with (go_at_call 30; refine (named_calls _ _ (by omega)).mono ?_; rintro e w' ⟨rfl, rfl⟩)
      go_ret
      exact ⟨ret_bool (by rw [HN.out]; simp [h1]), rfl⟩
  · have he := isEmpty_zero s h0
    have hn := nil_zero s h0
    have HN := Lib.hid hn; clear hn hl
    go_enter Try.func19, Try.ntmps19
    go_wp2
    go_ret
    exact ⟨ret_bool (by rw [HN.out]; rfl), rfl⟩

/-- 'closed' as Go tells it: a place in the text. -/
def closedI (q : UInt8) (i : Nat) (l : Bytes) : Int := match closed q l with | none => -1 | some k => i + k
theorem closedI_end (q : UInt8) (i : Nat) : closedI q i [] = -1 := rfl
theorem closed_cons (q c : UInt8) (l : Bytes) : closed q (c :: l) = if c == q then some 0 else if c == 92 && q == 34 then (match l with | [] => none | _ :: r' => (closed q r').map (· + 2)) else (closed q l).map (· + 1) := by
  rw [closed.eq_def]
  rfl
theorem closedI_hit (q : UInt8) (i : Nat) (c : UInt8) (l : Bytes) (h : (c == q) = true) : closedI q i (c :: l) = i := by simp [closedI, closed_cons, h]
theorem closedI_skip (q : UInt8) (i : Nat) (c : UInt8) (l : Bytes) (h : (c == q) = false) (h' : (c == 92 && q == 34) = true) : closedI q i (c :: l) = closedI q (i + 2) (l.drop 1) := by
  simp only [closedI, closed_cons, h, h', if_true, Bool.false_eq_true, if_false]
  cases l with
  | nil => rfl
  | cons d l => simp only [List.drop_succ_cons, List.drop_zero]; cases closed q l <;> simp; omega
theorem closedI_step (q : UInt8) (i : Nat) (c : UInt8) (l : Bytes) (h : (c == q) = false) (h' : (c == 92 && q == 34) = false) : closedI q i (c :: l) = closedI q (i + 1) l := by
  simp only [closedI, closed_cons, h, h', Bool.false_eq_true, if_false]
  cases closed q l <;> simp; omega
/-- Bytes are compared by their numbers. -/
theorem byte_eq (c d : UInt8) : ((c.toNat : Int) == (d.toNat : Int)) = (c == d) := by
  rw [Bool.eq_iff_iff]; simp [← UInt8.toNat_inj]; omega
theorem byte_eqn (c : UInt8) (n : Nat) (h : n < 256) : ((c.toNat : Int) == (n : Int)) = (c == n.toUInt8) := by
  rw [Bool.eq_iff_iff]; simp [← UInt8.toNat_inj, Nat.mod_eq_of_lt h]; omega

set_option maxHeartbeats 1000000 in
theorem closed_calls (s : ByteArray) (i : Nat) (w : World) (hi : i < s.size) (hs : s.size ≤ 140737488355328) :
    Calls Try.prog 32 #[.string s, .int .i64 i] w fun e w' => e = .returned (.int .i64 (closedI s[i] (i + 1) (s.data.toList.drop (i + 1)))) ∧ w = w' := by
  generalize hR : closedI s[i] (i + 1) (s.data.toList.drop (i + 1)) = R
  have HR := Lib.hid hR; clear hR
  go_enter Try.func32, Try.ntmps32
  go_wp2
  generalize s[i] = q at *
  go_loop [1] (fun n => ∃ k : Nat, k ≤ s.size + 1 ∧ n = .int .i64 k ∧ Hid (closedI q k (s.data.toList.drop k) = R)) (fun n => s.size + 1 - (intOf n).toNat)
  case atStart => exact ⟨i + 1, by omega, by go_num, HR⟩
  case round =>
    obtain ⟨k, hk2, rfl, HK⟩ := hrel
    clear HR
    by_cases hlt : k < s.size
    · have hd := byte_drop s k hlt
      have HD := Lib.hid hd; clear hd
      have hb := byte_eq s[k] q
      have hb2 : ((s[k].toNat : Int) == 92) = (s[k] == 92) := byte_eqn s[k] 92 (by decide)
      have hb3 : ((q.toNat : Int) == 34) = (q == 34) := byte_eqn q 34 (by decide)
      cases h1 : s[k] == q
      · rw [h1] at hb
        cases h2 : s[k] == 92
        · rw [h2] at hb2
          go_wp2
          go_round
          case rel => exact ⟨k + 1, by omega, by go_num, Lib.hid (by rw [← HK.out, HD.out]; exact (closedI_step _ _ _ _ h1 (by rw [h2]; rfl)).symm)⟩
          case measure => simp [intOf]; omega
        · rw [h2] at hb2
          cases h3 : q == 34
          · rw [h3] at hb3
            go_wp2
            go_round
            case rel => exact ⟨k + 1, by omega, by go_num, Lib.hid (by rw [← HK.out, HD.out]; exact (closedI_step _ _ _ _ h1 (by rw [h2, h3]; rfl)).symm)⟩
            case measure => simp [intOf]; omega
          · rw [h3] at hb3
            go_wp2
            go_round
            case rel => exact ⟨k + 2, by omega, by go_num, Lib.hid (by rw [← HK.out, HD.out, closedI_skip _ _ _ _ h1 (by rw [h2, h3]; rfl), List.drop_drop])⟩
            case measure => simp [intOf]; omega
      · rw [h1] at hb
        go_wp2
        go_ret
        exact ⟨ret_int (by rw [← HK.out, HD.out, closedI_hit _ _ _ _ h1]), rfl⟩
    · have hd := drop_end s k hlt
      have HD := Lib.hid hd; clear hd
      go_wp2
      go_ret
      exact ⟨ret_int (by rw [← HK.out, HD.out]; rfl), rfl⟩
end Go.Proofs.Ytdfnkmiabmjolaa
