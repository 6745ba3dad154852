/- Walks of the reference's smaller functions of words. -/
import Derived.Test.YtdfnkmiabmjolaaW19
namespace Go.Proofs.Ytdfnkmiabmjolaa
open Go.RowKit
set_option linter.unusedVariables false
set_option linter.unusedSimpArgs false

theorem rletter_calls (n : Int) (w : World) : Calls Try.prog 15 #[.int .u8 n] w fun e w' => e = .returned (.bool (letterB n)) ∧ w = w' := by
  unfold letterB
  by_cases h1 : n = 95
  · subst h1
    go_enter Try.func15, Try.ntmps15
    go_wp2
    go_ret
    exact ⟨by simp, rfl⟩
  · have h1' : (n == 95) = false := by simpa using h1
    by_cases h2 : 97 ≤ n <;> by_cases h3 : n ≤ 122 <;> by_cases h4 : 65 ≤ n <;> by_cases h5 : n ≤ 90
    all_goals first | (exfalso; omega) | skip
    all_goals
      go_enter Try.func15, Try.ntmps15
      go_wp2
      go_ret
      exact ⟨by simp [*], rfl⟩
theorem rdigit_calls (n : Int) (w : World) : Calls Try.prog 17 #[.int .u8 n] w fun e w' => e = .returned (.bool (digitB n)) ∧ w = w' := by
  unfold digitB
  by_cases h2 : 48 ≤ n <;> by_cases h3 : n ≤ 57
  all_goals
    go_enter Try.func17, Try.ntmps17
    go_wp2
    go_ret
    exact ⟨by simp [*], rfl⟩


set_option maxHeartbeats 1000000 in
theorem rhas_calls (s : ByteArray) (c : UInt8) (w : World) (hs : s.size ≤ 140737488355328) : Calls Try.prog 29 #[.string s, .int .u8 c.toNat] w fun e w' => e = .returned (.bool (s.data.toList.contains c)) ∧ w = w' := by
  generalize hR : s.data.toList.contains c = R
  have HR := Lib.hid hR; clear hR
  go_enter Try.func29, Try.ntmps29
  go_wp2
  go_loop [5] (fun n => ∃ k : Nat, k ≤ s.size ∧ n = .int .i64 k ∧ Hid ((s.data.toList.drop k).contains c = R)) (fun n => s.size - (intOf n).toNat)
  case atStart => exact ⟨0, by omega, rfl, Lib.hid (by simpa using HR.out)⟩
  case round =>
    obtain ⟨k, hk, rfl, HK⟩ := hrel
    by_cases hlt : k < s.size
    · have HD := Lib.hid (byte_drop s k hlt)
      have hb := byte_eq s[k] c
      cases hc : s[k] == c
      · rw [hc] at hb
        go_wp2
        go_round
        case rel => exact ⟨k + 1, by omega, by go_num, Lib.hid (by rw [← HK.out, HD.out, List.contains_cons, byte_comm, hc]; rfl)⟩
        case measure => simp [intOf]; omega
      · rw [hc] at hb
        have HR1 : Hid (R = true) := Lib.hid (by rw [← HK.out, HD.out, List.contains_cons, byte_comm, hc]; rfl)
        go_wp2
        go_ret
        exact ⟨ret_bool HR1.out.symm, rfl⟩
    · have HR1 : Hid (R = false) := Lib.hid (by rw [← HK.out, drop_end s k hlt]; rfl)
      go_wp2
      go_ret
      exact ⟨ret_bool HR1.out.symm, rfl⟩

theorem rmeta_calls (c : UInt8) (w : World) : Calls Try.prog 18 #[.int .u8 c.toNat] w fun e w' => e = .returned (.bool (metaB c)) ∧ w = w' := by
  have h : Calls Try.prog 29 #[.string ⟨#[32, 9, 10, 59, 38, 124, 60, 62, 40, 41]⟩, .int .u8 c.toNat] w fun e w' => e = .returned (.bool (metaB c)) ∧ w = w' := rhas_calls ⟨#[32, 9, 10, 59, 38, 124, 60, 62, 40, 41]⟩ c w (by decide)
  generalize metaB c = b at h ⊢
  go_enter Try.func18, Try.ntmps18
  go_wp2_with fail
  refine Calls.mono h ?_
  rintro e w' ⟨rfl, rfl⟩
  go_wp2
  go_ret
  exact ⟨rfl, rfl⟩

set_option maxHeartbeats 1000000 in
theorem rnameat_calls (s : ByteArray) (w : World) (hs : s.size ≤ 140737488355328) : Calls Try.prog 31 #[.string s, .int .i64 0] w fun e w' => e = .returned (.int .i64 (named s.data.toList)) ∧ w = w' := by
  go_enter Try.func31, Try.ntmps31
  go_wp2
  go_loop [5] (fun n => ∃ k : Nat, k ≤ s.size ∧ n = .int .i64 k ∧ Hid (k = 0 ∨ named s.data.toList = k + ((s.data.toList.drop k).takeWhile alnum).length)) (fun n => s.size - (intOf n).toNat)
  case atStart => exact ⟨0, by omega, rfl, Lib.hid (.inl rfl)⟩
  case round =>
    obtain ⟨k, hk, rfl, HK⟩ := hrel
    by_cases hlt : k < s.size
    · have hn1 : (0 : Int) ≤ (k : Int) := by omega
      have hn2 : (k : Int) < (s.size : Int) := by omega
      by_cases hk0 : k = 0
      · subst hk0
        have HN := Lib.hid (named_cons s hlt)
        cases h1 : letterB s[0].toNat
        · go_wp2_with (first | (go_at_call 15; refine (rletter_calls _ _).mono ?_; rintro e w' ⟨rfl, rfl⟩) | (go_at_call 17; refine (rdigit_calls _ _).mono ?_; rintro e w' ⟨rfl, rfl⟩))
          go_ret
          exact ⟨ret_int (by rw [HN.out, h1]; rfl), rfl⟩
        · go_wp2_with (first | (go_at_call 15; refine (rletter_calls _ _).mono ?_; rintro e w' ⟨rfl, rfl⟩) | (go_at_call 17; refine (rdigit_calls _ _).mono ?_; rintro e w' ⟨rfl, rfl⟩))
          go_round
          case rel => exact ⟨1, by omega, by go_num, Lib.hid (.inr (by rw [HN.out, h1]; rfl))⟩
          case measure => simp [intOf]; omega
      · have hkp : (0 : Int) < (k : Int) := by omega
        have hst := takeWhile_step (p := alnum) s k hlt
        have ha : alnum s[k] = (letterB s[k].toNat || digitB s[k].toNat) := rfl
        rw [ha] at hst
        have HS := Lib.hid hst; clear hst ha
        have HK1 : Hid (named s.data.toList = k + ((s.data.toList.drop k).takeWhile alnum).length) := Lib.hid (HK.out.resolve_left hk0)
        cases h1 : letterB s[k].toNat
        · cases h2 : digitB s[k].toNat
          · go_wp2_with (first | (go_at_call 15; refine (rletter_calls _ _).mono ?_; rintro e w' ⟨rfl, rfl⟩) | (go_at_call 17; refine (rdigit_calls _ _).mono ?_; rintro e w' ⟨rfl, rfl⟩))
            go_ret
            exact ⟨ret_int (by rw [HK1.out, HS.out]; simp [h1, h2]), rfl⟩
          · go_wp2_with (first | (go_at_call 15; refine (rletter_calls _ _).mono ?_; rintro e w' ⟨rfl, rfl⟩) | (go_at_call 17; refine (rdigit_calls _ _).mono ?_; rintro e w' ⟨rfl, rfl⟩))
            go_round
            case rel => exact ⟨k + 1, by omega, by go_num, Lib.hid (.inr (by rw [HK1.out, HS.out]; simp [h1, h2]; omega))⟩
            case measure => simp [intOf]; omega
        · go_wp2_with (first | (go_at_call 15; refine (rletter_calls _ _).mono ?_; rintro e w' ⟨rfl, rfl⟩) | (go_at_call 17; refine (rdigit_calls _ _).mono ?_; rintro e w' ⟨rfl, rfl⟩))
          go_round
          case rel => exact ⟨k + 1, by omega, by go_num, Lib.hid (.inr (by rw [HK1.out, HS.out]; simp [h1]; omega))⟩
          case measure => simp [intOf]; omega
    · have hn2 : decide ((k : Int) < (s.size : Int)) = false := by simp; omega
      have HN : Hid (named s.data.toList = k) := Lib.hid (by
        rcases HK.out with h | h
        · subst h
          rw [nil_zero s hlt]; rfl
        · rw [h, takeWhile_end s k hlt]; rfl)
      go_wp2
      go_ret
      exact ⟨ret_int (by rw [HN.out]), rfl⟩

set_option maxHeartbeats 1000000 in
theorem rname_calls (s : ByteArray) (w : World) (hs : s.size ≤ 140737488355328) : Calls Try.prog 20 #[.string s] w fun e w' => e = .returned (.bool (nameB s.data.toList)) ∧ w = w' := by
  have hl := len_data s
  by_cases h0 : 0 < s.size
  · have hn : nameB s.data.toList = (decide (s.size ≤ 64) && ((named s.data.toList : Int) == (s.size : Int))) := by
      unfold nameB
      rw [hl]
      have : (s.data.toList != []) = true := by cases h : s.data.toList with | nil => rw [h] at hl; simp at hl; omega | cons _ _ => rfl
      rw [this, Bool.true_and]
      congr 1
      rw [Bool.eq_iff_iff]; simp; omega
    have HN := Lib.hid hn; clear hn hl
    by_cases h1 : s.size ≤ 64
    · go_enter Try.func20, Try.ntmps20
      go_wp2_with (go_at_call 31; refine (rnameat_calls _ _ (by assumption)).mono ?_; rintro e w' ⟨rfl, rfl⟩)
      go_ret
      exact ⟨ret_bool (by rw [HN.out]; simp [h1]), rfl⟩
    · go_enter Try.func20, Try.ntmps20
      go_wp2_with (go_at_call 31; refine (rnameat_calls _ _ (by assumption)).mono ?_; rintro e w' ⟨rfl, rfl⟩)
      go_ret
      exact ⟨ret_bool (by rw [HN.out]; simp [h1]), rfl⟩
  · have hn := nil_zero s h0
    have h0' : s.size = 0 := by omega
    have HN := Lib.hid hn; clear hn hl
    go_enter Try.func20, Try.ntmps20
    go_wp2
    go_ret
    exact ⟨ret_bool (by rw [HN.out]; rfl), rfl⟩

/-- In quotes, or not: what is still to come. -/
def insideQ (n d k : Nat) (q : UInt8) (s : ByteArray) : Int :=
  if q == 0 then insideI n d k (s.data.toList.drop k) else match closed q (s.data.toList.drop k) with | none => -1 | some j => insideI n d (k + (j + 1)) (s.data.toList.drop (k + (j + 1)))
theorem insideQ_in {n d k : Nat} {q : UInt8} {s : ByteArray} (h : (q == 0) = false) : insideQ n d k q s = match closed q (s.data.toList.drop k) with | none => -1 | some j => insideI n d (k + (j + 1)) (s.data.toList.drop (k + (j + 1))) := by
  rw [insideQ, if_neg (by simp [h])]

section
variable {n d k : Nat} {q : UInt8} {s : ByteArray} (h : k < s.size)
include h
theorem insideQ_hit (hq : (q == 0) = false) (hc : (s[k] == q) = true) : insideQ n d k q s = insideQ n d (k + 1) 0 s := by
  rw [insideQ_in hq, byte_drop s k h, closed_cons, if_pos hc]; rfl
theorem insideQ_skip (hq : (q == 0) = false) (hc : (s[k] == q) = false) (h' : (s[k] == 92 && q == 34) = true) : insideQ n d k q s = insideQ n d (k + 2) q s := by
  rw [insideQ_in hq, insideQ_in hq, byte_drop s k h, closed_cons, if_neg (by simp [hc]), if_pos h']
  by_cases hl : k + 1 < s.size
  · rw [byte_drop s (k + 1) hl]
    simp only [show k + 1 + 1 = k + 2 from rfl]
    cases closed q (s.data.toList.drop (k + 2)) with
    | none => rfl
    | some j => simp only [Option.map_some]; rw [show k + (j + 2 + 1) = k + 2 + (j + 1) by omega]
  · rw [drop_end s (k + 1) hl, drop_end s (k + 2) (by omega)]; rfl
theorem insideQ_step (hq : (q == 0) = false) (hc : (s[k] == q) = false) (h' : (s[k] == 92 && q == 34) = false) : insideQ n d k q s = insideQ n d (k + 1) q s := by
  rw [insideQ_in hq, insideQ_in hq, byte_drop s k h, closed_cons, if_neg (by simp [hc]), if_neg (by simp [h'])]
  cases closed q (s.data.toList.drop (k + 1)) with
  | none => rfl
  | some j => simp only [Option.map_some]; rw [show k + (j + 1 + 1) = k + 1 + (j + 1) by omega]
theorem insideQ_bs (hc : (s[k] == 92) = true) : insideQ (n + 1) d k 0 s = insideQ n d (k + 2) 0 s := by
  show insideI (n + 1) d k (s.data.toList.drop k) = insideI n d (k + 2) (s.data.toList.drop (k + 2))
  rw [byte_drop s k h, insideI_bs _ _ _ _ _ hc, List.drop_drop]
theorem insideQ_q (hc : (s[k] == 92) = false) (h' : (s[k] == 39 || s[k] == 34) = true) : insideQ (n + 1) d k 0 s = insideQ n d (k + 1) s[k] s := by
  have h0 : (s[k] == 0) = false := by
    rw [beq_eq_false_iff_ne]
    intro e
    rw [e] at h'
    exact absurd h' (by decide)
  rw [insideQ_in h0]
  show insideI (n + 1) d k (s.data.toList.drop k) = _
  rw [byte_drop s k h, insideI_q _ _ _ _ _ hc h']
  cases closed s[k] (s.data.toList.drop (k + 1)) with
  | none => rfl
  | some j => simp only [List.drop_drop]; rw [show k + (j + 2) = k + 1 + (j + 1) by omega]
theorem insideQ_open (hc : (s[k] == 92) = false) (h' : (s[k] == 39 || s[k] == 34) = false) (h1 : (s[k] == 40) = true) : insideQ (n + 1) d k 0 s = insideQ n (d + 1) (k + 1) 0 s := by
  show insideI (n + 1) d k (s.data.toList.drop k) = insideI n (d + 1) (k + 1) (s.data.toList.drop (k + 1))
  rw [byte_drop s k h, insideI_open _ _ _ _ _ hc h' h1]
theorem insideQ_close (hc : (s[k] == 92) = false) (h' : (s[k] == 39 || s[k] == 34) = false) (h1 : (s[k] == 40) = false) (h2 : (s[k] == 41) = true) (h3 : 0 < d) : insideQ (n + 1) d k 0 s = insideQ n (d - 1) (k + 1) 0 s := by
  show insideI (n + 1) d k (s.data.toList.drop k) = insideI n (d - 1) (k + 1) (s.data.toList.drop (k + 1))
  rw [byte_drop s k h, insideI_close _ _ _ _ _ hc h' h1 h2 h3]
theorem insideQ_found (hc : (s[k] == 92) = false) (h' : (s[k] == 39 || s[k] == 34) = false) (h1 : (s[k] == 40) = false) (h2 : (s[k] == 41) = true) : insideQ (n + 1) 0 k 0 s = k := by
  show insideI (n + 1) 0 k (s.data.toList.drop k) = k
  rw [byte_drop s k h, insideI_found _ _ _ _ hc h' h1 h2]
theorem insideQ_step0 (hc : (s[k] == 92) = false) (h' : (s[k] == 39 || s[k] == 34) = false) (h1 : (s[k] == 40) = false) (h2 : (s[k] == 41) = false) : insideQ (n + 1) d k 0 s = insideQ n d (k + 1) 0 s := by
  show insideI (n + 1) d k (s.data.toList.drop k) = insideI n d (k + 1) (s.data.toList.drop (k + 1))
  rw [byte_drop s k h, insideI_step _ _ _ _ _ hc h' h1 h2]
end

set_option maxRecDepth 100000 in
set_option maxHeartbeats 2000000 in
theorem rinside_calls (s : ByteArray) (w : World) (hs : s.size ≤ 140737488355328) :
    Calls Try.prog 22 #[.string s] w fun e w' => e = .returned (.int .i64 (insideI (s.size + 1) 0 0 s.data.toList)) ∧ w = w' := by
  generalize hR : insideI (s.size + 1) 0 0 s.data.toList = R
  have HR := Lib.hid hR; clear hR
  go_enter Try.func22, Try.ntmps22
  go_wp2
  go_loop [3, 4, 5] (fun dv qv iv => ∃ (d k n : Nat) (q : UInt8), dv = .int .i64 d ∧ qv = .int .u8 q.toNat ∧ iv = .int .i64 k ∧ k ≤ s.size + 1 ∧ d ≤ k ∧ s.size + 1 ≤ n + k ∧ (q = 0 ∨ q = 39 ∨ q = 34) ∧ Hid (1 ≤ n ∧ insideQ n d k q s = R)) (fun dv qv iv => s.size + 2 - (intOf iv).toNat)
  case atStart => exact ⟨0, 0, s.size + 1, 0, rfl, rfl, rfl, by omega, by omega, by omega, .inl rfl, Lib.hid ⟨by omega, by rw [← HR.out]; rfl⟩⟩
  case round =>
    obtain ⟨d, k, n, q, rfl, rfl, rfl, hk, hdk, hnk, hq, HK⟩ := hrel
    by_cases hlt : k < s.size
    · have HD := Lib.hid (byte_drop s k hlt)
      have hn1 : (0 : Int) ≤ (k : Int) := by omega
      have hn2 : (k : Int) < (s.size : Int) := by omega
      have hq92 : ((s[k].toNat : Int) == 92) = (s[k] == 92) := byte_eqn s[k] 92 (by decide)
      have hq39 : ((s[k].toNat : Int) == 39) = (s[k] == 39) := byte_eqn s[k] 39 (by decide)
      have hq34 : ((s[k].toNat : Int) == 34) = (s[k] == 34) := byte_eqn s[k] 34 (by decide)
      have hq40 : ((s[k].toNat : Int) == 40) = (s[k] == 40) := byte_eqn s[k] 40 (by decide)
      have hq41 : ((s[k].toNat : Int) == 41) = (s[k] == 41) := byte_eqn s[k] 41 (by decide)
      rcases hq with rfl | rfl | rfl
      · obtain ⟨m, rfl⟩ : ∃ m, n = m + 1 := ⟨n - 1, by have := HK.out.1; omega⟩
        cases h92 : s[k] == 92
        case true =>
          rw [h92] at hq92
          go_wp2
          go_round
          case rel => exact ⟨d, k + 2, m, 0, by go_num, by go_num, by go_num, by omega, by omega, by omega, .inl rfl, Lib.hid ⟨by omega, by rw [← HK.out.2]; exact (insideQ_bs hlt h92).symm⟩⟩
          case measure => simp [intOf]; omega
        case false =>
          rw [h92] at hq92
          cases h39 : s[k] == 39
          case true =>
            rw [h39] at hq39
            have he : s[k] = 39 := by simpa using h39
            go_wp2
            go_round
            case rel => exact ⟨d, k + 1, m, 39, by go_num, by go_num, by go_num, by omega, by omega, by omega, .inr (.inl rfl), Lib.hid ⟨by omega, by rw [← HK.out.2]; exact ((insideQ_q hlt h92 (by rw [h39]; rfl)).trans (by rw [he])).symm⟩⟩
            case measure => simp [intOf]; omega
          case false =>
            rw [h39] at hq39
            cases h34 : s[k] == 34
            case true =>
              rw [h34] at hq34
              have he : s[k] = 34 := by simpa using h34
              go_wp2
              go_round
              case rel => exact ⟨d, k + 1, m, 34, by go_num, by go_num, by go_num, by omega, by omega, by omega, .inr (.inr rfl), Lib.hid ⟨by omega, by rw [← HK.out.2]; exact ((insideQ_q hlt h92 (by rw [h34]; simp)).trans (by rw [he])).symm⟩⟩
              case measure => simp [intOf]; omega
            case false =>
              rw [h34] at hq34
              have hqq : (s[k] == 39 || s[k] == 34) = false := by rw [h39, h34]; rfl
              cases h40 : s[k] == 40
              case true =>
                rw [h40] at hq40
                go_wp2
                go_round
                case rel => exact ⟨d + 1, k + 1, m, 0, by go_num, by go_num, by go_num, by omega, by omega, by omega, .inl rfl, Lib.hid ⟨by omega, by rw [← HK.out.2]; exact (insideQ_open hlt h92 hqq h40).symm⟩⟩
                case measure => simp [intOf]; omega
              case false =>
                rw [h40] at hq40
                cases h41 : s[k] == 41
                case true =>
                  rw [h41] at hq41
                  by_cases hd0 : d = 0
                  · subst hd0
                    have HR1 : Hid (R = k) := Lib.hid (by rw [← HK.out.2, insideQ_found hlt h92 hqq h40 h41])
                    go_wp2
                    go_ret
                    exact ⟨ret_int HR1.out.symm, rfl⟩
                  · have hd1 : ((d : Int) == 0) = false := by simp; omega
                    have hd2 : (d : Int) - 1 = ((d - 1 : Nat) : Int) := by omega
                    go_wp2
                    go_round
                    case rel => exact ⟨d - 1, k + 1, m, 0, by go_num, by go_num, by go_num, by omega, by omega, by omega, .inl rfl, Lib.hid ⟨by omega, by rw [← HK.out.2]; exact (insideQ_close hlt h92 hqq h40 h41 (by omega)).symm⟩⟩
                    case measure => simp [intOf]; omega
                case false =>
                  rw [h41] at hq41
                  go_wp2
                  go_round
                  case rel => exact ⟨d, k + 1, m, 0, by go_num, by go_num, by go_num, by omega, by omega, by omega, .inl rfl, Lib.hid ⟨by omega, by rw [← HK.out.2]; exact (insideQ_step0 hlt h92 hqq h40 h41).symm⟩⟩
                  case measure => simp [intOf]; omega
      · cases h92 : s[k] == 92
        case true =>
          rw [h92] at hq92
          have h39 : (s[k] == 39) = false := by rw [show s[k] = 92 by simpa using h92]; decide
          rw [h39] at hq39
          go_wp2
          go_round
          case rel => exact ⟨d, k + 1, n, 39, by go_num, by go_num, by go_num, by omega, by omega, by omega, .inr (.inl rfl), Lib.hid ⟨by omega, by rw [← HK.out.2]; exact (insideQ_step hlt rfl h39 (by rw [h92]; rfl)).symm⟩⟩
          case measure => simp [intOf]; omega
        case false =>
          rw [h92] at hq92
          cases h39 : s[k] == 39
          case true =>
            rw [h39] at hq39
            go_wp2
            go_round
            case rel => exact ⟨d, k + 1, n, 0, by go_num, by go_num, by go_num, by omega, by omega, by omega, .inl rfl, Lib.hid ⟨by omega, by rw [← HK.out.2]; exact (insideQ_hit hlt rfl h39).symm⟩⟩
            case measure => simp [intOf]; omega
          case false =>
            rw [h39] at hq39
            go_wp2
            go_round
            case rel => exact ⟨d, k + 1, n, 39, by go_num, by go_num, by go_num, by omega, by omega, by omega, .inr (.inl rfl), Lib.hid ⟨by omega, by rw [← HK.out.2]; exact (insideQ_step hlt rfl h39 (by rw [h92]; rfl)).symm⟩⟩
            case measure => simp [intOf]; omega
      · cases h92 : s[k] == 92
        case true =>
          rw [h92] at hq92
          have h34 : (s[k] == 34) = false := by rw [show s[k] = 92 by simpa using h92]; decide
          rw [h34] at hq34
          go_wp2
          go_round
          case rel => exact ⟨d, k + 2, n, 34, by go_num, by go_num, by go_num, by omega, by omega, by omega, .inr (.inr rfl), Lib.hid ⟨by omega, by rw [← HK.out.2]; exact (insideQ_skip hlt rfl h34 (by rw [h92]; rfl)).symm⟩⟩
          case measure => simp [intOf]; omega
        case false =>
          rw [h92] at hq92
          cases h34 : s[k] == 34
          case true =>
            rw [h34] at hq34
            go_wp2
            go_round
            case rel => exact ⟨d, k + 1, n, 0, by go_num, by go_num, by go_num, by omega, by omega, by omega, .inl rfl, Lib.hid ⟨by omega, by rw [← HK.out.2]; exact (insideQ_hit hlt rfl h34).symm⟩⟩
            case measure => simp [intOf]; omega
          case false =>
            rw [h34] at hq34
            go_wp2
            go_round
            case rel => exact ⟨d, k + 1, n, 34, by go_num, by go_num, by go_num, by omega, by omega, by omega, .inr (.inr rfl), Lib.hid ⟨by omega, by rw [← HK.out.2]; exact (insideQ_step hlt rfl h34 (by rw [h92]; rfl)).symm⟩⟩
            case measure => simp [intOf]; omega
    · have hn2 : decide ((k : Int) < (s.size : Int)) = false := by simp; omega
      have HR1 : Hid (R = -1) := Lib.hid (by
        obtain ⟨h1, h2⟩ := HK.out
        obtain ⟨m, rfl⟩ : ∃ m, n = m + 1 := ⟨n - 1, by omega⟩
        rw [← h2, insideQ, drop_end s k hlt]
        split <;> rfl)
      go_wp2
      go_ret
      exact ⟨ret_int HR1.out.symm, rfl⟩
end Go.Proofs.Ytdfnkmiabmjolaa
