/- Walks of the reference of match: sets. -/
import Derived.Test.YtbjejnegfojnmaaM9
namespace Go.Proofs.Ytbjejnegfojnmaa
open Go.RowKit
set_option linter.unusedVariables false
set_option linter.unusedSimpArgs false

def endI (a : Nat) (r : Bytes) : Int := match setL r with | none => 0 | some k => (a : Int) + k
theorem endI_not (a : Nat) (r : Bytes) : endI a (33 :: r) = setI (r.length + 1) true (a + 2) r := by
  simp only [endI, setL, setI]
  cases setF (r.length + 1) true r with
  | none => rfl
  | some k => simp only [Option.map_some]; omega
theorem endI_yes (a : Nat) (r : Bytes) (h : r.head? ≠ some 33) : endI a r = setI (r.length + 1) true (a + 1) r := by
  have : setL r = (setF (r.length + 1) true r).map (· + 1) := by
    unfold setL
    split
    · simp at h
    · rfl
  simp only [endI, this, setI]
  cases setF (r.length + 1) true r with
  | none => rfl
  | some k => simp only [Option.map_some]; omega


set_option maxRecDepth 100000 in
set_option maxHeartbeats 2000000 in
theorem setEnd_calls (p : ByteArray) (a : Nat) (w : World) (h0 : a < p.size) (hs : p.size ≤ 140737488355328) :
    Calls Try.prog 32 #[.string p, .int .i64 a] w fun e w' => e = .returned (.int .i64 (endI a (p.data.toList.drop (a + 1)))) ∧ w = w' := by
  generalize hR : endI a (p.data.toList.drop (a + 1)) = R
  by_cases h1 : a + 1 < p.size
  · have q1 : (a : Int) + 1 < (p.size : Int) := by omega
    have q2 : (0 : Int) ≤ (a : Int) + 1 := by omega
    have q3 : ((a : Int) + 1).toNat = a + 1 := by omega
    have hq33 : ((p[a + 1].toNat : Int) == 33) = (p[a + 1] == 33) := byte_eqn p[a + 1] 33 (by decide)
    cases h33 : p[a + 1] == 33
    case true =>
      rw [h33] at hq33
      rw [byte_drop p (a + 1) h1, show p[a + 1] = 33 by simpa using h33, endI_not, drop_len, show p.size - (a + 1 + 1) + 1 = p.size - (a + 1) by omega] at hR
      have HR := Lib.hid hR; clear hR
      clear h33
      go_enter Try.func32, Try.ntmps32
      go_wp2
      go_loop [5] (fun iv => ∃ (k n : Nat), iv = .int .i64 k ∧ k ≤ p.size ∧ a + 2 ≤ k ∧ p.size + 1 ≤ n + k ∧ Hid (setI n (decide (k = a + 2)) k (p.data.toList.drop k) = R)) (fun iv => p.size - (intOf iv).toNat)
      case atStart => exact ⟨a + 2, p.size - (a + 1), by go_num, by omega, by omega, by omega, Lib.hid (by rw [← HR.out]; simp)⟩
      case round =>
        obtain ⟨k, n, rfl, hk, hk1, hnk, HK⟩ := hrel
        by_cases hlt : k < p.size
        · obtain ⟨m, rfl⟩ : ∃ m, n = m + 1 := ⟨n - 1, by omega⟩
          have HD := Lib.hid (byte_drop p k hlt)
          have q0 : (0 : Int) ≤ (k : Int) := by omega
          have q1 : (k : Int) < (p.size : Int) := by omega
          have hq93 : ((p[k].toNat : Int) == 93) = (p[k] == 93) := byte_eqn p[k] 93 (by decide)
          have hq92 : ((p[k].toNat : Int) == 92) = (p[k] == 92) := byte_eqn p[k] 92 (by decide)
          cases h93 : p[k] == 93
          case false =>
            rw [h93] at hq93
            cases h92 : p[k] == 92
            case false =>
              rw [h92] at hq92
              go_wp2
              go_round
              case rel => exact ⟨k + 1, m, by go_num, by omega, by omega, by omega, Lib.hid (by rw [← HK.out, HD.out, setI_step _ _ _ _ _ (by rw [h93]; rfl) (by rw [h92]; rfl), show decide (k + 1 = a + 2) = false by simp; omega])⟩
              case measure => simp [intOf]; omega
            case true =>
              rw [h92] at hq92
              by_cases hl : k + 1 < p.size
              · have q2 : (k : Int) + 1 < (p.size : Int) := by omega
                go_wp2
                go_round
                case rel => exact ⟨k + 2, m, by go_num, by omega, by omega, by omega, Lib.hid (by rw [← HK.out, HD.out, setI_bs _ _ _ _ _ h92 (by rw [byte_drop p (k + 1) hl]; simp), List.drop_drop, show decide (k + 2 = a + 2) = false by simp; omega])⟩
                case measure => simp [intOf]; omega
              · have q2 : decide ((k : Int) + 1 < (p.size : Int)) = false := by rw [decide_eq_false_iff_not]; omega
                go_wp2
                go_round
                case rel => exact ⟨k + 1, m, by go_num, by omega, by omega, by omega, Lib.hid (by rw [← HK.out, HD.out, setI_step _ _ _ _ _ (by rw [h93]; rfl) (by rw [drop_end p (k + 1) hl]; simp), show decide (k + 1 = a + 2) = false by simp; omega])⟩
                case measure => simp [intOf]; omega
          case true =>
            rw [h93] at hq93
            by_cases hf : k = a + 2
            · have h92 : (p[k] == 92) = false := by rw [show p[k] = 93 by simpa using h93]; rfl
              rw [h92] at hq92
              have q3 : decide ((a + 1 + 1 : Int) < (k : Int)) = false := by rw [decide_eq_false_iff_not]; omega
              have q3' : decide (a + 2 < k) = false := by rw [decide_eq_false_iff_not]; omega
              have HS : Hid (setI m (decide (k + 1 = a + 2)) (k + 1) (p.data.toList.drop (k + 1)) = R) := Lib.hid (by
                rw [← HK.out, HD.out, show decide (k = a + 2) = true by simpa using hf, setI_step _ _ _ _ _ (by simp) (by rw [h92]; rfl), show decide (k + 1 = a + 2) = false by simp; omega])
              clear hf
              go_wp2
              go_round
              case rel => exact ⟨k + 1, m, by go_num, by omega, by omega, by omega, HS⟩
              case measure => simp [intOf]; omega
            · have HR1 : Hid (R = (k : Int) + 1) := Lib.hid (by rw [← HK.out, HD.out, show decide (k = a + 2) = false by simpa using hf, setI_hit _ _ _ _ h93])
              have q3 : (a + 1 + 1 : Int) < (k : Int) := by omega
              clear hf
              go_wp2
              go_ret
              exact ⟨ret_int (by rw [HR1.out]), rfl⟩
        · have q1 : decide ((k : Int) < (p.size : Int)) = false := by rw [decide_eq_false_iff_not]; omega
          have q1' : decide (k < p.size) = false := by rw [decide_eq_false_iff_not]; omega
          have HR1 : Hid (R = 0) := Lib.hid (by rw [← HK.out, drop_end p k hlt, setI_end])
          go_wp2
          go_ret
          exact ⟨ret_int (by rw [HR1.out]), rfl⟩
    case false =>
      rw [h33] at hq33
      have HR : Hid (setI (p.size - a) true (a + 1) (p.data.toList.drop (a + 1)) = R) := Lib.hid (by
        rw [← hR, endI_yes, drop_len, show p.size - (a + 1) + 1 = p.size - a by omega]
        rw [byte_drop p (a + 1) h1]
        simpa using h33)
      clear hR h33
      go_enter Try.func32, Try.ntmps32
      go_wp2
      go_loop [5] (fun iv => ∃ (k n : Nat), iv = .int .i64 k ∧ k ≤ p.size ∧ a + 1 ≤ k ∧ p.size + 1 ≤ n + k ∧ Hid (setI n (decide (k = a + 1)) k (p.data.toList.drop k) = R)) (fun iv => p.size - (intOf iv).toNat)
      case atStart => exact ⟨a + 1, p.size - a, by go_num, by omega, by omega, by omega, Lib.hid (by rw [← HR.out]; simp)⟩
      case round =>
        obtain ⟨k, n, rfl, hk, hk1, hnk, HK⟩ := hrel
        by_cases hlt : k < p.size
        · obtain ⟨m, rfl⟩ : ∃ m, n = m + 1 := ⟨n - 1, by omega⟩
          have HD := Lib.hid (byte_drop p k hlt)
          have q0 : (0 : Int) ≤ (k : Int) := by omega
          have q1 : (k : Int) < (p.size : Int) := by omega
          have hq93 : ((p[k].toNat : Int) == 93) = (p[k] == 93) := byte_eqn p[k] 93 (by decide)
          have hq92 : ((p[k].toNat : Int) == 92) = (p[k] == 92) := byte_eqn p[k] 92 (by decide)
          cases h93 : p[k] == 93
          case false =>
            rw [h93] at hq93
            cases h92 : p[k] == 92
            case false =>
              rw [h92] at hq92
              go_wp2
              go_round
              case rel => exact ⟨k + 1, m, by go_num, by omega, by omega, by omega, Lib.hid (by rw [← HK.out, HD.out, setI_step _ _ _ _ _ (by rw [h93]; rfl) (by rw [h92]; rfl), show decide (k + 1 = a + 1) = false by simp; omega])⟩
              case measure => simp [intOf]; omega
            case true =>
              rw [h92] at hq92
              by_cases hl : k + 1 < p.size
              · have q2 : (k : Int) + 1 < (p.size : Int) := by omega
                go_wp2
                go_round
                case rel => exact ⟨k + 2, m, by go_num, by omega, by omega, by omega, Lib.hid (by rw [← HK.out, HD.out, setI_bs _ _ _ _ _ h92 (by rw [byte_drop p (k + 1) hl]; simp), List.drop_drop, show decide (k + 2 = a + 1) = false by simp; omega])⟩
                case measure => simp [intOf]; omega
              · have q2 : decide ((k : Int) + 1 < (p.size : Int)) = false := by rw [decide_eq_false_iff_not]; omega
                go_wp2
                go_round
                case rel => exact ⟨k + 1, m, by go_num, by omega, by omega, by omega, Lib.hid (by rw [← HK.out, HD.out, setI_step _ _ _ _ _ (by rw [h93]; rfl) (by rw [drop_end p (k + 1) hl]; simp), show decide (k + 1 = a + 1) = false by simp; omega])⟩
                case measure => simp [intOf]; omega
          case true =>
            rw [h93] at hq93
            by_cases hf : k = a + 1
            · have h92 : (p[k] == 92) = false := by rw [show p[k] = 93 by simpa using h93]; rfl
              rw [h92] at hq92
              have q3 : decide ((a + 1 : Int) < (k : Int)) = false := by rw [decide_eq_false_iff_not]; omega
              have q3' : decide (a + 1 < k) = false := by rw [decide_eq_false_iff_not]; omega
              have HS : Hid (setI m (decide (k + 1 = a + 1)) (k + 1) (p.data.toList.drop (k + 1)) = R) := Lib.hid (by
                rw [← HK.out, HD.out, show decide (k = a + 1) = true by simpa using hf, setI_step _ _ _ _ _ (by simp) (by rw [h92]; rfl), show decide (k + 1 = a + 1) = false by simp; omega])
              clear hf
              go_wp2
              go_round
              case rel => exact ⟨k + 1, m, by go_num, by omega, by omega, by omega, HS⟩
              case measure => simp [intOf]; omega
            · have HR1 : Hid (R = (k : Int) + 1) := Lib.hid (by rw [← HK.out, HD.out, show decide (k = a + 1) = false by simpa using hf, setI_hit _ _ _ _ h93])
              have q3 : (a + 1 : Int) < (k : Int) := by omega
              clear hf
              go_wp2
              go_ret
              exact ⟨ret_int (by rw [HR1.out]), rfl⟩
        · have q1 : decide ((k : Int) < (p.size : Int)) = false := by rw [decide_eq_false_iff_not]; omega
          have q1' : decide (k < p.size) = false := by rw [decide_eq_false_iff_not]; omega
          have HR1 : Hid (R = 0) := Lib.hid (by rw [← HK.out, drop_end p k hlt, setI_end])
          go_wp2
          go_ret
          exact ⟨ret_int (by rw [HR1.out]), rfl⟩
  · have q1 : decide ((a : Int) + 1 < (p.size : Int)) = false := by rw [decide_eq_false_iff_not]; omega
    have q1' : decide (a + 1 < p.size) = false := by rw [decide_eq_false_iff_not]; omega
    have HR : Hid (setI (p.size - a) true (a + 1) (p.data.toList.drop (a + 1)) = R) := Lib.hid (by
      rw [← hR, drop_end p (a + 1) h1, setI_end]; rfl)
    clear hR
    go_enter Try.func32, Try.ntmps32
    go_wp2
    go_loop [5] (fun iv => ∃ (k n : Nat), iv = .int .i64 k ∧ k ≤ p.size ∧ a + 1 ≤ k ∧ p.size + 1 ≤ n + k ∧ Hid (setI n (decide (k = a + 1)) k (p.data.toList.drop k) = R)) (fun iv => p.size - (intOf iv).toNat)
    case atStart => exact ⟨a + 1, p.size - a, by go_num, by omega, by omega, by omega, Lib.hid (by rw [← HR.out]; simp)⟩
    case round =>
      obtain ⟨k, n, rfl, hk, hk1, hnk, HK⟩ := hrel
      by_cases hlt : k < p.size
      · obtain ⟨m, rfl⟩ : ∃ m, n = m + 1 := ⟨n - 1, by omega⟩
        have HD := Lib.hid (byte_drop p k hlt)
        have q0 : (0 : Int) ≤ (k : Int) := by omega
        have q1 : (k : Int) < (p.size : Int) := by omega
        have hq93 : ((p[k].toNat : Int) == 93) = (p[k] == 93) := byte_eqn p[k] 93 (by decide)
        have hq92 : ((p[k].toNat : Int) == 92) = (p[k] == 92) := byte_eqn p[k] 92 (by decide)
        cases h93 : p[k] == 93
        case false =>
          rw [h93] at hq93
          cases h92 : p[k] == 92
          case false =>
            rw [h92] at hq92
            go_wp2
            go_round
            case rel => exact ⟨k + 1, m, by go_num, by omega, by omega, by omega, Lib.hid (by rw [← HK.out, HD.out, setI_step _ _ _ _ _ (by rw [h93]; rfl) (by rw [h92]; rfl), show decide (k + 1 = a + 1) = false by simp; omega])⟩
            case measure => simp [intOf]; omega
          case true =>
            rw [h92] at hq92
            by_cases hl : k + 1 < p.size
            · have q2 : (k : Int) + 1 < (p.size : Int) := by omega
              go_wp2
              go_round
              case rel => exact ⟨k + 2, m, by go_num, by omega, by omega, by omega, Lib.hid (by rw [← HK.out, HD.out, setI_bs _ _ _ _ _ h92 (by rw [byte_drop p (k + 1) hl]; simp), List.drop_drop, show decide (k + 2 = a + 1) = false by simp; omega])⟩
              case measure => simp [intOf]; omega
            · have q2 : decide ((k : Int) + 1 < (p.size : Int)) = false := by rw [decide_eq_false_iff_not]; omega
              go_wp2
              go_round
              case rel => exact ⟨k + 1, m, by go_num, by omega, by omega, by omega, Lib.hid (by rw [← HK.out, HD.out, setI_step _ _ _ _ _ (by rw [h93]; rfl) (by rw [drop_end p (k + 1) hl]; simp), show decide (k + 1 = a + 1) = false by simp; omega])⟩
              case measure => simp [intOf]; omega
        case true =>
          rw [h93] at hq93
          by_cases hf : k = a + 1
          · have h92 : (p[k] == 92) = false := by rw [show p[k] = 93 by simpa using h93]; rfl
            rw [h92] at hq92
            have q3 : decide ((a + 1 : Int) < (k : Int)) = false := by rw [decide_eq_false_iff_not]; omega
            have q3' : decide (a + 1 < k) = false := by rw [decide_eq_false_iff_not]; omega
            have HS : Hid (setI m (decide (k + 1 = a + 1)) (k + 1) (p.data.toList.drop (k + 1)) = R) := Lib.hid (by
              rw [← HK.out, HD.out, show decide (k = a + 1) = true by simpa using hf, setI_step _ _ _ _ _ (by simp) (by rw [h92]; rfl), show decide (k + 1 = a + 1) = false by simp; omega])
            clear hf
            go_wp2
            go_round
            case rel => exact ⟨k + 1, m, by go_num, by omega, by omega, by omega, HS⟩
            case measure => simp [intOf]; omega
          · have HR1 : Hid (R = (k : Int) + 1) := Lib.hid (by rw [← HK.out, HD.out, show decide (k = a + 1) = false by simpa using hf, setI_hit _ _ _ _ h93])
            have q3 : (a + 1 : Int) < (k : Int) := by omega
            clear hf
            go_wp2
            go_ret
            exact ⟨ret_int (by rw [HR1.out]), rfl⟩
      · have q1 : decide ((k : Int) < (p.size : Int)) = false := by rw [decide_eq_false_iff_not]; omega
        have q1' : decide (k < p.size) = false := by rw [decide_eq_false_iff_not]; omega
        have HR1 : Hid (R = 0) := Lib.hid (by rw [← HK.out, drop_end p k hlt, setI_end])
        go_wp2
        go_ret
        exact ⟨ret_int (by rw [HR1.out]), rfl⟩

set_option maxRecDepth 100000 in
set_option maxHeartbeats 1000000 in
theorem rsign_calls (s : ByteArray) (i : Nat) (w : World) (h0 : i < s.size) (hs : s.size ≤ 140737488355328) :
    Calls Try.prog 34 #[.string s, .int .i64 i] w fun e w' => (∃ k : Nat, e = .returned (.tuple #[.int .u8 (signL (s.data.toList.drop i)).1.toNat, .int .i64 k]) ∧ (signL (s.data.toList.drop i)).2 = s.data.toList.drop k ∧ i < k ∧ k ≤ s.size) ∧ w = w' := by
  have q0 : (0 : Int) ≤ (i : Int) := by omega
  have q1 : (i : Int) < (s.size : Int) := by omega
  have hq92 : ((s[i].toNat : Int) == 92) = (s[i] == 92) := byte_eqn s[i] 92 (by decide)
  have hc := byte_drop s i h0
  cases h92 : s[i] == 92
  case true =>
    rw [h92] at hq92
    by_cases h1 : i + 1 < s.size
    · have q2 : (i : Int) + 1 < (s.size : Int) := by omega
      have q3 : (0 : Int) ≤ (i : Int) + 1 := by omega
      have q4 : ((i : Int) + 1).toNat = i + 1 := by omega
      have hS : signL (s.data.toList.drop i) = (s[i + 1], s.data.toList.drop (i + 2)) := by
        rw [hc, byte_drop s (i + 1) h1, show s[i] = 92 by simpa using h92]; rfl
      rw [hS]
      clear hS hc h92
      go_enter Try.func34, Try.ntmps34
      go_wp2
      go_ret2
      exact ⟨⟨i + 2, by go_num, rfl, by omega, by omega⟩, rfl⟩
    · have q2 : decide ((i : Int) + 1 < (s.size : Int)) = false := by rw [decide_eq_false_iff_not]; omega
      have hS : signL (s.data.toList.drop i) = (s[i], s.data.toList.drop (i + 1)) := by
        rw [hc, signL_one _ _ (.inr (drop_end s (i + 1) h1))]
      rw [hS]
      clear hS hc h92
      go_enter Try.func34, Try.ntmps34
      go_wp2
      go_ret2
      exact ⟨⟨i + 1, by go_num, rfl, by omega, by omega⟩, rfl⟩
  case false =>
    rw [h92] at hq92
    have hS : signL (s.data.toList.drop i) = (s[i], s.data.toList.drop (i + 1)) := by
      rw [hc, signL_one _ _ (.inl h92)]
    rw [hS]
    clear hS hc h92
    go_enter Try.func34, Try.ntmps34
    go_wp2
    go_ret2
    exact ⟨⟨i + 1, by go_num, rfl, by omega, by omega⟩, rfl⟩
end Go.Proofs.Ytbjejnegfojnmaa
