/- Walks of package match: sets. -/
import Derived.Test.YtbjejnegfojnmaaModelM3
import Derived.Test.YtbjejnegfojnmaaProg
import Derived.Test.YtbjejnegfojnmaaChecked
import Derived.Lib.Hide
namespace Go.Proofs.Ytbjejnegfojnmaa
open Go.RowKit
set_option linter.unusedVariables false
set_option linter.unusedSimpArgs false

theorem len_data (s : ByteArray) : s.data.toList.length = s.size := by rw [Array.length_toList]; rfl
theorem byte_drop (s : ByteArray) (i : Nat) (h : i < s.size) : s.data.toList.drop i = s[i] :: s.data.toList.drop (i + 1) := by
  rw [List.drop_eq_getElem_cons (by rw [len_data]; exact h)]
  rfl
theorem drop_end (s : ByteArray) (i : Nat) (h : ¬ i < s.size) : s.data.toList.drop i = [] := List.drop_eq_nil_of_le (by rw [len_data]; omega)
theorem ret_int {k : IntKind} {a b : Int} (h : a = b) : Ending.returned (.int k a) = .returned (.int k b) := by rw [h]
theorem ret_bool {a b : Bool} (h : a = b) : Ending.returned (.bool a) = .returned (.bool b) := by rw [h]
theorem byte_eqn (c : UInt8) (n : Nat) (h : n < 256) : ((c.toNat : Int) == (n : Int)) = (c == n.toUInt8) := by
  rw [Bool.eq_iff_iff]; simp [← UInt8.toNat_inj, Nat.mod_eq_of_lt h]; omega
theorem byte_eq (c d : UInt8) : ((c.toNat : Int) == (d.toNat : Int)) = (c == d) := by
  rw [Bool.eq_iff_iff]; simp [← UInt8.toNat_inj]; omega
theorem drop_len (s : ByteArray) (k : Nat) : (s.data.toList.drop k).length = s.size - k := by rw [List.length_drop, len_data]

def setI (n : Nat) (first : Bool) (i : Nat) (l : Bytes) : Int := match setF n first l with | none => 0 | some k => (i : Int) + k
theorem setI_hit (n i : Nat) (c : UInt8) (l : Bytes) (h : (c == 93) = true) : setI (n + 1) false i (c :: l) = (i : Int) + 1 := by
  simp only [setI, setF, h, Bool.not_false, Bool.and_self, if_true]
  rfl
theorem setI_bs (n i : Nat) (first : Bool) (c : UInt8) (l : Bytes) (h : (c == 92) = true) (hl : l ≠ []) : setI (n + 1) first i (c :: l) = setI n false (i + 2) (l.drop 1) := by
  have h1 : (c == 93) = false := by rw [show c = 92 by simpa using h]; rfl
  have h2 : (l != []) = true := by simpa using hl
  simp only [setI, setF, h1, h, h2, Bool.false_and, Bool.true_and, Bool.false_eq_true, if_true, if_false]
  cases setF n false (l.drop 1) with
  | none => rfl
  | some k => simp only [Option.map_some]; omega
theorem setI_step (n i : Nat) (first : Bool) (c : UInt8) (l : Bytes) (h : (c == 93 && !first) = false) (h2 : (c == 92 && l != []) = false) : setI (n + 1) first i (c :: l) = setI n false (i + 1) l := by
  simp only [setI, setF, h, h2, Bool.false_eq_true, if_false]
  cases setF n false l with
  | none => rfl
  | some k => simp only [Option.map_some]; omega
theorem setI_end (n i : Nat) (first : Bool) : setI n first i [] = 0 := by cases n <;> rfl

/-- The length of the set that begins with a [ : as Go tells it. -/
def setN (r : Bytes) : Int := match setL r with | none => 0 | some k => k
theorem setN_not (r : Bytes) : setN (33 :: r) = setI (r.length + 1) true 2 r := by
  simp only [setN, setL, setI]
  cases setF (r.length + 1) true r with
  | none => rfl
  | some k => simp only [Option.map_some]; omega
theorem setN_yes (r : Bytes) (h : r.head? ≠ some 33) : setN r = setI (r.length + 1) true 1 r := by
  have : setL r = (setF (r.length + 1) true r).map (· + 1) := by
    unfold setL
    split
    · simp at h
    · rfl
  simp only [setN, this, setI]
  cases setF (r.length + 1) true r with
  | none => rfl
  | some k => simp only [Option.map_some]; omega


set_option maxRecDepth 100000 in
set_option maxHeartbeats 2000000 in
theorem set_calls (p : ByteArray) (w : World) (h0 : 0 < p.size) (hs : p.size ≤ 140737488355328) :
    Calls Try.prog 28 #[.string p] w fun e w' => e = .returned (.int .i64 (setN (p.data.toList.drop 1))) ∧ w = w' := by
  generalize hR : setN (p.data.toList.drop 1) = R
  by_cases h1 : 1 < p.size
  · have q1 : (1 : Int) < (p.size : Int) := by omega
    have hq33 : ((p[1].toNat : Int) == 33) = (p[1] == 33) := byte_eqn p[1] 33 (by decide)
    cases h33 : p[1] == 33
    case true =>
      rw [h33] at hq33
      rw [byte_drop p 1 h1, show p[1] = 33 by simpa using h33, setN_not, drop_len, show p.size - (1 + 1) + 1 = p.size - 1 by omega] at hR
      have HR := Lib.hid hR; clear hR
      go_enter Try.func28, Try.ntmps28
      go_wp2
      go_loop [3, 4] (fun iv fv => ∃ (k n : Nat) (f : Bool), iv = .int .i64 k ∧ fv = .bool f ∧ k ≤ p.size ∧ 1 ≤ k ∧ p.size + 1 ≤ n + k ∧ Hid (setI n f k (p.data.toList.drop k) = R)) (fun iv fv => p.size - (intOf iv).toNat)
      case atStart => exact ⟨2, p.size - 1, true, rfl, rfl, by omega, by omega, by omega, Lib.hid (by rw [← HR.out])⟩
      case round =>
        obtain ⟨k, n, f, rfl, rfl, hk, hk1, hnk, HK⟩ := hrel
        by_cases hlt : k < p.size
        · obtain ⟨m, rfl⟩ : ∃ m, n = m + 1 := ⟨n - 1, by omega⟩
          have HD := Lib.hid (byte_drop p k hlt)
          have q0 : (0 : Int) ≤ (k : Int) := by omega
          have q1 : (k : Int) < (p.size : Int) := by omega
          have hq93 : ((p[k].toNat : Int) == 93) = (p[k] == 93) := byte_eqn p[k] 93 (by decide)
          have hq92 : ((p[k].toNat : Int) == 92) = (p[k] == 92) := byte_eqn p[k] 92 (by decide)
          cases h93 : p[k] == 93
          case false =>
            rw [h93] at hq93
            cases h92 : p[k] == 92
            case false =>
              rw [h92] at hq92
              go_wp2
              go_round
              case rel => exact ⟨k + 1, m, false, by go_num, rfl, by omega, by omega, by omega, Lib.hid (by rw [← HK.out, HD.out, setI_step _ _ _ _ _ (by rw [h93]; rfl) (by rw [h92]; rfl)])⟩
              case measure => simp [intOf]; omega
            case true =>
              rw [h92] at hq92
              by_cases hl : k + 1 < p.size
              · have q2 : (k : Int) + 1 < (p.size : Int) := by omega
                go_wp2
                go_round
                case rel => exact ⟨k + 2, m, false, by go_num, rfl, by omega, by omega, by omega, Lib.hid (by rw [← HK.out, HD.out, setI_bs _ _ _ _ _ h92 (by rw [byte_drop p (k + 1) hl]; simp), List.drop_drop])⟩
                case measure => simp [intOf]; omega
              · have q2 : decide ((k : Int) + 1 < (p.size : Int)) = false := by simp; omega
                go_wp2
                go_round
                case rel => exact ⟨k + 1, m, false, by go_num, rfl, by omega, by omega, by omega, Lib.hid (by rw [← HK.out, HD.out, setI_step _ _ _ _ _ (by rw [h93]; rfl) (by rw [drop_end p (k + 1) hl]; simp)])⟩
                case measure => simp [intOf]; omega
          case true =>
            rw [h93] at hq93
            cases f
            case false =>
              have HR1 : Hid (R = (k : Int) + 1) := Lib.hid (by rw [← HK.out, HD.out, setI_hit _ _ _ _ h93])
              go_wp2
              go_ret
              exact ⟨ret_int (by rw [HR1.out]), rfl⟩
            case true =>
              have h92 : (p[k] == 92) = false := by rw [show p[k] = 93 by simpa using h93]; rfl
              rw [h92] at hq92
              go_wp2
              go_round
              case rel => exact ⟨k + 1, m, false, by go_num, rfl, by omega, by omega, by omega, Lib.hid (by rw [← HK.out, HD.out, setI_step _ _ _ _ _ (by simp) (by rw [h92]; rfl)])⟩
              case measure => simp [intOf]; omega
        · have q1 : decide ((k : Int) < (p.size : Int)) = false := by simp; omega
          have HR1 : Hid (R = 0) := Lib.hid (by rw [← HK.out, drop_end p k hlt, setI_end])
          go_wp2
          go_ret
          exact ⟨ret_int (by rw [HR1.out]), rfl⟩
    case false =>
      rw [h33] at hq33
      have HR : Hid (setI p.size true 1 (p.data.toList.drop 1) = R) := Lib.hid (by
        rw [← hR, setN_yes, drop_len, show p.size - 1 + 1 = p.size by omega]
        rw [byte_drop p 1 h1]
        simpa using h33)
      clear hR
      go_enter Try.func28, Try.ntmps28
      go_wp2
      go_loop [3, 4] (fun iv fv => ∃ (k n : Nat) (f : Bool), iv = .int .i64 k ∧ fv = .bool f ∧ k ≤ p.size ∧ 1 ≤ k ∧ p.size + 1 ≤ n + k ∧ Hid (setI n f k (p.data.toList.drop k) = R)) (fun iv fv => p.size - (intOf iv).toNat)
      case atStart => exact ⟨1, p.size, true, rfl, rfl, by omega, by omega, by omega, Lib.hid (by rw [← HR.out])⟩
      case round =>
        obtain ⟨k, n, f, rfl, rfl, hk, hk1, hnk, HK⟩ := hrel
        by_cases hlt : k < p.size
        · obtain ⟨m, rfl⟩ : ∃ m, n = m + 1 := ⟨n - 1, by omega⟩
          have HD := Lib.hid (byte_drop p k hlt)
          have q0 : (0 : Int) ≤ (k : Int) := by omega
          have q1 : (k : Int) < (p.size : Int) := by omega
          have hq93 : ((p[k].toNat : Int) == 93) = (p[k] == 93) := byte_eqn p[k] 93 (by decide)
          have hq92 : ((p[k].toNat : Int) == 92) = (p[k] == 92) := byte_eqn p[k] 92 (by decide)
          cases h93 : p[k] == 93
          case false =>
            rw [h93] at hq93
            cases h92 : p[k] == 92
            case false =>
              rw [h92] at hq92
              go_wp2
              go_round
              case rel => exact ⟨k + 1, m, false, by go_num, rfl, by omega, by omega, by omega, Lib.hid (by rw [← HK.out, HD.out, setI_step _ _ _ _ _ (by rw [h93]; rfl) (by rw [h92]; rfl)])⟩
              case measure => simp [intOf]; omega
            case true =>
              rw [h92] at hq92
              by_cases hl : k + 1 < p.size
              · have q2 : (k : Int) + 1 < (p.size : Int) := by omega
                go_wp2
                go_round
                case rel => exact ⟨k + 2, m, false, by go_num, rfl, by omega, by omega, by omega, Lib.hid (by rw [← HK.out, HD.out, setI_bs _ _ _ _ _ h92 (by rw [byte_drop p (k + 1) hl]; simp), List.drop_drop])⟩
                case measure => simp [intOf]; omega
              · have q2 : decide ((k : Int) + 1 < (p.size : Int)) = false := by simp; omega
                go_wp2
                go_round
                case rel => exact ⟨k + 1, m, false, by go_num, rfl, by omega, by omega, by omega, Lib.hid (by rw [← HK.out, HD.out, setI_step _ _ _ _ _ (by rw [h93]; rfl) (by rw [drop_end p (k + 1) hl]; simp)])⟩
                case measure => simp [intOf]; omega
          case true =>
            rw [h93] at hq93
            cases f
            case false =>
              have HR1 : Hid (R = (k : Int) + 1) := Lib.hid (by rw [← HK.out, HD.out, setI_hit _ _ _ _ h93])
              go_wp2
              go_ret
              exact ⟨ret_int (by rw [HR1.out]), rfl⟩
            case true =>
              have h92 : (p[k] == 92) = false := by rw [show p[k] = 93 by simpa using h93]; rfl
              rw [h92] at hq92
              go_wp2
              go_round
              case rel => exact ⟨k + 1, m, false, by go_num, rfl, by omega, by omega, by omega, Lib.hid (by rw [← HK.out, HD.out, setI_step _ _ _ _ _ (by simp) (by rw [h92]; rfl)])⟩
              case measure => simp [intOf]; omega
        · have q1 : decide ((k : Int) < (p.size : Int)) = false := by simp; omega
          have HR1 : Hid (R = 0) := Lib.hid (by rw [← HK.out, drop_end p k hlt, setI_end])
          go_wp2
          go_ret
          exact ⟨ret_int (by rw [HR1.out]), rfl⟩
  · have q1 : decide ((1 : Int) < (p.size : Int)) = false := by simp; omega
    have HR : Hid (setI p.size true 1 (p.data.toList.drop 1) = R) := Lib.hid (by
      rw [← hR, drop_end p 1 h1, setI_end]; rfl)
    clear hR
    go_enter Try.func28, Try.ntmps28
    go_wp2
    go_loop [3, 4] (fun iv fv => ∃ (k n : Nat) (f : Bool), iv = .int .i64 k ∧ fv = .bool f ∧ k ≤ p.size ∧ 1 ≤ k ∧ p.size + 1 ≤ n + k ∧ Hid (setI n f k (p.data.toList.drop k) = R)) (fun iv fv => p.size - (intOf iv).toNat)
    case atStart => exact ⟨1, p.size, true, rfl, rfl, by omega, by omega, by omega, Lib.hid (by rw [← HR.out])⟩
    case round =>
      obtain ⟨k, n, f, rfl, rfl, hk, hk1, hnk, HK⟩ := hrel
      by_cases hlt : k < p.size
      · obtain ⟨m, rfl⟩ : ∃ m, n = m + 1 := ⟨n - 1, by omega⟩
        have HD := Lib.hid (byte_drop p k hlt)
        have q0 : (0 : Int) ≤ (k : Int) := by omega
        have q1 : (k : Int) < (p.size : Int) := by omega
        have hq93 : ((p[k].toNat : Int) == 93) = (p[k] == 93) := byte_eqn p[k] 93 (by decide)
        have hq92 : ((p[k].toNat : Int) == 92) = (p[k] == 92) := byte_eqn p[k] 92 (by decide)
        cases h93 : p[k] == 93
        case false =>
          rw [h93] at hq93
          cases h92 : p[k] == 92
          case false =>
            rw [h92] at hq92
            go_wp2
            go_round
            case rel => exact ⟨k + 1, m, false, by go_num, rfl, by omega, by omega, by omega, Lib.hid (by rw [← HK.out, HD.out, setI_step _ _ _ _ _ (by rw [h93]; rfl) (by rw [h92]; rfl)])⟩
            case measure => simp [intOf]; omega
          case true =>
            rw [h92] at hq92
            by_cases hl : k + 1 < p.size
            · have q2 : (k : Int) + 1 < (p.size : Int) := by omega
              go_wp2
              go_round
              case rel => exact ⟨k + 2, m, false, by go_num, rfl, by omega, by omega, by omega, Lib.hid (by rw [← HK.out, HD.out, setI_bs _ _ _ _ _ h92 (by rw [byte_drop p (k + 1) hl]; simp), List.drop_drop])⟩
              case measure => simp [intOf]; omega
            · have q2 : decide ((k : Int) + 1 < (p.size : Int)) = false := by simp; omega
              go_wp2
              go_round
              case rel => exact ⟨k + 1, m, false, by go_num, rfl, by omega, by omega, by omega, Lib.hid (by rw [← HK.out, HD.out, setI_step _ _ _ _ _ (by rw [h93]; rfl) (by rw [drop_end p (k + 1) hl]; simp)])⟩
              case measure => simp [intOf]; omega
        case true =>
          rw [h93] at hq93
          cases f
          case false =>
            have HR1 : Hid (R = (k : Int) + 1) := Lib.hid (by rw [← HK.out, HD.out, setI_hit _ _ _ _ h93])
            go_wp2
            go_ret
            exact ⟨ret_int (by rw [HR1.out]), rfl⟩
          case true =>
            have h92 : (p[k] == 92) = false := by rw [show p[k] = 93 by simpa using h93]; rfl
            rw [h92] at hq92
            go_wp2
            go_round
            case rel => exact ⟨k + 1, m, false, by go_num, rfl, by omega, by omega, by omega, Lib.hid (by rw [← HK.out, HD.out, setI_step _ _ _ _ _ (by simp) (by rw [h92]; rfl)])⟩
            case measure => simp [intOf]; omega
      · have q1 : decide ((k : Int) < (p.size : Int)) = false := by simp; omega
        have HR1 : Hid (R = 0) := Lib.hid (by rw [← HK.out, drop_end p k hlt, setI_end])
        go_wp2
        go_ret
        exact ⟨ret_int (by rw [HR1.out]), rfl⟩
end Go.Proofs.Ytbjejnegfojnmaa
