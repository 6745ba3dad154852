/- Walks of package word: arithmetic; 'all'. -/
import Derived.Test.YtdfnkmiabmjolaaW6
namespace Go.Proofs.Ytdfnkmiabmjolaa
open Go.RowKit
set_option linter.unusedVariables false
set_option linter.unusedSimpArgs false

theorem take_snoc (s : ByteArray) (b k : Nat) (hb : b ≤ k) (h : k < s.size) : (s.data.toList.drop b).take (k - b) ++ [s[k]] = (s.data.toList.drop b).take (k + 1 - b) := by
  have e : k + 1 - b = (k - b) + 1 := by omega
  have hl : k - b < (s.data.toList.drop b).length := by rw [drop_len]; omega
  rw [e, List.take_add_one, List.getElem?_drop, show b + (k - b) = k by omega]
  congr 1
  rw [List.getElem?_eq_getElem (by rw [len_data]; exact h)]
  rfl
theorem arith_end (F dp : Nat) (acc : Bytes) : arithF F dp acc [] = .err F 60 := by rw [arithF.eq_def]
theorem arith_cons (F dp : Nat) (acc : Bytes) (c : UInt8) (r : Bytes) : arithF F dp acc (c :: r) =
    if arithStop.contains c then .err (r.length + 1) 61
    else if c == 40 then arithF F (dp + 1) (acc ++ [c]) r
    else if c == 41 && dp > 0 then arithF F (dp - 1) (acc ++ [c]) r
    else if c == 41 then (match r with | 41 :: r' => .ok acc r' | _ => .err (r.length + 1) 61)
    else arithF F dp (acc ++ [c]) r := by rw [arithF.eq_def]; rfl

set_option maxRecDepth 100000 in
set_option maxHeartbeats 4000000 in
theorem arith_calls (g : Nat) (s : ByteArray) (a : Nat) (d : Int) (w : World) (h : ScanAt w g s a d) (ha : a + 3 ≤ s.size) (hs : s.size ≤ 8192) :
    Calls Try.prog 50 #[.pointer (some ⟨g, 0, none⟩)] w
      (ScanPost w g s d (arithF (s.size - a) 0 [] (s.data.toList.drop (a + 3))) (fun _ => False) fun t v _ => v = .string (bstr t)) := by
  obtain ⟨h0, h1, h2, f1, _, hgl⟩ := h.cells
  generalize hR : arithF (s.size - a) 0 [] (s.data.toList.drop (a + 3)) = R
  have HR := Lib.hid hR; clear hR
  go_enter Try.func50, Try.ntmps50
  go_wp2
  go_loop [4, 5] (fun dv i => ∃ k dp : Nat, a + 3 ≤ k ∧ k ≤ s.size ∧ dp ≤ k ∧ i = .int .i64 k ∧ dv = .int .i64 dp ∧ Hid (arithF (s.size - a) dp ((s.data.toList.drop (a + 3)).take (k - (a + 3))) (s.data.toList.drop k) = R)) (fun _ i => s.size - (intOf i).toNat)
  case atStart => exact ⟨a + 3, 0, by omega, by omega, by omega, by go_num, by go_num, Lib.hid (by rw [← HR.out]; simp)⟩
  case round =>
    obtain ⟨k, dp, hk, hk2, hdp, rfl, rfl, HK⟩ := hrel
    clear HR
    by_cases hlt : k < s.size
    · have HD := Lib.hid (byte_drop s k hlt)
      have HT := Lib.hid (take_snoc s (a + 3) k hk hlt)
      have HA := Lib.hid (arith_cons (s.size - a) dp ((s.data.toList.drop (a + 3)).take (k - (a + 3))) s[k] (s.data.toList.drop (k + 1)))
      have hix := indexByte_neg arithStop s[k]
      have hb4 : ((s[k].toNat : Int) == 40) = (s[k] == 40) := byte_eqn s[k] 40 (by decide)
      have hb5 : ((s[k].toNat : Int) == 41) = (s[k] == 41) := byte_eqn s[k] 41 (by decide)
      unfold arithStop at hix
      cases hst : List.contains [39, 34, 92, 96, 10] s[k]
      case true =>
        rw [hst] at hix
        have HST : Hid (arithStop.contains s[k] = true) := Lib.hid (by rw [show arithStop = [39, 34, 92, 96, 10] from rfl, hst])
        clear hst
        go_wp2_with (first | (go_at_call 28; refine (Try.strings_IndexByte _ _ _).mono ?_; rintro e w' ⟨rfl, rfl⟩) | (go_at_call 36; refine (fail_calls _ _ _ _).mono ?_; rintro e w1 ⟨rfl, rfl⟩))
        refine ⟨rfl, ?_⟩
        rw [← HK.out, HD.out, HA.out, if_pos HST.out, drop_len]
        exact ⟨k, by omega, by omega, rfl, Chg.refl _ _⟩
      case false =>
        rw [hst] at hix
        have HST : Hid (¬ arithStop.contains s[k] = true) := Lib.hid (by rw [show arithStop = [39, 34, 92, 96, 10] from rfl, hst]; simp)
        clear hst
        cases h4 : s[k] == 40
        case true =>
          rw [h4] at hb4
          go_wp2_with (go_at_call 28; refine (Try.strings_IndexByte _ _ _).mono ?_; rintro e w' ⟨rfl, rfl⟩)
          go_round
          case rel => exact ⟨k + 1, dp + 1, by omega, by omega, by omega, by go_num, by go_num, Lib.hid (by rw [← HK.out, HD.out, HA.out, if_neg HST.out, if_pos h4, HT.out])⟩
          case measure => simp [intOf]; omega
        case false =>
          rw [h4] at hb4
          cases h5 : s[k] == 41
          case true =>
            rw [h5] at hb5
            by_cases hp : 0 < dp
            · go_wp2_with (go_at_call 28; refine (Try.strings_IndexByte _ _ _).mono ?_; rintro e w' ⟨rfl, rfl⟩)
              go_round
              case rel => exact ⟨k + 1, dp - 1, by omega, by omega, by omega, by go_num, by go_num, Lib.hid (by rw [← HK.out, HD.out, HA.out, if_neg HST.out, if_neg (by simp [h4]), if_pos (by simp [h5, hp]), HT.out])⟩
              case measure => simp [intOf]; omega
            · obtain rfl : dp = 0 := by omega
              by_cases hl : k + 1 < s.size
              · have HD2 := Lib.hid (byte_drop s (k + 1) hl)
                have hb6 : ((s[k + 1].toNat : Int) == 41) = (s[k + 1] == 41) := byte_eqn s[k + 1] 41 (by decide)
                have hb7 : ((s[k + 1].toNat : Int) != 41) = (s[k + 1] != 41) := by rw [bne, bne, hb6]
                have e1 : ((k : Int) + 1 == (s.size : Int)) = false := by simp; omega
                cases h6 : s[k + 1] == 41
                case true =>
                  have h7 : (s[k + 1] != 41) = false := by rw [bne, h6]; rfl
                  have h6' : s[k + 1] = 41 := by simpa using h6
                  have H6 := Lib.hid h6'; clear h6'
                  rw [h7] at hb7
                  rw [h6] at hb6
                  have HX := Lib.hid (extract_bstr s (a + 3) k)
                  have e2 : (a : Int) + 3 ≤ (k : Int) := by omega
                  have e3 : (k : Int) ≤ (s.size : Int) := by omega
                  have e4 : (0 : Int) ≤ (a : Int) + 3 := by omega
                  go_wp2_with (go_at_call 28; refine (Try.strings_IndexByte _ _ _).mono ?_; rintro e w' ⟨rfl, rfl⟩)
                  go_ret
                  rw [← HK.out, HD.out, HA.out, if_neg HST.out, if_neg (by simp [h4]), if_neg (by simp), if_pos h5, HD2.out, H6.out]
                  exact ⟨_, k + 2, rfl, by omega, rfl, congrArg Value.string HX.out, h.at' _, (Chg.refl _ _).setCell (fun _ => .inl rfl) _⟩
                case false =>
                  have h7 : (s[k + 1] != 41) = true := by rw [bne, h6]; rfl
                  rw [h7] at hb7
                  rw [h6] at hb6
                  have h6' : s[k + 1] ≠ 41 := by simpa using h6
                  have H6 := Lib.hid h6'; clear h6'
                  go_wp2_with (first | (go_at_call 28; refine (Try.strings_IndexByte _ _ _).mono ?_; rintro e w' ⟨rfl, rfl⟩) | (go_at_call 36; refine (fail_calls _ _ _ _).mono ?_; rintro e w1 ⟨rfl, rfl⟩))
                  refine ⟨rfl, ?_⟩
                  rw [← HK.out, HD.out, HA.out, if_neg HST.out, if_neg (by simp [h4]), if_neg (by simp), if_pos h5, HD2.out]
                  split
                  · rename_i e; exact absurd (List.cons.inj e).1 H6.out
                  · rw [← HD2.out, drop_len]; exact ⟨k, by omega, by omega, rfl, Chg.refl _ _⟩
              · have HD2 := Lib.hid (drop_end s (k + 1) hl)
                have e1 : ((k : Int) + 1 == (s.size : Int)) = true := by simp; omega
                go_wp2_with (first | (go_at_call 28; refine (Try.strings_IndexByte _ _ _).mono ?_; rintro e w' ⟨rfl, rfl⟩) | (go_at_call 36; refine (fail_calls _ _ _ _).mono ?_; rintro e w1 ⟨rfl, rfl⟩))
                refine ⟨rfl, ?_⟩
                rw [← HK.out, HD.out, HA.out, if_neg HST.out, if_neg (by simp [h4]), if_neg (by simp), if_pos h5, HD2.out]
                exact ⟨k, by omega, by simp; omega, rfl, Chg.refl _ _⟩
          case false =>
            rw [h5] at hb5
            go_wp2_with (go_at_call 28; refine (Try.strings_IndexByte _ _ _).mono ?_; rintro e w' ⟨rfl, rfl⟩)
            go_round
            case rel => exact ⟨k + 1, dp, by omega, by omega, by omega, by go_num, rfl, Lib.hid (by rw [← HK.out, HD.out, HA.out, if_neg HST.out, if_neg (by simp [h4]), if_neg (by simp [h5]), if_neg (by simp [h5]), HT.out])⟩
            case measure => simp [intOf]; omega
    · have HD := Lib.hid (drop_end s k hlt)
      go_wp2_with (go_at_call 36; refine (fail_calls _ _ _ _).mono ?_; rintro e w1 ⟨rfl, rfl⟩)
      refine ⟨rfl, ?_⟩
      rw [← HK.out, HD.out, arith_end]
      exact ⟨a, by omega, by omega, rfl, Chg.refl _ _⟩
end Go.Proofs.Ytdfnkmiabmjolaa
