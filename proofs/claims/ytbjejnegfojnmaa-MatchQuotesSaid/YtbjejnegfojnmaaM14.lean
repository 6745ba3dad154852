/- Walks of the reference of match: a byte of a set, and what stands at a place. -/
import Derived.Test.YtbjejnegfojnmaaM13
namespace Go.Proofs.Ytbjejnegfojnmaa
open Go.RowKit
set_option linter.unusedVariables false
set_option linter.unusedSimpArgs false

set_option maxRecDepth 100000 in
set_option maxHeartbeats 4000000 in
theorem In_calls (s : ByteArray) (c : UInt8) (w : World) (hs : s.size ≤ 140737488355328) :
    Calls Try.prog 29 #[.string s, .int .u8 c.toNat] w fun e w' => e = .returned (.bool (inL s.data.toList c)) ∧ w = w' := by
  by_cases h0 : 0 < s.size
  · have q0 : (0 : Int) < (s.size : Int) := by omega
    have hq33 : ((s[0].toNat : Int) == 33) = (s[0] == 33) := byte_eqn s[0] 33 (by decide)
    cases h33 : s[0] == 33
    case true =>
      rw [h33] at hq33
      rw [inL_cut s.data.toList c true (s.data.toList.drop 1) (by rw [data_cons s h0, List.head?_cons, show s[0] = 33 by simpa using h33]; rfl) rfl, drop_len]
      generalize hR : inF (s.size - 1 + 1) (s.data.toList.drop 1) c = R
      have HR := Lib.hid hR; clear hR h33
      go_enter Try.func29, Try.ntmps29
      go_wp2
      go_loop [5] (fun iv => ∃ (i n : Nat), iv = .int .i64 i ∧ i ≤ s.size ∧ s.size < n + i ∧ Hid (inF n (s.data.toList.drop i) c = R)) (fun iv => s.size - (intOf iv).toNat)
      case atStart => exact ⟨1, s.size - 1 + 1, rfl, by omega, by omega, Lib.hid (by rw [← HR.out]; try rfl)⟩
      case round =>
        obtain ⟨i, n, rfl, hi, hn, HK⟩ := hrel
        by_cases hlt : i < s.size
        · obtain ⟨g, rfl⟩ : ∃ g, n = g + 1 := ⟨n - 1, by omega⟩
          have p0 : (0 : Int) ≤ (i : Int) := by omega
          have p1 : (i : Int) < (s.size : Int) := by omega
          have hnil : s.data.toList.drop i ≠ [] := by rw [byte_drop s i hlt]; simp
          have hsg := rsign_calls s i w hlt hs
          go_wp2_with fail
          refine Calls.mono hsg ?_
          clear hsg
          rintro e w1 ⟨⟨k, rfl, hk, hik, hks⟩, rfl⟩
          generalize hA : (signL (s.data.toList.drop i)).1 = a at *
          have HA := Lib.hid hA; clear hA
          have r0 : (0 : Int) ≤ (k : Int) := by omega
          by_cases h1 : k + 1 < s.size ∧ (∀ h : k < s.size, (s[k] == 45) = true)
          · obtain ⟨h1, h45⟩ := h1
            have hk0 : k < s.size := by omega
            have h45 := h45 hk0
            have r1 : (k : Int) + 1 < (s.size : Int) := by omega
            have r2 : (k : Int) < (s.size : Int) := by omega
            have r3 : (0 : Int) ≤ (k : Int) + 1 := by omega
            have hq45 : ((s[k].toNat : Int) == 45) = true := (byte_eqn s[k] 45 (by decide)).trans h45
            have hdd : (signL (s.data.toList.drop i)).2 = 45 :: s[k + 1] :: s.data.toList.drop (k + 2) := by
              rw [hk, byte_drop s k hk0, byte_drop s (k + 1) h1, show s[k] = 45 by simpa using h45]
            have hF := inF_range g _ c _ _ hnil hdd
            have hd1 := byte_drop s (k + 1) h1
            rw [← hd1] at hF
            have HF := Lib.hid hF
            have hsg := rsign_calls s (k + 1) w h1 hs
            clear hF hdd hd1 hnil h45 hk
            go_wp2_with fail
            refine Calls.mono hsg ?_
            clear hsg
            rintro e w1 ⟨⟨j, rfl, hj, hkj, hjs⟩, rfl⟩
            generalize hB : (signL (s.data.toList.drop (k + 1))).1 = b at *
            have HJ := Lib.hid hj; clear hj
            cases hin : (decide ((a.toNat : Int) ≤ (c.toNat : Int)) && decide ((c.toNat : Int) ≤ (b.toNat : Int)))
            case true =>
              have HR1 : Hid (R = true) := Lib.hid (by rw [← HK.out, HF.out, HA.out, ← le_byte, ← le_byte, hin]; rfl)
              rw [Bool.and_eq_true] at hin
              obtain ⟨m1, m2⟩ := hin
              have m1' : decide (a.toNat ≤ c.toNat) = true := by simpa using m1
              have m2' : decide (c.toNat ≤ b.toNat) = true := by simpa using m2
              clear hB
              go_wp2
              go_ret
              exact ⟨by rw [HR1.out]; simp [bne], rfl⟩
            case false =>
              have HK1 : Hid (inF g (s.data.toList.drop j) c = R) := Lib.hid (by rw [← HK.out, HF.out, HA.out, ← le_byte, ← le_byte, hin, HJ.out]; rfl)
              have hin2 : decide ((a.toNat : Int) ≤ (c.toNat : Int)) = false ∨ decide ((a.toNat : Int) ≤ (c.toNat : Int)) = true ∧ decide ((c.toNat : Int) ≤ (b.toNat : Int)) = false := by
                revert hin; cases decide ((a.toNat : Int) ≤ (c.toNat : Int)) <;> simp
              clear hB hin
              rcases hin2 with m1 | ⟨m1, m2⟩
              · have m1' : decide (a.toNat ≤ c.toNat) = false := by simpa using m1
                go_wp2
                go_round
                case rel => exact ⟨j, g, rfl, by omega, by omega, HK1⟩
                case measure => simp [intOf]; omega
              · have m1' : decide (a.toNat ≤ c.toNat) = true := by simpa using m1
                have m2' : decide (c.toNat ≤ b.toNat) = false := by simpa using m2
                go_wp2
                go_round
                case rel => exact ⟨j, g, rfl, by omega, by omega, HK1⟩
                case measure => simp [intOf]; omega
          · have hF := inF_one g (s.data.toList.drop i) c hnil (by
              intro d r e
              apply h1
              rw [hk] at e
              have h2 := congrArg List.length e
              rw [drop_len] at h2
              simp at h2
              refine ⟨by omega, fun h => ?_⟩
              rw [byte_drop s k h] at e
              simp only [List.cons.injEq] at e
              simpa using e.1)
            have HF := Lib.hid hF
            have HJ := Lib.hid hk
            have hr : decide ((k : Int) + 1 < (s.size : Int)) = false ∨ ∃ h : k < s.size, (k : Int) + 1 < (s.size : Int) ∧ ((s[k].toNat : Int) == 45) = false := by
              by_cases h2 : k + 1 < s.size
              · refine .inr ⟨by omega, by omega, ?_⟩
                refine (byte_eqn s[k] 45 (by decide)).trans ?_
                cases h45 : s[k] == 45
                · rfl
                · exact absurd ⟨h2, fun _ => h45⟩ h1
              · left; rw [decide_eq_false_iff_not]; omega
            clear hF hk hnil h1
            cases hin : (decide ((a.toNat : Int) ≤ (c.toNat : Int)) && decide ((c.toNat : Int) ≤ (a.toNat : Int)))
            case true =>
              have HR1 : Hid (R = true) := Lib.hid (by rw [← HK.out, HF.out, HA.out, ← both_byte, ← le_byte, ← le_byte, hin]; rfl)
              rw [Bool.and_eq_true] at hin
              obtain ⟨m1, m2⟩ := hin
              have m1' : decide (a.toNat ≤ c.toNat) = true := by simpa using m1
              have m2' : decide (c.toNat ≤ a.toNat) = true := by simpa using m2
              rcases hr with hr | ⟨h2, hr, hq⟩
              · have hr' : decide (k + 1 < s.size) = false := by rw [decide_eq_false_iff_not] at hr ⊢; omega
                go_wp2
                go_ret
                exact ⟨by rw [HR1.out]; simp [bne], rfl⟩
              · have r2 : (k : Int) < (s.size : Int) := by omega
                go_wp2
                go_ret
                exact ⟨by rw [HR1.out]; simp [bne], rfl⟩
            case false =>
              have HK1 : Hid (inF g (s.data.toList.drop k) c = R) := Lib.hid (by rw [← HK.out, HF.out, HA.out, ← both_byte, ← le_byte, ← le_byte, hin, HJ.out]; rfl)
              have hin2 : decide ((a.toNat : Int) ≤ (c.toNat : Int)) = false ∨ decide ((a.toNat : Int) ≤ (c.toNat : Int)) = true ∧ decide ((c.toNat : Int) ≤ (a.toNat : Int)) = false := by
                revert hin; cases decide ((a.toNat : Int) ≤ (c.toNat : Int)) <;> simp
              clear hin
              rcases hin2 with m1 | ⟨m1, m2⟩
              all_goals
                have m1' := m1
                simp only [Int.ofNat_le] at m1'
                try (have m2' := m2; simp only [Int.ofNat_le] at m2')
                rcases hr with hr | ⟨h2, hr, hq⟩
              all_goals
                try (have hr' : decide (k + 1 < s.size) = false := by rw [decide_eq_false_iff_not] at hr ⊢; omega)
                try (have r2 : (k : Int) < (s.size : Int) := by omega)
                go_wp2
                go_round
                case rel => exact ⟨k, g, rfl, by omega, by omega, HK1⟩
                case measure => simp [intOf]; omega
        · have p1 : decide ((i : Int) < (s.size : Int)) = false := by rw [decide_eq_false_iff_not]; omega
          have p1' : decide (i < s.size) = false := by rw [decide_eq_false_iff_not]; omega
          have HR1 : Hid (R = false) := Lib.hid (by rw [← HK.out, drop_end s i hlt, inF_nil])
          go_wp2
          go_ret
          exact ⟨by rw [HR1.out]; simp, rfl⟩
    case false =>
      rw [h33] at hq33
      rw [inL_cut s.data.toList c false s.data.toList (by rw [data_cons s h0, List.head?_cons]; simpa using h33) rfl, len_data]
      generalize hR : inF (s.size + 1) s.data.toList c = R
      have HR := Lib.hid hR; clear hR h33
      go_enter Try.func29, Try.ntmps29
      go_wp2
      go_loop [5] (fun iv => ∃ (i n : Nat), iv = .int .i64 i ∧ i ≤ s.size ∧ s.size < n + i ∧ Hid (inF n (s.data.toList.drop i) c = R)) (fun iv => s.size - (intOf iv).toNat)
      case atStart => exact ⟨0, s.size + 1, rfl, by omega, by omega, Lib.hid (by rw [← HR.out]; try rfl)⟩
      case round =>
        obtain ⟨i, n, rfl, hi, hn, HK⟩ := hrel
        by_cases hlt : i < s.size
        · obtain ⟨g, rfl⟩ : ∃ g, n = g + 1 := ⟨n - 1, by omega⟩
          have p0 : (0 : Int) ≤ (i : Int) := by omega
          have p1 : (i : Int) < (s.size : Int) := by omega
          have hnil : s.data.toList.drop i ≠ [] := by rw [byte_drop s i hlt]; simp
          have hsg := rsign_calls s i w hlt hs
          go_wp2_with fail
          refine Calls.mono hsg ?_
          clear hsg
          rintro e w1 ⟨⟨k, rfl, hk, hik, hks⟩, rfl⟩
          generalize hA : (signL (s.data.toList.drop i)).1 = a at *
          have HA := Lib.hid hA; clear hA
          have r0 : (0 : Int) ≤ (k : Int) := by omega
          by_cases h1 : k + 1 < s.size ∧ (∀ h : k < s.size, (s[k] == 45) = true)
          · obtain ⟨h1, h45⟩ := h1
            have hk0 : k < s.size := by omega
            have h45 := h45 hk0
            have r1 : (k : Int) + 1 < (s.size : Int) := by omega
            have r2 : (k : Int) < (s.size : Int) := by omega
            have r3 : (0 : Int) ≤ (k : Int) + 1 := by omega
            have hq45 : ((s[k].toNat : Int) == 45) = true := (byte_eqn s[k] 45 (by decide)).trans h45
            have hdd : (signL (s.data.toList.drop i)).2 = 45 :: s[k + 1] :: s.data.toList.drop (k + 2) := by
              rw [hk, byte_drop s k hk0, byte_drop s (k + 1) h1, show s[k] = 45 by simpa using h45]
            have hF := inF_range g _ c _ _ hnil hdd
            have hd1 := byte_drop s (k + 1) h1
            rw [← hd1] at hF
            have HF := Lib.hid hF
            have hsg := rsign_calls s (k + 1) w h1 hs
            clear hF hdd hd1 hnil h45 hk
            go_wp2_with fail
            refine Calls.mono hsg ?_
            clear hsg
            rintro e w1 ⟨⟨j, rfl, hj, hkj, hjs⟩, rfl⟩
            generalize hB : (signL (s.data.toList.drop (k + 1))).1 = b at *
            have HJ := Lib.hid hj; clear hj
            cases hin : (decide ((a.toNat : Int) ≤ (c.toNat : Int)) && decide ((c.toNat : Int) ≤ (b.toNat : Int)))
            case true =>
              have HR1 : Hid (R = true) := Lib.hid (by rw [← HK.out, HF.out, HA.out, ← le_byte, ← le_byte, hin]; rfl)
              rw [Bool.and_eq_true] at hin
              obtain ⟨m1, m2⟩ := hin
              have m1' : decide (a.toNat ≤ c.toNat) = true := by simpa using m1
              have m2' : decide (c.toNat ≤ b.toNat) = true := by simpa using m2
              clear hB
              go_wp2
              go_ret
              exact ⟨by rw [HR1.out]; simp [bne], rfl⟩
            case false =>
              have HK1 : Hid (inF g (s.data.toList.drop j) c = R) := Lib.hid (by rw [← HK.out, HF.out, HA.out, ← le_byte, ← le_byte, hin, HJ.out]; rfl)
              have hin2 : decide ((a.toNat : Int) ≤ (c.toNat : Int)) = false ∨ decide ((a.toNat : Int) ≤ (c.toNat : Int)) = true ∧ decide ((c.toNat : Int) ≤ (b.toNat : Int)) = false := by
                revert hin; cases decide ((a.toNat : Int) ≤ (c.toNat : Int)) <;> simp
              clear hB hin
              rcases hin2 with m1 | ⟨m1, m2⟩
              · have m1' : decide (a.toNat ≤ c.toNat) = false := by simpa using m1
                go_wp2
                go_round
                case rel => exact ⟨j, g, rfl, by omega, by omega, HK1⟩
                case measure => simp [intOf]; omega
              · have m1' : decide (a.toNat ≤ c.toNat) = true := by simpa using m1
                have m2' : decide (c.toNat ≤ b.toNat) = false := by simpa using m2
                go_wp2
                go_round
                case rel => exact ⟨j, g, rfl, by omega, by omega, HK1⟩
                case measure => simp [intOf]; omega
          · have hF := inF_one g (s.data.toList.drop i) c hnil (by
              intro d r e
              apply h1
              rw [hk] at e
              have h2 := congrArg List.length e
              rw [drop_len] at h2
              simp at h2
              refine ⟨by omega, fun h => ?_⟩
              rw [byte_drop s k h] at e
              simp only [List.cons.injEq] at e
              simpa using e.1)
            have HF := Lib.hid hF
            have HJ := Lib.hid hk
            have hr : decide ((k : Int) + 1 < (s.size : Int)) = false ∨ ∃ h : k < s.size, (k : Int) + 1 < (s.size : Int) ∧ ((s[k].toNat : Int) == 45) = false := by
              by_cases h2 : k + 1 < s.size
              · refine .inr ⟨by omega, by omega, ?_⟩
                refine (byte_eqn s[k] 45 (by decide)).trans ?_
                cases h45 : s[k] == 45
                · rfl
                · exact absurd ⟨h2, fun _ => h45⟩ h1
              · left; rw [decide_eq_false_iff_not]; omega
            clear hF hk hnil h1
            cases hin : (decide ((a.toNat : Int) ≤ (c.toNat : Int)) && decide ((c.toNat : Int) ≤ (a.toNat : Int)))
            case true =>
              have HR1 : Hid (R = true) := Lib.hid (by rw [← HK.out, HF.out, HA.out, ← both_byte, ← le_byte, ← le_byte, hin]; rfl)
              rw [Bool.and_eq_true] at hin
              obtain ⟨m1, m2⟩ := hin
              have m1' : decide (a.toNat ≤ c.toNat) = true := by simpa using m1
              have m2' : decide (c.toNat ≤ a.toNat) = true := by simpa using m2
              rcases hr with hr | ⟨h2, hr, hq⟩
              · have hr' : decide (k + 1 < s.size) = false := by rw [decide_eq_false_iff_not] at hr ⊢; omega
                go_wp2
                go_ret
                exact ⟨by rw [HR1.out]; simp [bne], rfl⟩
              · have r2 : (k : Int) < (s.size : Int) := by omega
                go_wp2
                go_ret
                exact ⟨by rw [HR1.out]; simp [bne], rfl⟩
            case false =>
              have HK1 : Hid (inF g (s.data.toList.drop k) c = R) := Lib.hid (by rw [← HK.out, HF.out, HA.out, ← both_byte, ← le_byte, ← le_byte, hin, HJ.out]; rfl)
              have hin2 : decide ((a.toNat : Int) ≤ (c.toNat : Int)) = false ∨ decide ((a.toNat : Int) ≤ (c.toNat : Int)) = true ∧ decide ((c.toNat : Int) ≤ (a.toNat : Int)) = false := by
                revert hin; cases decide ((a.toNat : Int) ≤ (c.toNat : Int)) <;> simp
              clear hin
              rcases hin2 with m1 | ⟨m1, m2⟩
              all_goals
                have m1' := m1
                simp only [Int.ofNat_le] at m1'
                try (have m2' := m2; simp only [Int.ofNat_le] at m2')
                rcases hr with hr | ⟨h2, hr, hq⟩
              all_goals
                try (have hr' : decide (k + 1 < s.size) = false := by rw [decide_eq_false_iff_not] at hr ⊢; omega)
                try (have r2 : (k : Int) < (s.size : Int) := by omega)
                go_wp2
                go_round
                case rel => exact ⟨k, g, rfl, by omega, by omega, HK1⟩
                case measure => simp [intOf]; omega
        · have p1 : decide ((i : Int) < (s.size : Int)) = false := by rw [decide_eq_false_iff_not]; omega
          have p1' : decide (i < s.size) = false := by rw [decide_eq_false_iff_not]; omega
          have HR1 : Hid (R = false) := Lib.hid (by rw [← HK.out, drop_end s i hlt, inF_nil])
          go_wp2
          go_ret
          exact ⟨by rw [HR1.out]; simp, rfl⟩
  · have q0 : decide ((0 : Int) < (s.size : Int)) = false := by rw [decide_eq_false_iff_not]; omega
    have q0' : decide (0 < s.size) = false := by rw [decide_eq_false_iff_not]; omega
    rw [inL_cut s.data.toList c false s.data.toList (by rw [show s.data.toList = [] from drop_end s 0 h0]; rfl) rfl, len_data]
    generalize hR : inF (s.size + 1) s.data.toList c = R
    have HR := Lib.hid hR; clear hR
    go_enter Try.func29, Try.ntmps29
    go_wp2
    go_loop [5] (fun iv => ∃ (i n : Nat), iv = .int .i64 i ∧ i ≤ s.size ∧ s.size < n + i ∧ Hid (inF n (s.data.toList.drop i) c = R)) (fun iv => s.size - (intOf iv).toNat)
    case atStart => exact ⟨0, s.size + 1, rfl, by omega, by omega, Lib.hid (by rw [← HR.out]; try rfl)⟩
    case round =>
      obtain ⟨i, n, rfl, hi, hn, HK⟩ := hrel
      by_cases hlt : i < s.size
      · obtain ⟨g, rfl⟩ : ∃ g, n = g + 1 := ⟨n - 1, by omega⟩
        have p0 : (0 : Int) ≤ (i : Int) := by omega
        have p1 : (i : Int) < (s.size : Int) := by omega
        have hnil : s.data.toList.drop i ≠ [] := by rw [byte_drop s i hlt]; simp
        have hsg := rsign_calls s i w hlt hs
        go_wp2_with fail
        refine Calls.mono hsg ?_
        clear hsg
        rintro e w1 ⟨⟨k, rfl, hk, hik, hks⟩, rfl⟩
        generalize hA : (signL (s.data.toList.drop i)).1 = a at *
        have HA := Lib.hid hA; clear hA
        have r0 : (0 : Int) ≤ (k : Int) := by omega
        by_cases h1 : k + 1 < s.size ∧ (∀ h : k < s.size, (s[k] == 45) = true)
        · obtain ⟨h1, h45⟩ := h1
          have hk0 : k < s.size := by omega
          have h45 := h45 hk0
          have r1 : (k : Int) + 1 < (s.size : Int) := by omega
          have r2 : (k : Int) < (s.size : Int) := by omega
          have r3 : (0 : Int) ≤ (k : Int) + 1 := by omega
          have hq45 : ((s[k].toNat : Int) == 45) = true := (byte_eqn s[k] 45 (by decide)).trans h45
          have hdd : (signL (s.data.toList.drop i)).2 = 45 :: s[k + 1] :: s.data.toList.drop (k + 2) := by
            rw [hk, byte_drop s k hk0, byte_drop s (k + 1) h1, show s[k] = 45 by simpa using h45]
          have hF := inF_range g _ c _ _ hnil hdd
          have hd1 := byte_drop s (k + 1) h1
          rw [← hd1] at hF
          have HF := Lib.hid hF
          have hsg := rsign_calls s (k + 1) w h1 hs
          clear hF hdd hd1 hnil h45 hk
          go_wp2_with fail
          refine Calls.mono hsg ?_
          clear hsg
          rintro e w1 ⟨⟨j, rfl, hj, hkj, hjs⟩, rfl⟩
          generalize hB : (signL (s.data.toList.drop (k + 1))).1 = b at *
          have HJ := Lib.hid hj; clear hj
          cases hin : (decide ((a.toNat : Int) ≤ (c.toNat : Int)) && decide ((c.toNat : Int) ≤ (b.toNat : Int)))
          case true =>
            have HR1 : Hid (R = true) := Lib.hid (by rw [← HK.out, HF.out, HA.out, ← le_byte, ← le_byte, hin]; rfl)
            rw [Bool.and_eq_true] at hin
            obtain ⟨m1, m2⟩ := hin
            have m1' : decide (a.toNat ≤ c.toNat) = true := by simpa using m1
            have m2' : decide (c.toNat ≤ b.toNat) = true := by simpa using m2
            clear hB
            go_wp2
            go_ret
            exact ⟨by rw [HR1.out]; simp [bne], rfl⟩
          case false =>
            have HK1 : Hid (inF g (s.data.toList.drop j) c = R) := Lib.hid (by rw [← HK.out, HF.out, HA.out, ← le_byte, ← le_byte, hin, HJ.out]; rfl)
            have hin2 : decide ((a.toNat : Int) ≤ (c.toNat : Int)) = false ∨ decide ((a.toNat : Int) ≤ (c.toNat : Int)) = true ∧ decide ((c.toNat : Int) ≤ (b.toNat : Int)) = false := by
              revert hin; cases decide ((a.toNat : Int) ≤ (c.toNat : Int)) <;> simp
            clear hB hin
            rcases hin2 with m1 | ⟨m1, m2⟩
            · have m1' : decide (a.toNat ≤ c.toNat) = false := by simpa using m1
              go_wp2
              go_round
              case rel => exact ⟨j, g, rfl, by omega, by omega, HK1⟩
              case measure => simp [intOf]; omega
            · have m1' : decide (a.toNat ≤ c.toNat) = true := by simpa using m1
              have m2' : decide (c.toNat ≤ b.toNat) = false := by simpa using m2
              go_wp2
              go_round
              case rel => exact ⟨j, g, rfl, by omega, by omega, HK1⟩
              case measure => simp [intOf]; omega
        · have hF := inF_one g (s.data.toList.drop i) c hnil (by
            intro d r e
            apply h1
            rw [hk] at e
            have h2 := congrArg List.length e
            rw [drop_len] at h2
            simp at h2
            refine ⟨by omega, fun h => ?_⟩
            rw [byte_drop s k h] at e
            simp only [List.cons.injEq] at e
            simpa using e.1)
          have HF := Lib.hid hF
          have HJ := Lib.hid hk
          have hr : decide ((k : Int) + 1 < (s.size : Int)) = false ∨ ∃ h : k < s.size, (k : Int) + 1 < (s.size : Int) ∧ ((s[k].toNat : Int) == 45) = false := by
            by_cases h2 : k + 1 < s.size
            · refine .inr ⟨by omega, by omega, ?_⟩
              refine (byte_eqn s[k] 45 (by decide)).trans ?_
              cases h45 : s[k] == 45
              · rfl
              · exact absurd ⟨h2, fun _ => h45⟩ h1
            · left; rw [decide_eq_false_iff_not]; omega
          clear hF hk hnil h1
          cases hin : (decide ((a.toNat : Int) ≤ (c.toNat : Int)) && decide ((c.toNat : Int) ≤ (a.toNat : Int)))
          case true =>
            have HR1 : Hid (R = true) := Lib.hid (by rw [← HK.out, HF.out, HA.out, ← both_byte, ← le_byte, ← le_byte, hin]; rfl)
            rw [Bool.and_eq_true] at hin
            obtain ⟨m1, m2⟩ := hin
            have m1' : decide (a.toNat ≤ c.toNat) = true := by simpa using m1
            have m2' : decide (c.toNat ≤ a.toNat) = true := by simpa using m2
            rcases hr with hr | ⟨h2, hr, hq⟩
            · have hr' : decide (k + 1 < s.size) = false := by rw [decide_eq_false_iff_not] at hr ⊢; omega
              go_wp2
              go_ret
              exact ⟨by rw [HR1.out]; simp [bne], rfl⟩
            · have r2 : (k : Int) < (s.size : Int) := by omega
              go_wp2
              go_ret
              exact ⟨by rw [HR1.out]; simp [bne], rfl⟩
          case false =>
            have HK1 : Hid (inF g (s.data.toList.drop k) c = R) := Lib.hid (by rw [← HK.out, HF.out, HA.out, ← both_byte, ← le_byte, ← le_byte, hin, HJ.out]; rfl)
            have hin2 : decide ((a.toNat : Int) ≤ (c.toNat : Int)) = false ∨ decide ((a.toNat : Int) ≤ (c.toNat : Int)) = true ∧ decide ((c.toNat : Int) ≤ (a.toNat : Int)) = false := by
              revert hin; cases decide ((a.toNat : Int) ≤ (c.toNat : Int)) <;> simp
            clear hin
            rcases hin2 with m1 | ⟨m1, m2⟩
            all_goals
              have m1' := m1
              simp only [Int.ofNat_le] at m1'
              try (have m2' := m2; simp only [Int.ofNat_le] at m2')
              rcases hr with hr | ⟨h2, hr, hq⟩
            all_goals
              try (have hr' : decide (k + 1 < s.size) = false := by rw [decide_eq_false_iff_not] at hr ⊢; omega)
              try (have r2 : (k : Int) < (s.size : Int) := by omega)
              go_wp2
              go_round
              case rel => exact ⟨k, g, rfl, by omega, by omega, HK1⟩
              case measure => simp [intOf]; omega
      · have p1 : decide ((i : Int) < (s.size : Int)) = false := by rw [decide_eq_false_iff_not]; omega
        have p1' : decide (i < s.size) = false := by rw [decide_eq_false_iff_not]; omega
        have HR1 : Hid (R = false) := Lib.hid (by rw [← HK.out, drop_end s i hlt, inF_nil])
        go_wp2
        go_ret
        exact ⟨by rw [HR1.out]; simp, rfl⟩
end Go.Proofs.Ytbjejnegfojnmaa
