/- rehearsallaw02.MatchStars: it returns true for every pattern and every text, and they read behind the call as before. -/
import Derived.Test.YtbjejnegfojnmaaM9
import Derived.Test.YtbjejnegfojnmaaRows
import Derived.WalkKit
import Derived.ProofKit
import Derived.OpenShut
import Derived.SizedLaws
namespace Go.Proofs.Ytbjejnegfojnmaa
open Go.RowKit
set_option linter.unusedVariables false
set_option linter.unusedSimpArgs false

theorem bstr_append (s t : Bytes) : bstr s ++ bstr t = bstr (s ++ t) := ByteArray.mk_append_mk s t
theorem star_text (p : ByteArray) : ((⟨#[42]⟩ : ByteArray) ++ p ++ ⟨#[42]⟩) = bstr (42 :: p.data.toList ++ [42]) := by
  have h : bstr [42] ++ bstr p.data.toList ++ bstr [42] = bstr (42 :: p.data.toList ++ [42]) := by simp only [bstr_append]; rfl
  rw [bstr_of] at h
  exact h
/-- Some part of the text up to here fits. -/
def Fnd (p s : Bytes) (i k : Nat) : Prop := ∃ i' k', (i' < i ∨ i' = i ∧ k' < k) ∧ i' ≤ k' ∧ k' ≤ s.length ∧ matchB p ((s.drop i').take (k' - i')) = true
theorem fnd_start (p s : Bytes) : ¬ Fnd p s 0 0 := by
  rintro ⟨i, k, h, _⟩; omega
theorem fnd_row (p s : Bytes) (i : Nat) : Fnd p s i i ↔ Fnd p s i 0 := by
  constructor
  · rintro ⟨i', k', h, h1, h2⟩; exact ⟨i', k', .inl (by omega), h1, h2⟩
  · rintro ⟨i', k', h, h1, h2⟩; exact ⟨i', k', .inl (by omega), h1, h2⟩
theorem fnd_old (p s : Bytes) (i k : Nat) (h : Fnd p s i k) : Fnd p s i (k + 1) := by
  obtain ⟨i', k', h, h1⟩ := h
  exact ⟨i', k', by omega, h1⟩
theorem fnd_new (p s : Bytes) (i k : Nat) (h1 : i ≤ k) (h2 : k ≤ s.length) (h : matchB p ((s.drop i).take (k - i)) = true) : Fnd p s i (k + 1) := ⟨i, k, .inr ⟨rfl, by omega⟩, h1, h2, h⟩
theorem fnd_not (p s : Bytes) (i k : Nat) (h0 : ¬ Fnd p s i k) (h : matchB p ((s.drop i).take (k - i)) = false) : ¬ Fnd p s i (k + 1) := by
  rintro ⟨i', k', h1, h2, h3, h4⟩
  by_cases e : i' = i ∧ k' = k
  · obtain ⟨rfl, rfl⟩ := e
    rw [h] at h4; cases h4
  · exact h0 ⟨i', k', by omega, h2, h3, h4⟩
theorem fnd_next (p s : Bytes) (i : Nat) : Fnd p s i (s.length + 1) ↔ Fnd p s (i + 1) 0 := by
  constructor
  · rintro ⟨i', k', h, h1, h2⟩; exact ⟨i', k', .inl (by omega), h1, h2⟩
  · rintro ⟨i', k', h, h1, h2⟩; exact ⟨i', k', by omega, h1, h2⟩
theorem fnd_all (p s : Bytes) : Fnd p s (s.length + 1) 0 ↔ ∃ i k, i ≤ k ∧ k ≤ s.length ∧ matchB p ((s.drop i).take (k - i)) = true := by
  constructor
  · rintro ⟨i', k', h, h1, h2⟩; exact ⟨i', k', h1, h2⟩
  · rintro ⟨i', k', h1, h2⟩; exact ⟨i', k', .inl (by omega), h1, h2⟩
theorem last_not (p : ByteArray) (h : ∀ h0 : 0 < p.size, (p[p.size - 1] == 92) = false) : p.data.toList.getLast? ≠ some 92 := by
  intro e
  by_cases h0 : 0 < p.size
  · have h1 := h h0
    have h2 : p.data.toList.getLast? = some p[p.size - 1] := by
      rw [List.getLast?_eq_getElem?, len_data, List.getElem?_eq_getElem (by rw [len_data]; omega)]
      rfl
    rw [h2, Option.some.injEq] at e
    rw [e] at h1
    exact absurd h1 (by decide)
  · rw [show p.data.toList = [] from drop_end p 0 h0] at e
    simp at e

set_option maxRecDepth 100000 in
set_option maxHeartbeats 4000000 in
theorem matchStars_calls (p s : ByteArray) (w : World) :
    Calls Try.prog 5 #[.string p, .string s] w fun e w' => e = .returned (.bool true) ∧ Chg (fun _ => False) w w' := by
  by_cases hs : p.size ≤ 60 ∧ s.size ≤ 100
  · have HS : Hid ((decide (p.size ≤ 60) && decide (s.size ≤ 100)) = true) := Lib.hid (by simp [hs.1, hs.2])
    obtain ⟨h60, h100⟩ := hs
    by_cases h20 : s.size ≤ 20
    · have q1 : decide ((20 : Int) < (s.size : Int)) = false := by rw [decide_eq_false_iff_not]; omega
      by_cases h0 : 0 < p.size
      · have q2 : (0 : Int) < (p.size : Int) := by omega
        have q3 : (0 : Int) ≤ (p.size : Int) - 1 := by omega
        have q3' : (1 : Int) ≤ (p.size : Int) := by omega
        have q4 : (p.size : Int) - 1 < (p.size : Int) := by omega
        have q5 : ((p.size : Int) - 1).toNat = p.size - 1 := by omega
        have q6 : p.size - 1 < p.size := by omega
        have hq92 : ((p[p.size - 1].toNat : Int) == 92) = (p[p.size - 1] == 92) := byte_eqn p[p.size - 1] 92 (by decide)
        cases h92 : p[p.size - 1] == 92
        case true =>
          rw [h92] at hq92
          clear h92
          go_enter Try.func5, Try.ntmps5
          go_wp2_with fail
          refine Calls.mono (short_calls _ _ _) ?_
          rintro e w' ⟨rfl, rfl⟩
          rw [HS.out]
          go_wp2_with (go_at_call 10; refine (awake_calls _).mono ?_; rintro e w' ⟨rfl, hCa⟩)
          go_ret
          exact ⟨rfl, hCa⟩
        case false =>
          rw [h92] at hq92
          have HL := Lib.hid (last_not p (fun _ => h92))
          clear h92
          go_enter Try.func5, Try.ntmps5
          go_wp2_with fail
          refine Calls.mono (short_calls _ _ _) ?_
          rintro e w' ⟨rfl, rfl⟩
          rw [HS.out]
          go_wp2_with fail
          go_loopg [5, 6] (s.size + 1) (fun rk fv iv wr => ∃ (i : Nat) (f : Bool), iv = .int .i64 i ∧ fv = .bool f ∧ i + rk = s.size + 1 ∧ Hid (f = true ↔ Fnd p.data.toList s.data.toList i 0) ∧ Chg (fun _ => False) w wr)
          case atStart => exact ⟨0, false, rfl, rfl, by omega, Lib.hid ⟨(fun h => by cases h), fun h => absurd h (fnd_start _ _)⟩, Chg.refl _ _⟩
          case round =>
            obtain ⟨i, f, rfl, rfl, hi, HF, hCi⟩ := hrel
            by_cases hlt : i ≤ s.size
            · have p1 : (i : Int) ≤ (s.size : Int) := by omega
              have p2 : (0 : Int) ≤ (i : Int) := by omega
              obtain ⟨gk', hgk⟩ : ∃ n, n = gk := ⟨_, rfl⟩
              have HGK := Lib.hid hgk; clear hgk
              go_wp2_with fail
              go_loopg [5, 7] (s.size + 1 - i) (fun rk fv kv wr2 => ∃ (k : Nat) (f : Bool), kv = .int .i64 k ∧ fv = .bool f ∧ i ≤ k ∧ k + rk = s.size + 1 ∧ Hid (f = true ↔ Fnd p.data.toList s.data.toList i k) ∧ Chg (fun _ => False) w wr2)
              case atStart => exact ⟨i, f, rfl, rfl, Nat.le_refl _, by omega, Lib.hid (HF.out.trans (fnd_row _ _ _).symm), hCi⟩
              case round =>
                obtain ⟨k, f, rfl, rfl, hik, hk, HF, hCk⟩ := hrel
                by_cases hlk : k ≤ s.size
                · have r1 : (k : Int) ≤ (s.size : Int) := by omega
                  have r2 : (i : Int) ≤ (k : Int) := by omega
                  cases f
                  case true =>
                    go_wp2
                    go_roundg (gk - 1)
                    case measure => omega
                    case rel => exact ⟨k + 1, true, by go_num, rfl, by omega, by omega, Lib.hid ⟨fun _ => fnd_old _ _ _ _ (HF.out.1 (by first | rfl | trivial)), fun _ => rfl⟩, hCk⟩
                  case false =>
                    have HX : Hid ((s.extract i k).data.toList = (s.data.toList.drop i).take (k - i)) := Lib.hid (by rw [Lib.extract_data])
                    go_wp2_with fail
                    refine Calls.mono (Fits_calls p _ _ (by omega) (by simp only [ByteArray.size_extract]; omega)) ?_
                    rintro e w2 ⟨rfl, hC2⟩
                    have hC3 := hCk.trans hC2 (fun _ h _ => h)
                    rw [HX.out]
                    cases hf : matchB p.data.toList ((s.data.toList.drop i).take (k - i))
                    case true =>
                      have HN := Lib.hid (fnd_new _ _ _ _ hik (by rw [len_data]; exact hlk) hf)
                      clear hf
                      go_wp2
                      go_roundg (gk - 1)
                      case measure => omega
                      case rel => exact ⟨k + 1, true, by go_num, rfl, by omega, by omega, Lib.hid ⟨fun _ => HN.out, fun _ => rfl⟩, hC3⟩
                    case false =>
                      have HN := Lib.hid (fnd_not _ _ _ _ (fun h => by have := HF.out.2 h; cases this) hf)
                      clear hf
                      go_wp2
                      go_roundg (gk - 1)
                      case measure => omega
                      case rel => exact ⟨k + 1, false, by go_num, rfl, by omega, by omega, Lib.hid ⟨(fun h => by cases h), fun h => absurd h HN.out⟩, hC3⟩
                · have r1 : decide ((k : Int) ≤ (s.size : Int)) = false := by rw [decide_eq_false_iff_not]; omega
                  have r1' : decide (k ≤ s.size) = false := by rw [decide_eq_false_iff_not]; omega
                  obtain rfl : k = s.size + 1 := by omega
                  have HF2 : Hid (f = true ↔ Fnd p.data.toList s.data.toList (i + 1) 0) := Lib.hid (HF.out.trans (by rw [← fnd_next, len_data]))
                  clear hlk hk HF
                  go_wp2
                  go_roundg (gk' - 1)
                  case measure => have := HGK.out; omega
                  case rel => exact ⟨i + 1, f, by go_num, rfl, by have := HGK.out; omega, HF2, hCk⟩
            · have p1 : decide ((i : Int) ≤ (s.size : Int)) = false := by rw [decide_eq_false_iff_not]; omega
              have p1' : decide (i ≤ s.size) = false := by rw [decide_eq_false_iff_not]; omega
              obtain rfl : i = s.size + 1 := by omega
              have HF2 : Hid (f = true ↔ ∃ i k, i ≤ k ∧ k ≤ s.data.toList.length ∧ matchB p.data.toList ((s.data.toList.drop i).take (k - i)) = true) := Lib.hid (HF.out.trans (by rw [← fnd_all, len_data]))
              clear hi hlt HF
              go_wp2
              go_loopg [8] p.size (fun rk jv wr => ∃ j : Nat, jv = .int .i64 j ∧ j + rk = p.size ∧ Hid (91 ∉ p.data.toList.take j) ∧ Chg (fun _ => False) w wr)
              case atStart => exact ⟨0, rfl, by omega, Lib.hid (by simp), hCi⟩
              case round =>
                obtain ⟨j, rfl, hj, HJ, hCj⟩ := hrel
                by_cases hlj : j < p.size
                · have r1 : (j : Int) < (p.size : Int) := by omega
                  have r2 : (0 : Int) ≤ (j : Int) := by omega
                  have hq91 : ((p[j].toNat : Int) == 91) = (p[j] == 91) := byte_eqn p[j] 91 (by decide)
                  cases h91 : p[j] == 91
                  case true =>
                    rw [h91] at hq91
                    clear h91
                    go_wp2_with (go_at_call 10; refine (awake_calls _).mono ?_; rintro e w' ⟨rfl, hCa⟩)
                    go_ret
                    exact ⟨rfl, hCj.trans hCa (fun _ h _ => h)⟩
                  case false =>
                    rw [h91] at hq91
                    have HJ2 : Hid (91 ∉ p.data.toList.take (j + 1)) := Lib.hid (by
                      rw [List.take_succ_eq_append_getElem (by rw [len_data]; exact hlj), List.mem_append, not_or]
                      refine ⟨HJ.out, ?_⟩
                      rw [List.mem_singleton]
                      intro e
                      have e' : p[j] = 91 := e.symm
                      rw [e'] at h91
                      exact absurd h91 (by decide))
                    clear h91
                    go_wp2
                    go_roundg (gk - 1)
                    case measure => omega
                    case rel => exact ⟨j + 1, by go_num, by omega, HJ2, hCj⟩
                · have r1 : decide ((j : Int) < (p.size : Int)) = false := by rw [decide_eq_false_iff_not]; omega
                  have r1' : decide (j < p.size) = false := by rw [decide_eq_false_iff_not]; omega
                  have HJ2 : Hid (91 ∉ p.data.toList) := Lib.hid (by
                    have := HJ.out
                    rwa [List.take_of_length_le (by rw [len_data]; omega)] at this)
                  have HM := Lib.hid (match_stars p.data.toList s.data.toList HJ2.out HL.out)
                  have z1 : ¬ (9223372036854775807 < 1 + p.size) := by omega
                  have z2 : ¬ (9223372036854775807 < 1 + p.size + 1) := by omega
                  clear hlj hj HJ
                  go_wp2_with fail
                  rw [star_text]
                  refine Calls.mono (Fits_calls _ s _ (by rw [bstr_size]; simp; omega) (by omega)) ?_
                  rintro e w2 ⟨rfl, hC2⟩
                  rw [bstr_toList]
                  have HB : Hid (matchB (42 :: p.data.toList ++ [42]) s.data.toList = f) := Lib.hid (by rw [Bool.eq_iff_iff, HM.out, HF2.out])
                  rw [HB.out]
                  go_wp2_with (go_at_call 10; refine (awake_calls _).mono ?_; rintro e w' ⟨rfl, hCa⟩)
                  go_ret
                  exact ⟨rfl, (hCj.trans hC2 (fun _ h _ => h)).trans hCa (fun _ h _ => h)⟩
      · have q2 : decide ((0 : Int) < (p.size : Int)) = false := by rw [decide_eq_false_iff_not]; omega
        have q2' : decide (0 < p.size) = false := by rw [decide_eq_false_iff_not]; omega
        have HL := Lib.hid (last_not p (fun h => absurd h h0))
        clear h0
        go_enter Try.func5, Try.ntmps5
        go_wp2_with fail
        refine Calls.mono (short_calls _ _ _) ?_
        rintro e w' ⟨rfl, rfl⟩
        rw [HS.out]
        go_wp2_with fail
        go_loopg [5, 6] (s.size + 1) (fun rk fv iv wr => ∃ (i : Nat) (f : Bool), iv = .int .i64 i ∧ fv = .bool f ∧ i + rk = s.size + 1 ∧ Hid (f = true ↔ Fnd p.data.toList s.data.toList i 0) ∧ Chg (fun _ => False) w wr)
        case atStart => exact ⟨0, false, rfl, rfl, by omega, Lib.hid ⟨(fun h => by cases h), fun h => absurd h (fnd_start _ _)⟩, Chg.refl _ _⟩
        case round =>
          obtain ⟨i, f, rfl, rfl, hi, HF, hCi⟩ := hrel
          by_cases hlt : i ≤ s.size
          · have p1 : (i : Int) ≤ (s.size : Int) := by omega
            have p2 : (0 : Int) ≤ (i : Int) := by omega
            obtain ⟨gk', hgk⟩ : ∃ n, n = gk := ⟨_, rfl⟩
            have HGK := Lib.hid hgk; clear hgk
            go_wp2_with fail
            go_loopg [5, 7] (s.size + 1 - i) (fun rk fv kv wr2 => ∃ (k : Nat) (f : Bool), kv = .int .i64 k ∧ fv = .bool f ∧ i ≤ k ∧ k + rk = s.size + 1 ∧ Hid (f = true ↔ Fnd p.data.toList s.data.toList i k) ∧ Chg (fun _ => False) w wr2)
            case atStart => exact ⟨i, f, rfl, rfl, Nat.le_refl _, by omega, Lib.hid (HF.out.trans (fnd_row _ _ _).symm), hCi⟩
            case round =>
              obtain ⟨k, f, rfl, rfl, hik, hk, HF, hCk⟩ := hrel
              by_cases hlk : k ≤ s.size
              · have r1 : (k : Int) ≤ (s.size : Int) := by omega
                have r2 : (i : Int) ≤ (k : Int) := by omega
                cases f
                case true =>
                  go_wp2
                  go_roundg (gk - 1)
                  case measure => omega
                  case rel => exact ⟨k + 1, true, by go_num, rfl, by omega, by omega, Lib.hid ⟨fun _ => fnd_old _ _ _ _ (HF.out.1 (by first | rfl | trivial)), fun _ => rfl⟩, hCk⟩
                case false =>
                  have HX : Hid ((s.extract i k).data.toList = (s.data.toList.drop i).take (k - i)) := Lib.hid (by rw [Lib.extract_data])
                  go_wp2_with fail
                  refine Calls.mono (Fits_calls p _ _ (by omega) (by simp only [ByteArray.size_extract]; omega)) ?_
                  rintro e w2 ⟨rfl, hC2⟩
                  have hC3 := hCk.trans hC2 (fun _ h _ => h)
                  rw [HX.out]
                  cases hf : matchB p.data.toList ((s.data.toList.drop i).take (k - i))
                  case true =>
                    have HN := Lib.hid (fnd_new _ _ _ _ hik (by rw [len_data]; exact hlk) hf)
                    clear hf
                    go_wp2
                    go_roundg (gk - 1)
                    case measure => omega
                    case rel => exact ⟨k + 1, true, by go_num, rfl, by omega, by omega, Lib.hid ⟨fun _ => HN.out, fun _ => rfl⟩, hC3⟩
                  case false =>
                    have HN := Lib.hid (fnd_not _ _ _ _ (fun h => by have := HF.out.2 h; cases this) hf)
                    clear hf
                    go_wp2
                    go_roundg (gk - 1)
                    case measure => omega
                    case rel => exact ⟨k + 1, false, by go_num, rfl, by omega, by omega, Lib.hid ⟨(fun h => by cases h), fun h => absurd h HN.out⟩, hC3⟩
              · have r1 : decide ((k : Int) ≤ (s.size : Int)) = false := by rw [decide_eq_false_iff_not]; omega
                have r1' : decide (k ≤ s.size) = false := by rw [decide_eq_false_iff_not]; omega
                obtain rfl : k = s.size + 1 := by omega
                have HF2 : Hid (f = true ↔ Fnd p.data.toList s.data.toList (i + 1) 0) := Lib.hid (HF.out.trans (by rw [← fnd_next, len_data]))
                clear hlk hk HF
                go_wp2
                go_roundg (gk' - 1)
                case measure => have := HGK.out; omega
                case rel => exact ⟨i + 1, f, by go_num, rfl, by have := HGK.out; omega, HF2, hCk⟩
          · have p1 : decide ((i : Int) ≤ (s.size : Int)) = false := by rw [decide_eq_false_iff_not]; omega
            have p1' : decide (i ≤ s.size) = false := by rw [decide_eq_false_iff_not]; omega
            obtain rfl : i = s.size + 1 := by omega
            have HF2 : Hid (f = true ↔ ∃ i k, i ≤ k ∧ k ≤ s.data.toList.length ∧ matchB p.data.toList ((s.data.toList.drop i).take (k - i)) = true) := Lib.hid (HF.out.trans (by rw [← fnd_all, len_data]))
            clear hi hlt HF
            go_wp2
            go_loopg [8] p.size (fun rk jv wr => ∃ j : Nat, jv = .int .i64 j ∧ j + rk = p.size ∧ Hid (91 ∉ p.data.toList.take j) ∧ Chg (fun _ => False) w wr)
            case atStart => exact ⟨0, rfl, by omega, Lib.hid (by simp), hCi⟩
            case round =>
              obtain ⟨j, rfl, hj, HJ, hCj⟩ := hrel
              by_cases hlj : j < p.size
              · have r1 : (j : Int) < (p.size : Int) := by omega
                have r2 : (0 : Int) ≤ (j : Int) := by omega
                have hq91 : ((p[j].toNat : Int) == 91) = (p[j] == 91) := byte_eqn p[j] 91 (by decide)
                cases h91 : p[j] == 91
                case true =>
                  rw [h91] at hq91
                  clear h91
                  go_wp2_with (go_at_call 10; refine (awake_calls _).mono ?_; rintro e w' ⟨rfl, hCa⟩)
                  go_ret
                  exact ⟨rfl, hCj.trans hCa (fun _ h _ => h)⟩
                case false =>
                  rw [h91] at hq91
                  have HJ2 : Hid (91 ∉ p.data.toList.take (j + 1)) := Lib.hid (by
                    rw [List.take_succ_eq_append_getElem (by rw [len_data]; exact hlj), List.mem_append, not_or]
                    refine ⟨HJ.out, ?_⟩
                    rw [List.mem_singleton]
                    intro e
                    have e' : p[j] = 91 := e.symm
                    rw [e'] at h91
                    exact absurd h91 (by decide))
                  clear h91
                  go_wp2
                  go_roundg (gk - 1)
                  case measure => omega
                  case rel => exact ⟨j + 1, by go_num, by omega, HJ2, hCj⟩
              · have r1 : decide ((j : Int) < (p.size : Int)) = false := by rw [decide_eq_false_iff_not]; omega
                have r1' : decide (j < p.size) = false := by rw [decide_eq_false_iff_not]; omega
                have HJ2 : Hid (91 ∉ p.data.toList) := Lib.hid (by
                  have := HJ.out
                  rwa [List.take_of_length_le (by rw [len_data]; omega)] at this)
                have HM := Lib.hid (match_stars p.data.toList s.data.toList HJ2.out HL.out)
                have z1 : ¬ (9223372036854775807 < 1 + p.size) := by omega
                have z2 : ¬ (9223372036854775807 < 1 + p.size + 1) := by omega
                clear hlj hj HJ
                go_wp2_with fail
                rw [star_text]
                refine Calls.mono (Fits_calls _ s _ (by rw [bstr_size]; simp; omega) (by omega)) ?_
                rintro e w2 ⟨rfl, hC2⟩
                rw [bstr_toList]
                have HB : Hid (matchB (42 :: p.data.toList ++ [42]) s.data.toList = f) := Lib.hid (by rw [Bool.eq_iff_iff, HM.out, HF2.out])
                rw [HB.out]
                go_wp2_with (go_at_call 10; refine (awake_calls _).mono ?_; rintro e w' ⟨rfl, hCa⟩)
                go_ret
                exact ⟨rfl, (hCj.trans hC2 (fun _ h _ => h)).trans hCa (fun _ h _ => h)⟩
    · have q1 : (20 : Int) < (s.size : Int) := by omega
      go_enter Try.func5, Try.ntmps5
      go_wp2_with fail
      refine Calls.mono (short_calls _ _ _) ?_
      rintro e w' ⟨rfl, rfl⟩
      rw [HS.out]
      go_wp2_with (go_at_call 10; refine (awake_calls _).mono ?_; rintro e w' ⟨rfl, hCa⟩)
      go_ret
      exact ⟨rfl, hCa⟩
  · have HS : Hid ((decide (p.size ≤ 60) && decide (s.size ≤ 100)) = false) := Lib.hid (by simpa using hs)
    go_enter Try.func5, Try.ntmps5
    go_wp2_with fail
    refine Calls.mono (short_calls _ _ _) ?_
    rintro e w' ⟨rfl, rfl⟩
    rw [HS.out]
    go_wp2_with (go_at_call 10; refine (awake_calls _).mono ?_; rintro e w' ⟨rfl, hCa⟩)
    go_ret
    exact ⟨rfl, hCa⟩

namespace fnMatchStars
open Go.ChangeShapes Go.WideShapes Go.ChangeAt
open Go.ChangeMaps (open_string shut_string)
theorem own : ownKnob Try.prog.godebug = none := by kernel_rfl

set_option maxRecDepth 100000 in
theorem lifted (os : Os) (started : os.Started) (H : Type) (enc : TypeId × Value → H) :
    ReturnsInHanded {} Try.checked os 5 .any (Rows.matchStarsSpec.pre6 enc Try.prog Try.f5 Rows.matchStarsRow.domain false) (Rows.matchStarsSpec.post enc Try.prog Try.f5 false true false false) := by
  refine returnsInHanded_of_change_sized (C := Try.checked) own started (by kernel_rfl) Try.func5
    (ChangeSpec.witness6 (enc := enc) (C := Try.checked) false ⟨#[], #[.string ⟨#[]⟩, .string ⟨#[]⟩], []⟩ 8 (by kernel_rfl) (by kernel_rfl) (by kernel_rfl) (by kernel_rfl)) ?_
  intro W base args ds gs before hval0 hW _ hsz0 _
  have hsz : (DataW.weightsEach Try.prog (Try.f5.params.toList ++ Rows.matchStarsSpec.plain.varTypes Try.prog) (ds ++ gs)).all (· ≤ reachBytes) = true := hsz0
  clear hsz0
  have hval : ∀ (j : Nat) t v, Try.f5.params[j]? = some t → args[j]? = some v → Value.okWide Try.prog W .any base t v := hval0
  have hW' := hW
  obtain ⟨p, q, hA0, hV, rfl, _, _⟩ := hW
  have hA : DataW.TrodAll enc Try.prog W 0 (fun _ => true) true Try.f5.params.toList args.toList ds p := hA0
  rw [Try.params5] at hA hval hsz
  obtain ⟨v0, vs0, d0, ds0, p0, q0, hargs, rfl, rfl, h0, r0⟩ := trodAll_cons hA
  obtain ⟨v1, vs1, d1, ds1, p1, q1, hargs1, rfl, rfl, h1, r1⟩ := trodAll_cons r0
  obtain ⟨rfl, rfl, rfl⟩ := trodAll_nil r1
  obtain rfl : args = #[v0, v1] := by cases args; simp_all
  obtain ⟨rfl, rfl⟩ := trodVars_none hV
  obtain ⟨p, rfl, rfl, rfl, hs0⟩ := open_string Try.underlying9 (hval 0 9 v0 rfl rfl) h0
  have hz0 : p.size ≤ 140737488355328 := by
    have h1 := sized_string hsz (j := 0) (t := 9) (bytes := p.data.toList) rfl rfl
    have h2 := reachBytes_lt
    rw [len_data] at h1
    omega
  obtain ⟨s, rfl, rfl, rfl, hs1⟩ := open_string Try.underlying9 (hval 1 9 v1 rfl rfl) h1
  have hz1 : s.size ≤ 140737488355328 := by
    have h1 := sized_string hsz (j := 1) (t := 9) (bytes := s.data.toList) rfl rfl
    have h2 := reachBytes_lt
    rw [len_data] at h1
    omega
  clear hA0
  simp only [List.append_nil] at hW'
  refine (matchStars_calls p s W).mono fun e W' ⟨he, hg⟩ => ?_
  subst he
  exact ⟨_, rfl, _, _, _, [], [], [], hW', trodAll_cons_mk (shut_bool Try.underlying4 _) trodAll_mk0, trodAll_cons_mk (shut_string Try.underlying9 hs0) (trodAll_cons_mk (shut_string Try.underlying9 hs1) trodAll_mk0), rfl, hg.below.frame _, fun h => by cases h⟩
end fnMatchStars
set_option maxRecDepth 100000 in
theorem matchStars_proved : Rows.MatchStarsSaid :=
  OpenClaim.holds_of_wide 5 Try.f5 rfl rfl rfl rfl rfl rfl rfl ⟨rfl, rfl, rfl, rfl, rfl⟩ rfl rfl rfl rfl rfl (by kernel_rfl) Try.func5 (by kernel_rfl)
    (of_decide_eq_true (by kernel_rfl)) (by unfold Func.isWrapper; first | (rw [if_pos (by decide +kernel)]; kernel_rfl) | (rw [if_neg (by decide +kernel)]; exact ⟨rfl, rfl⟩))
    (fun os started H enc _ => fnMatchStars.lifted os started H enc)
#print axioms matchStars_proved
end Go.Proofs.Ytbjejnegfojnmaa
