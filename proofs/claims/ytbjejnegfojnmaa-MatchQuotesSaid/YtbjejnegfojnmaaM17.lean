/- Walks of the reference of match: Fits, Cut. -/
import Derived.Test.YtbjejnegfojnmaaM16
namespace Go.Proofs.Ytbjejnegfojnmaa
open Go.RowKit
set_option linter.unusedVariables false
set_option linter.unusedSimpArgs false

set_option maxRecDepth 100000 in
set_option maxHeartbeats 1000000 in
theorem RFits_calls (p s : ByteArray) (w : World) (hp : p.size ≤ 1000000) (hs : s.size ≤ 1000000) :
    Calls Try.prog 12 #[.string p, .string s] w fun e w' => e = .returned (.bool (matchB p.data.toList s.data.toList)) ∧ Chg (fun _ => False) w w' := by
  have q0 : (0 : Int) ≤ (s.size : Int) := by omega
  have q1 : (s.size : Int) < (s.size : Int) + 1 := by omega
  go_enter Try.func12, Try.ntmps12
  go_wp2_with fail
  refine Calls.mono (Reach_calls p s _ hp hs) ?_
  rintro e w1 ⟨⟨g, rfl, hc⟩, hC⟩
  go_wp2
  go_ret
  exact ⟨rfl, hC⟩


set_option maxRecDepth 100000 in
set_option maxHeartbeats 4000000 in
theorem RCut_calls (p s : ByteArray) (e m : Bool) (w : World) (hp : p.size ≤ 1000000) (hs : s.size ≤ 1000000) :
    Calls Try.prog 14 #[.string p, .string s, .bool e, .bool m] w fun e' w' => e' = .returned (.string (bstr (cutAll p.data.toList s.data.toList e m))) ∧ Chg (fun _ => False) w w' := by
  generalize hR : cutAll p.data.toList s.data.toList e m = R
  have HR0 : Hid (cutGo (cutL p.data.toList) s.data.toList e m (s.size + 1) 0 = R) := Lib.hid (by rw [← hR, cutAll, len_data])
  clear hR
  have hcall := fun (t : ByteArray) (ht : t.size ≤ s.size) w2 (h2 : Chg (fun _ => False) w w2) => RFits_calls p t w2 hp (by omega)
  go_enter Try.func14, Try.ntmps14
  go_wp2
  cases e <;> cases m
  all_goals
    go_loopg [9] (s.size + 1) (fun n iv wr => ∃ i : Nat, iv = .int .i64 i ∧ i + n = s.size + 1 ∧ Hid (cutGo (cutL p.data.toList) s.data.toList _ _ n i = R) ∧ Chg (fun _ => False) w wr)
    case atStart => exact ⟨0, rfl, by omega, HR0, Chg.refl _ _⟩
  · obtain ⟨i, rfl, hi, HK, hCw⟩ := hrel
    by_cases hlt : i ≤ s.size
    · obtain ⟨g, rfl⟩ : ∃ g, gk = g + 1 := ⟨gk - 1, by omega⟩
      have q1 : (i : Int) < (s.size : Int) + 1 := by omega
      have q2 : (i : Int) ≤ (s.size : Int) := by omega
      have q3 : (0 : Int) ≤ (i : Int) := by omega
      have HX : Hid ((s.extract 0 i).data.toList = s.data.toList.take i) := Lib.hid (by first | exact Lib.extract_to_end _ _ | simp [Lib.extract_data])
      go_wp2_with fail
      refine Calls.mono (hcall _ (by simp only [ByteArray.size_extract]; omega) _ hCw) ?_
      rintro e w2 ⟨rfl, hC2⟩
      have hC3 := hCw.trans hC2 (fun _ h _ => h)
      clear hcall
      rw [HX.out]
      have HK1 := Lib.hid HK.out
      rw [matchB]
      cases hf : fitsL (cutL p.data.toList) (s.data.toList.take i)
      case true =>
        have HR1 : Hid (R = s.data.toList.drop i) := Lib.hid (by
          rw [← HK.out, cutGo_b, len_data]
          simp only [Bool.false_eq_true, if_false, if_true, hf])
        clear hf
        go_wp2
        go_ret
        exact ⟨ret_str (by rw [HR1.out, extract_bstr]; congr 1; first | done | simp [len_data] | (rw [List.take_of_length_le]; rw [drop_len]; exact Nat.le_refl _)), hC3⟩
      case false =>
        have HR1 : Hid (cutGo (cutL p.data.toList) s.data.toList false false g (i + 1) = R) := Lib.hid (by
          rw [← HK.out, cutGo_b, len_data]
          simp only [Bool.false_eq_true, if_false, if_true, hf])
        clear hf
        go_wp2
        go_roundg g
        case measure => omega
        case rel => exact ⟨i + 1, by go_num, by omega, HR1, hC3⟩
    · have q1 : decide ((i : Int) ≤ (s.size : Int)) = false := by rw [decide_eq_false_iff_not]; omega
      have q1' : decide (i ≤ s.size) = false := by rw [decide_eq_false_iff_not]; omega
      obtain rfl : gk = 0 := by omega
      have HR1 : Hid (R = s.data.toList) := Lib.hid (by rw [← HK.out]; rfl)
      clear hi hcall
      go_wp2
      go_ret
      exact ⟨ret_str (by rw [HR1.out, bstr_of]), hCw⟩
  · obtain ⟨i, rfl, hi, HK, hCw⟩ := hrel
    by_cases hlt : i ≤ s.size
    · obtain ⟨g, rfl⟩ : ∃ g, gk = g + 1 := ⟨gk - 1, by omega⟩
      have q1 : (i : Int) < (s.size : Int) + 1 := by omega
      have q2 : (i : Int) ≤ (s.size : Int) := by omega
      have q3 : (0 : Int) ≤ (i : Int) := by omega
      have HX : Hid ((s.extract 0 (s.size - i)).data.toList = s.data.toList.take (s.size - i)) := Lib.hid (by first | exact Lib.extract_to_end _ _ | simp [Lib.extract_data])
      go_wp2_with fail
      refine Calls.mono (hcall _ (by simp only [ByteArray.size_extract]; omega) _ hCw) ?_
      rintro e w2 ⟨rfl, hC2⟩
      have hC3 := hCw.trans hC2 (fun _ h _ => h)
      clear hcall
      rw [HX.out]
      have HK1 := Lib.hid HK.out
      rw [matchB]
      cases hf : fitsL (cutL p.data.toList) (s.data.toList.take (s.size - i))
      case true =>
        have HR1 : Hid (R = s.data.toList.drop (s.size - i)) := Lib.hid (by
          rw [← HK.out, cutGo_b, len_data]
          simp only [Bool.false_eq_true, if_false, if_true, hf])
        clear hf
        go_wp2
        go_ret
        exact ⟨ret_str (by rw [HR1.out, extract_bstr]; congr 1; first | done | simp [len_data] | (rw [List.take_of_length_le]; rw [drop_len]; exact Nat.le_refl _)), hC3⟩
      case false =>
        have HR1 : Hid (cutGo (cutL p.data.toList) s.data.toList false true g (i + 1) = R) := Lib.hid (by
          rw [← HK.out, cutGo_b, len_data]
          simp only [Bool.false_eq_true, if_false, if_true, hf])
        clear hf
        go_wp2
        go_roundg g
        case measure => omega
        case rel => exact ⟨i + 1, by go_num, by omega, HR1, hC3⟩
    · have q1 : decide ((i : Int) ≤ (s.size : Int)) = false := by rw [decide_eq_false_iff_not]; omega
      have q1' : decide (i ≤ s.size) = false := by rw [decide_eq_false_iff_not]; omega
      obtain rfl : gk = 0 := by omega
      have HR1 : Hid (R = s.data.toList) := Lib.hid (by rw [← HK.out]; rfl)
      clear hi hcall
      go_wp2
      go_ret
      exact ⟨ret_str (by rw [HR1.out, bstr_of]), hCw⟩
  · obtain ⟨i, rfl, hi, HK, hCw⟩ := hrel
    by_cases hlt : i ≤ s.size
    · obtain ⟨g, rfl⟩ : ∃ g, gk = g + 1 := ⟨gk - 1, by omega⟩
      have q1 : (i : Int) < (s.size : Int) + 1 := by omega
      have q2 : (i : Int) ≤ (s.size : Int) := by omega
      have q3 : (0 : Int) ≤ (i : Int) := by omega
      have HX : Hid ((s.extract (s.size - i) s.size).data.toList = s.data.toList.drop (s.size - i)) := Lib.hid (by first | exact Lib.extract_to_end _ _ | simp [Lib.extract_data])
      go_wp2_with fail
      refine Calls.mono (hcall _ (by simp only [ByteArray.size_extract]; omega) _ hCw) ?_
      rintro e w2 ⟨rfl, hC2⟩
      have hC3 := hCw.trans hC2 (fun _ h _ => h)
      clear hcall
      rw [HX.out]
      have HK1 := Lib.hid HK.out
      rw [matchB]
      cases hf : fitsL (cutL p.data.toList) (s.data.toList.drop (s.size - i))
      case true =>
        have HR1 : Hid (R = s.data.toList.take (s.size - i)) := Lib.hid (by
          rw [← HK.out, cutGo_e, len_data]
          simp only [Bool.false_eq_true, if_false, if_true, hf])
        clear hf
        go_wp2
        go_ret
        exact ⟨ret_str (by rw [HR1.out, extract_bstr]; congr 1; first | done | simp [len_data] | (rw [List.take_of_length_le]; rw [drop_len]; exact Nat.le_refl _)), hC3⟩
      case false =>
        have HR1 : Hid (cutGo (cutL p.data.toList) s.data.toList true false g (i + 1) = R) := Lib.hid (by
          rw [← HK.out, cutGo_e, len_data]
          simp only [Bool.false_eq_true, if_false, if_true, hf])
        clear hf
        go_wp2
        go_roundg g
        case measure => omega
        case rel => exact ⟨i + 1, by go_num, by omega, HR1, hC3⟩
    · have q1 : decide ((i : Int) ≤ (s.size : Int)) = false := by rw [decide_eq_false_iff_not]; omega
      have q1' : decide (i ≤ s.size) = false := by rw [decide_eq_false_iff_not]; omega
      obtain rfl : gk = 0 := by omega
      have HR1 : Hid (R = s.data.toList) := Lib.hid (by rw [← HK.out]; rfl)
      clear hi hcall
      go_wp2
      go_ret
      exact ⟨ret_str (by rw [HR1.out, bstr_of]), hCw⟩
  · obtain ⟨i, rfl, hi, HK, hCw⟩ := hrel
    by_cases hlt : i ≤ s.size
    · obtain ⟨g, rfl⟩ : ∃ g, gk = g + 1 := ⟨gk - 1, by omega⟩
      have q1 : (i : Int) < (s.size : Int) + 1 := by omega
      have q2 : (i : Int) ≤ (s.size : Int) := by omega
      have q3 : (0 : Int) ≤ (i : Int) := by omega
      have HX : Hid ((s.extract (s.size - (s.size - i)) s.size).data.toList = s.data.toList.drop (s.size - (s.size - i))) := Lib.hid (by first | exact Lib.extract_to_end _ _ | simp [Lib.extract_data])
      go_wp2_with fail
      refine Calls.mono (hcall _ (by simp only [ByteArray.size_extract]; omega) _ hCw) ?_
      rintro e w2 ⟨rfl, hC2⟩
      have hC3 := hCw.trans hC2 (fun _ h _ => h)
      clear hcall
      rw [HX.out]
      have HK1 := Lib.hid HK.out
      rw [matchB]
      cases hf : fitsL (cutL p.data.toList) (s.data.toList.drop (s.size - (s.size - i)))
      case true =>
        have HR1 : Hid (R = s.data.toList.take (s.size - (s.size - i))) := Lib.hid (by
          rw [← HK.out, cutGo_e, len_data]
          simp only [Bool.false_eq_true, if_false, if_true, hf])
        clear hf
        go_wp2
        go_ret
        exact ⟨ret_str (by rw [HR1.out, extract_bstr]; congr 1; first | done | simp [len_data] | (rw [List.take_of_length_le]; rw [drop_len]; exact Nat.le_refl _)), hC3⟩
      case false =>
        have HR1 : Hid (cutGo (cutL p.data.toList) s.data.toList true true g (i + 1) = R) := Lib.hid (by
          rw [← HK.out, cutGo_e, len_data]
          simp only [Bool.false_eq_true, if_false, if_true, hf])
        clear hf
        go_wp2
        go_roundg g
        case measure => omega
        case rel => exact ⟨i + 1, by go_num, by omega, HR1, hC3⟩
    · have q1 : decide ((i : Int) ≤ (s.size : Int)) = false := by rw [decide_eq_false_iff_not]; omega
      have q1' : decide (i ≤ s.size) = false := by rw [decide_eq_false_iff_not]; omega
      obtain rfl : gk = 0 := by omega
      have HR1 : Hid (R = s.data.toList) := Lib.hid (by rw [← HK.out]; rfl)
      clear hi hcall
      go_wp2
      go_ret
      exact ⟨ret_str (by rw [HR1.out, bstr_of]), hCw⟩
end Go.Proofs.Ytbjejnegfojnmaa
