/- Walks of package match: Fits, Cut. -/
import Derived.Test.YtbjejnegfojnmaaM7
import Derived.Test.YtbjejnegfojnmaaModelM4
namespace Go.Proofs.Ytbjejnegfojnmaa
open Go.RowKit
set_option linter.unusedVariables false
set_option linter.unusedSimpArgs false

set_option maxRecDepth 100000 in
set_option maxHeartbeats 1000000 in
theorem Fits_calls (p s : ByteArray) (w : World) (hp : p.size ≤ 1000000) (hs : s.size ≤ 1000000) :
    Calls Try.prog 11 #[.string p, .string s] w fun e w' => e = .returned (.bool (matchB p.data.toList s.data.toList)) ∧ Chg (fun _ => False) w w' := by
  have hl := cutL_len p.data.toList
  rw [len_data] at hl
  go_enter Try.func11, Try.ntmps11
  go_wp2_with fail
  refine Calls.mono (cut_calls p _ hp) ?_
  rintro e w1 ⟨v, rfl, HO, hC⟩
  obtain ⟨A, cc, hv, hc1, hc2⟩ := Own.form HO
  rw [List.length_map] at hv hc1
  subst hv
  go_wp2_with fail
  refine Calls.mono (fits_calls (cutL p.data.toList) _ _ _ s w1 HO.rep (by omega) hs) ?_
  rintro e w2 ⟨rfl, hC2⟩
  go_wp2
  go_ret
  exact ⟨rfl, hC.trans hC2 (fun _ h _ => h)⟩

theorem cutGo_e (l : List Piece) (s : Bytes) (m : Bool) (f i : Nat) : cutGo l s true m (f + 1) i = if fitsL l (s.drop (s.length - (if m then s.length - i else i))) then s.take (s.length - (if m then s.length - i else i)) else cutGo l s true m f (i + 1) := by
  rw [cutGo]; rfl
theorem cutGo_b (l : List Piece) (s : Bytes) (m : Bool) (f i : Nat) : cutGo l s false m (f + 1) i = if fitsL l (s.take (if m then s.length - i else i)) then s.drop (if m then s.length - i else i) else cutGo l s false m f (i + 1) := by
  rw [cutGo]; rfl
theorem ret_str {a b : ByteArray} (h : a = b) : Ending.returned (.string a) = .returned (.string b) := by rw [h]

set_option pp.deepTerms true in
set_option pp.maxSteps 200000 in
set_option maxRecDepth 100000 in
set_option maxHeartbeats 4000000 in
theorem Cut_calls (p s : ByteArray) (e m : Bool) (w : World) (hp : p.size ≤ 1000000) (hs : s.size ≤ 1000000) :
    Calls Try.prog 13 #[.string p, .string s, .bool e, .bool m] w fun e' w' => e' = .returned (.string (bstr (cutAll p.data.toList s.data.toList e m))) ∧ Chg (fun _ => False) w w' := by
  have hl := cutL_len p.data.toList
  rw [len_data] at hl
  generalize hR : cutAll p.data.toList s.data.toList e m = R
  have HR0 : Hid (cutGo (cutL p.data.toList) s.data.toList e m (s.size + 1) 0 = R) := Lib.hid (by rw [← hR, cutAll, len_data])
  clear hR
  go_enter Try.func13, Try.ntmps13
  go_wp2_with fail
  refine Calls.mono (cut_calls p _ hp) ?_
  rintro e' w1 ⟨v, rfl, HO, hC⟩
  obtain ⟨A, cc, hv, hc1, hc2⟩ := Own.form HO
  rw [List.length_map] at hv hc1
  subst hv
  have HV := HO.rep
  clear HO
  generalize cutL p.data.toList = L at *
  have hcall := fun (t : ByteArray) (ht : t.size ≤ s.size) w2 (h2 : Chg (fun _ => False) w1 w2) => fits_calls L (.slice A L.length cc) _ _ t w2 (HV.stay h2 (fun _ _ e => e)) (by omega) (by omega)
  simp only [maxLen] at hc2
  go_wp2
  cases e <;> cases m
  all_goals
    go_loopg [16] (s.size + 1) (fun n iv wr => ∃ i : Nat, iv = .int .i64 i ∧ i + n = s.size + 1 ∧ Hid (cutGo L s.data.toList _ _ n i = R) ∧ Chg (fun _ => False) w1 wr)
    case atStart => exact ⟨0, rfl, by omega, HR0, Chg.refl _ _⟩
  · obtain ⟨i, rfl, hi, HK, hCw⟩ := hrel
    by_cases hlt : i ≤ s.size
    · obtain ⟨g, rfl⟩ : ∃ g, gk = g + 1 := ⟨gk - 1, by omega⟩
      have q1 : (i : Int) < (s.size : Int) + 1 := by omega
      have q2 : (i : Int) ≤ (s.size : Int) := by omega
      have q3 : (0 : Int) ≤ (i : Int) := by omega
      have HX : Hid ((s.extract 0 i).data.toList = s.data.toList.take i) := Lib.hid (by first | exact Lib.extract_to_end _ _ | simp [Lib.extract_data])
      go_wp2_with fail
      refine Calls.mono (hcall _ (by simp only [ByteArray.size_extract]; omega) _ hCw) ?_
      rintro e w2 ⟨rfl, hC2⟩
      have hC3 := hCw.trans hC2 (fun _ h _ => h)
      clear hcall
      rw [HX.out]
      have HK1 := Lib.hid HK.out
      cases hf : fitsL L (s.data.toList.take i)
      case true =>
        have HR1 : Hid (R = s.data.toList.drop i) := Lib.hid (by
          rw [← HK.out, cutGo_b, len_data]
          simp only [Bool.false_eq_true, if_false, if_true, hf])
        clear hf
        go_wp2
        go_ret
        exact ⟨ret_str (by rw [HR1.out, extract_bstr]; congr 1; first | done | simp [len_data] | (rw [List.take_of_length_le]; rw [drop_len]; exact Nat.le_refl _)), hC.trans hC3 (fun _ h _ => h)⟩
      case false =>
        have HR1 : Hid (cutGo L s.data.toList false false g (i + 1) = R) := Lib.hid (by
          rw [← HK.out, cutGo_b, len_data]
          simp only [Bool.false_eq_true, if_false, if_true, hf])
        clear hf
        go_wp2
        go_roundg g
        case measure => omega
        case rel => exact ⟨i + 1, by go_num, by omega, HR1, hC3⟩
    · have q1 : decide ((i : Int) < (s.size : Int) + 1) = false := by rw [decide_eq_false_iff_not]; omega
      obtain rfl : gk = 0 := by omega
      have HR1 : Hid (R = s.data.toList) := Lib.hid (by rw [← HK.out]; rfl)
      clear hi hcall
      go_wp2
      go_ret
      exact ⟨ret_str (by rw [HR1.out, bstr_of]), hC.trans hCw (fun _ h _ => h)⟩
  · obtain ⟨i, rfl, hi, HK, hCw⟩ := hrel
    by_cases hlt : i ≤ s.size
    · obtain ⟨g, rfl⟩ : ∃ g, gk = g + 1 := ⟨gk - 1, by omega⟩
      have q1 : (i : Int) < (s.size : Int) + 1 := by omega
      have q2 : (i : Int) ≤ (s.size : Int) := by omega
      have q3 : (0 : Int) ≤ (i : Int) := by omega
      have HX : Hid ((s.extract 0 (s.size - i)).data.toList = s.data.toList.take (s.size - i)) := Lib.hid (by first | exact Lib.extract_to_end _ _ | simp [Lib.extract_data])
      go_wp2_with fail
      refine Calls.mono (hcall _ (by simp only [ByteArray.size_extract]; omega) _ hCw) ?_
      rintro e w2 ⟨rfl, hC2⟩
      have hC3 := hCw.trans hC2 (fun _ h _ => h)
      clear hcall
      rw [HX.out]
      have HK1 := Lib.hid HK.out
      cases hf : fitsL L (s.data.toList.take (s.size - i))
      case true =>
        have HR1 : Hid (R = s.data.toList.drop (s.size - i)) := Lib.hid (by
          rw [← HK.out, cutGo_b, len_data]
          simp only [Bool.false_eq_true, if_false, if_true, hf])
        clear hf
        go_wp2
        go_ret
        exact ⟨ret_str (by rw [HR1.out, extract_bstr]; congr 1; first | done | simp [len_data] | (rw [List.take_of_length_le]; rw [drop_len]; exact Nat.le_refl _)), hC.trans hC3 (fun _ h _ => h)⟩
      case false =>
        have HR1 : Hid (cutGo L s.data.toList false true g (i + 1) = R) := Lib.hid (by
          rw [← HK.out, cutGo_b, len_data]
          simp only [Bool.false_eq_true, if_false, if_true, hf])
        clear hf
        go_wp2
        go_roundg g
        case measure => omega
        case rel => exact ⟨i + 1, by go_num, by omega, HR1, hC3⟩
    · have q1 : decide ((i : Int) < (s.size : Int) + 1) = false := by rw [decide_eq_false_iff_not]; omega
      obtain rfl : gk = 0 := by omega
      have HR1 : Hid (R = s.data.toList) := Lib.hid (by rw [← HK.out]; rfl)
      clear hi hcall
      go_wp2
      go_ret
      exact ⟨ret_str (by rw [HR1.out, bstr_of]), hC.trans hCw (fun _ h _ => h)⟩
  · obtain ⟨i, rfl, hi, HK, hCw⟩ := hrel
    by_cases hlt : i ≤ s.size
    · obtain ⟨g, rfl⟩ : ∃ g, gk = g + 1 := ⟨gk - 1, by omega⟩
      have q1 : (i : Int) < (s.size : Int) + 1 := by omega
      have q2 : (i : Int) ≤ (s.size : Int) := by omega
      have q3 : (0 : Int) ≤ (i : Int) := by omega
      have HX : Hid ((s.extract (s.size - i) s.size).data.toList = s.data.toList.drop (s.size - i)) := Lib.hid (by first | exact Lib.extract_to_end _ _ | simp [Lib.extract_data])
      go_wp2_with fail
      refine Calls.mono (hcall _ (by simp only [ByteArray.size_extract]; omega) _ hCw) ?_
      rintro e w2 ⟨rfl, hC2⟩
      have hC3 := hCw.trans hC2 (fun _ h _ => h)
      clear hcall
      rw [HX.out]
      have HK1 := Lib.hid HK.out
      cases hf : fitsL L (s.data.toList.drop (s.size - i))
      case true =>
        have HR1 : Hid (R = s.data.toList.take (s.size - i)) := Lib.hid (by
          rw [← HK.out, cutGo_e, len_data]
          simp only [Bool.false_eq_true, if_false, if_true, hf])
        clear hf
        go_wp2
        go_ret
        exact ⟨ret_str (by rw [HR1.out, extract_bstr]; congr 1; first | done | simp [len_data] | (rw [List.take_of_length_le]; rw [drop_len]; exact Nat.le_refl _)), hC.trans hC3 (fun _ h _ => h)⟩
      case false =>
        have HR1 : Hid (cutGo L s.data.toList true false g (i + 1) = R) := Lib.hid (by
          rw [← HK.out, cutGo_e, len_data]
          simp only [Bool.false_eq_true, if_false, if_true, hf])
        clear hf
        go_wp2
        go_roundg g
        case measure => omega
        case rel => exact ⟨i + 1, by go_num, by omega, HR1, hC3⟩
    · have q1 : decide ((i : Int) < (s.size : Int) + 1) = false := by rw [decide_eq_false_iff_not]; omega
      obtain rfl : gk = 0 := by omega
      have HR1 : Hid (R = s.data.toList) := Lib.hid (by rw [← HK.out]; rfl)
      clear hi hcall
      go_wp2
      go_ret
      exact ⟨ret_str (by rw [HR1.out, bstr_of]), hC.trans hCw (fun _ h _ => h)⟩
  · obtain ⟨i, rfl, hi, HK, hCw⟩ := hrel
    by_cases hlt : i ≤ s.size
    · obtain ⟨g, rfl⟩ : ∃ g, gk = g + 1 := ⟨gk - 1, by omega⟩
      have q1 : (i : Int) < (s.size : Int) + 1 := by omega
      have q2 : (i : Int) ≤ (s.size : Int) := by omega
      have q3 : (0 : Int) ≤ (i : Int) := by omega
      have HX : Hid ((s.extract (s.size - (s.size - i)) s.size).data.toList = s.data.toList.drop (s.size - (s.size - i))) := Lib.hid (by first | exact Lib.extract_to_end _ _ | simp [Lib.extract_data])
      go_wp2_with fail
      refine Calls.mono (hcall _ (by simp only [ByteArray.size_extract]; omega) _ hCw) ?_
      rintro e w2 ⟨rfl, hC2⟩
      have hC3 := hCw.trans hC2 (fun _ h _ => h)
      clear hcall
      rw [HX.out]
      have HK1 := Lib.hid HK.out
      cases hf : fitsL L (s.data.toList.drop (s.size - (s.size - i)))
      case true =>
        have HR1 : Hid (R = s.data.toList.take (s.size - (s.size - i))) := Lib.hid (by
          rw [← HK.out, cutGo_e, len_data]
          simp only [Bool.false_eq_true, if_false, if_true, hf])
        clear hf
        go_wp2
        go_ret
        exact ⟨ret_str (by rw [HR1.out, extract_bstr]; congr 1; first | done | simp [len_data] | (rw [List.take_of_length_le]; rw [drop_len]; exact Nat.le_refl _)), hC.trans hC3 (fun _ h _ => h)⟩
      case false =>
        have HR1 : Hid (cutGo L s.data.toList true true g (i + 1) = R) := Lib.hid (by
          rw [← HK.out, cutGo_e, len_data]
          simp only [Bool.false_eq_true, if_false, if_true, hf])
        clear hf
        go_wp2
        go_roundg g
        case measure => omega
        case rel => exact ⟨i + 1, by go_num, by omega, HR1, hC3⟩
    · have q1 : decide ((i : Int) < (s.size : Int) + 1) = false := by rw [decide_eq_false_iff_not]; omega
      obtain rfl : gk = 0 := by omega
      have HR1 : Hid (R = s.data.toList) := Lib.hid (by rw [← HK.out]; rfl)
      clear hi hcall
      go_wp2
      go_ret
      exact ⟨ret_str (by rw [HR1.out, bstr_of]), hC.trans hCw (fun _ h _ => h)⟩
end Go.Proofs.Ytbjejnegfojnmaa
