/- Walks of the laws of match: the chapter's examples. -/
import Derived.Test.YtbjejnegfojnmaaM8
namespace Go.Proofs.Ytbjejnegfojnmaa
open Go.RowKit
set_option linter.unusedVariables false
set_option linter.unusedSimpArgs false

theorem short_calls (p s : ByteArray) (w : World) :
    Calls Try.prog 9 #[.string p, .string s] w fun e w' => e = .returned (.bool (decide (p.size ≤ 60) && decide (s.size ≤ 100))) ∧ w = w' := by
  by_cases h1 : p.size ≤ 60
  · have q1 : (p.size : Int) ≤ 60 := by omega
    by_cases h2 : s.size ≤ 100
    · have q2 : (s.size : Int) ≤ 100 := by omega
      have HR : Hid ((decide (p.size ≤ 60) && decide (s.size ≤ 100)) = true) := Lib.hid (by simp [h1, h2])
      rw [HR.out]
      clear h1 h2
      go_enter Try.func9, Try.ntmps9
      go_wp2
      go_ret
      exact ⟨rfl, rfl⟩
    · have q2 : decide ((s.size : Int) ≤ 100) = false := by rw [decide_eq_false_iff_not]; omega
      have HR : Hid ((decide (p.size ≤ 60) && decide (s.size ≤ 100)) = false) := Lib.hid (by simp; omega)
      rw [HR.out]
      clear h1 h2
      go_enter Try.func9, Try.ntmps9
      go_wp2
      go_ret
      exact ⟨rfl, rfl⟩
  · have q1 : decide ((p.size : Int) ≤ 60) = false := by rw [decide_eq_false_iff_not]; omega
    have HR : Hid ((decide (p.size ≤ 60) && decide (s.size ≤ 100)) = false) := Lib.hid (by simp; omega)
    rw [HR.out]
    clear h1
    go_enter Try.func9, Try.ntmps9
    go_wp2
    go_ret
    exact ⟨rfl, rfl⟩

def fitsR (l : List Piece) (s : Bytes) : Bool := reachR s l (fun i => i == 0) s.length
theorem fits_R (l : List Piece) (s : Bytes) : fitsL l s = fitsR l s := (reach_all s l).symm
theorem match_R (p s : Bytes) : matchB p s = fitsR (cutL p) s := fits_R _ _
theorem aw1 : matchB (⟨#[91, 97, 45, 99, 93, 42, 46, 103, 111]⟩ : ByteArray).data.toList (⟨#[98, 46, 103, 111]⟩ : ByteArray).data.toList = true := by rw [match_R]; kernel_rfl
theorem aw2 : matchB (⟨#[91, 97, 45, 99, 93, 42, 46, 103, 111]⟩ : ByteArray).data.toList (⟨#[98, 120, 46, 103, 111]⟩ : ByteArray).data.toList = true := by rw [match_R]; kernel_rfl
theorem aw3 : matchB (⟨#[91, 33, 97, 93]⟩ : ByteArray).data.toList (⟨#[98]⟩ : ByteArray).data.toList = true := by rw [match_R]; kernel_rfl
theorem aw4 : matchB (⟨#[91, 33, 97, 93]⟩ : ByteArray).data.toList (⟨#[97]⟩ : ByteArray).data.toList = false := by rw [match_R]; kernel_rfl
theorem aw5 : matchB (⟨#[91, 97]⟩ : ByteArray).data.toList (⟨#[91, 97]⟩ : ByteArray).data.toList = true := by rw [match_R]; kernel_rfl
theorem aw6 : bstr (cutAll (⟨#[42, 46]⟩ : ByteArray).data.toList (⟨#[97, 46, 98, 46, 99]⟩ : ByteArray).data.toList false false) = ⟨#[98, 46, 99]⟩ := by
  show bstr (cutGo [.star, .byte 46] [97, 46, 98, 46, 99] false false 6 0) = _
  simp only [cutGo, fits_R]
  rfl
theorem aw7 : bstr (cutAll (⟨#[42, 46]⟩ : ByteArray).data.toList (⟨#[97, 46, 98, 46, 99]⟩ : ByteArray).data.toList false true) = ⟨#[99]⟩ := by
  show bstr (cutGo [.star, .byte 46] [97, 46, 98, 46, 99] false true 6 0) = _
  simp only [cutGo, fits_R]
  rfl

set_option maxRecDepth 100000 in
set_option maxHeartbeats 1000000 in
theorem awake_calls (w : World) : Calls Try.prog 10 #[] w fun e w' => e = .returned (.bool true) ∧ Chg (fun _ => False) w w' := by
  go_enter Try.func10, Try.ntmps10
  go_wp2_with fail
  refine Calls.mono (Fits_calls _ _ _ (by decide) (by decide)) ?_
  rintro e w1 ⟨rfl, c1⟩
  rw [aw1]
  go_wp2_with fail
  refine Calls.mono (Fits_calls _ _ _ (by decide) (by decide)) ?_
  rintro e w2 ⟨rfl, c2⟩
  rw [aw2]
  go_wp2_with fail
  refine Calls.mono (Fits_calls _ _ _ (by decide) (by decide)) ?_
  rintro e w3 ⟨rfl, c3⟩
  rw [aw3]
  go_wp2_with fail
  refine Calls.mono (Fits_calls _ _ _ (by decide) (by decide)) ?_
  rintro e w4 ⟨rfl, c4⟩
  rw [aw4]
  go_wp2_with fail
  refine Calls.mono (Fits_calls _ _ _ (by decide) (by decide)) ?_
  rintro e w5 ⟨rfl, c5⟩
  rw [aw5]
  go_wp2_with fail
  refine Calls.mono (Cut_calls _ _ _ _ _ (by decide) (by decide)) ?_
  rintro e w6 ⟨rfl, c6⟩
  rw [aw6]
  go_wp2_with fail
  refine Calls.mono (Cut_calls _ _ _ _ _ (by decide) (by decide)) ?_
  rintro e w7 ⟨rfl, c7⟩
  rw [aw7]
  go_wp2
  go_ret
  exact ⟨rfl, (((((c1.trans c2 (fun _ h _ => h)).trans c3 (fun _ h _ => h)).trans c4 (fun _ h _ => h)).trans c5 (fun _ h _ => h)).trans c6 (fun _ h _ => h)).trans c7 (fun _ h _ => h)⟩
end Go.Proofs.Ytbjejnegfojnmaa
