/- rehearsallaw02.MatchSets: it returns true for every three bytes, and they read behind the call as before. -/
import Derived.Test.YtbjejnegfojnmaaM9
import Derived.Test.YtbjejnegfojnmaaRows
import Derived.WalkKit
import Derived.ProofKit
import Derived.OpenShut
import Derived.SizedLaws
import Derived.Lib.SlBytesRow
namespace Go.Proofs.Ytbjejnegfojnmaa
open Go.RowKit
set_option linter.unusedVariables false
set_option linter.unusedSimpArgs false

theorem bstr_append (s t : Bytes) : bstr s ++ bstr t = bstr (s ++ t) := ByteArray.mk_append_mk s t
theorem conv_new (w : World) (g : Nat) (a : UInt8) (hg : g = w.heap.size) :
    (convert 27 9 (.slice (some ⟨g, 0, none⟩) 1 1)).run Try.prog (w.alloc (.cells #[.int .u8 a.toNat] 5)) = .ok (.string (bstr [a])) (w.alloc (.cells #[.int .u8 a.toNat] 5)) := by
  subst hg
  have h := Lib.run_convert_whole (P := Try.prog) (w.alloc (.cells #[.int .u8 a.toNat] 5)) 27 5 9 Try.underlying27 Try.underlying5 Try.underlying9 w.heap.size 0 (bstr [a]) (fun i hi => by
    have : i = 0 := by have : i < 1 := hi; omega
    subst this
    rw [cell_of_row _ _ _ _ _ _ (heap_alloc_new w _)]
    rfl) 1
  exact h
theorem two_text (a b : UInt8) : ((⟨#[91, 92]⟩ : ByteArray) ++ bstr [a] ++ ⟨#[92]⟩ ++ bstr [b] ++ ⟨#[93]⟩) = bstr [91, 92, a, 92, b, 93] := by
  show bstr [91, 92] ++ bstr [a] ++ bstr [92] ++ bstr [b] ++ bstr [93] = _
  simp only [bstr_append]
  rfl
theorem none_text (a b : UInt8) : ((⟨#[91, 33, 92]⟩ : ByteArray) ++ bstr [a] ++ ⟨#[92]⟩ ++ bstr [b] ++ ⟨#[93]⟩) = bstr [91, 33, 92, a, 92, b, 93] := by
  show bstr [91, 33, 92] ++ bstr [a] ++ bstr [92] ++ bstr [b] ++ bstr [93] = _
  simp only [bstr_append]
  rfl
theorem all_text (a b : UInt8) : ((⟨#[91, 92]⟩ : ByteArray) ++ bstr [a] ++ ⟨#[45, 92]⟩ ++ bstr [b] ++ ⟨#[93]⟩) = bstr [91, 92, a, 45, 92, b, 93] := by
  show bstr [91, 92] ++ bstr [a] ++ bstr [45, 92] ++ bstr [b] ++ bstr [93] = _
  simp only [bstr_append]
  rfl

set_option maxRecDepth 100000 in
set_option maxHeartbeats 2000000 in
theorem matchSets_calls (a b c : UInt8) (w : World) :
    Calls Try.prog 7 #[.int .u8 a.toNat, .int .u8 b.toNat, .int .u8 c.toNat] w fun e w' => e = .returned (.bool true) ∧ Chg (fun _ => False) w w' := by
  have hconv := conv_new
  have h1z : ∀ x : UInt8, (bstr [x]).size = 1 := fun _ => rfl
  go_enter Try.func7, Try.ntmps7
  go_wp2_with fail
  rw [two_text, none_text, all_text]
  have hC := (((((((Chg.refl (fun _ => False) w).alloc (.cells #[.int .u8 a.toNat] 5)).alloc (.cells #[.int .u8 b.toNat] 5)).alloc (.cells #[.int .u8 a.toNat] 5)).alloc (.cells #[.int .u8 b.toNat] 5)).alloc (.cells #[.int .u8 a.toNat] 5)).alloc (.cells #[.int .u8 b.toNat] 5)).alloc (.cells #[.int .u8 c.toNat] 5)
  revert hC
  generalize (((((((w.alloc (.cells #[.int .u8 a.toNat] 5)).alloc (.cells #[.int .u8 b.toNat] 5)).alloc (.cells #[.int .u8 a.toNat] 5)).alloc (.cells #[.int .u8 b.toNat] 5)).alloc (.cells #[.int .u8 a.toNat] 5)).alloc (.cells #[.int .u8 b.toNat] 5)).alloc (.cells #[.int .u8 c.toNat] 5)) = w0
  intro hC
  clear hconv
  have hA : (c == a) = ((c.toNat : Int) == (a.toNat : Int)) := (byte_eq c a).symm
  have hB : (c == b) = ((c.toNat : Int) == (b.toNat : Int)) := (byte_eq c b).symm
  have hL : decide (a ≤ c) = decide ((a.toNat : Int) ≤ (c.toNat : Int)) := (le_byte a c).symm
  have hM : decide (c ≤ b) = decide ((c.toNat : Int) ≤ (b.toNat : Int)) := (le_byte c b).symm
  rcases Nat.lt_trichotomy c.toNat a.toNat with h | h | h
  · have e1 : ((c.toNat : Int) == (a.toNat : Int)) = false := by simp; omega
    have n1 : ((c.toNat : Int) != (a.toNat : Int)) = true := by simp; omega
    have l1 : decide ((a.toNat : Int) ≤ (c.toNat : Int)) = false := by simp; omega
    have k1 : decide (a.toNat ≤ c.toNat) = false := by simp; omega
    rcases Nat.lt_trichotomy c.toNat b.toNat with h' | h' | h'
    · have e2 : ((c.toNat : Int) == (b.toNat : Int)) = false := by simp; omega
      have n2 : ((c.toNat : Int) != (b.toNat : Int)) = true := by simp; omega
      have l2 : decide ((c.toNat : Int) ≤ (b.toNat : Int)) = true := by simp; omega
      have k2 : decide (c.toNat ≤ b.toNat) = true := by simp; omega
      rw [e1] at hA
      rw [e2] at hB
      rw [l1] at hL
      rw [l2] at hM
      clear h h'
      have HA := Lib.hid hA; clear hA
      have HB := Lib.hid hB; clear hB
      have HL := Lib.hid hL; clear hL
      have HM := Lib.hid hM; clear hM
      refine Calls.mono (Fits_calls _ _ _ (by rw [bstr_size]; simp) (by rw [bstr_size]; simp)) ?_
      rintro e w1 ⟨rfl, c1⟩
      rw [bstr_toList, bstr_toList, sets_two]
      simp only [HA.out, HB.out, Bool.or_false, Bool.or_true, Bool.false_or, Bool.true_or]
      go_wp2_with fail
      refine Calls.mono (Fits_calls _ _ _ (by rw [bstr_size]; simp) (by rw [bstr_size]; simp)) ?_
      rintro e w2 ⟨rfl, c2⟩
      rw [bstr_toList, bstr_toList, sets_none]
      simp only [bne, HA.out, HB.out, Bool.and_false, Bool.and_true, Bool.false_and, Bool.true_and, Bool.not_true, Bool.not_false]
      go_wp2_with fail
      refine Calls.mono (Fits_calls _ _ _ (by rw [bstr_size]; simp) (by rw [bstr_size]; simp)) ?_
      rintro e w3 ⟨rfl, c3⟩
      rw [bstr_toList, bstr_toList, sets_all]
      simp only [HL.out, HM.out, Bool.and_false, Bool.and_true, Bool.false_and, Bool.true_and]
      go_wp2_with fail
      refine Calls.mono (Fits_calls _ _ _ (by rw [bstr_size]; simp) (by decide)) ?_
      rintro e w4 ⟨rfl, c4⟩
      rw [bstr_toList, sets_two]
      go_wp2_with fail
      refine Calls.mono (Fits_calls _ _ _ (by rw [bstr_size]; simp) (by rw [bstr_append, bstr_size]; simp)) ?_
      rintro e w5 ⟨rfl, c5⟩
      rw [bstr_append, bstr_toList, bstr_toList, sets_two]
      go_wp2_with fail
      refine (awake_calls _).mono ?_
      rintro e w6 ⟨rfl, c6⟩
      go_wp2
      go_ret
      exact ⟨rfl, (((((hC.trans c1 (fun _ h _ => h)).trans c2 (fun _ h _ => h)).trans c3 (fun _ h _ => h)).trans c4 (fun _ h _ => h)).trans c5 (fun _ h _ => h)).trans c6 (fun _ h _ => h)⟩
    · have e2 : ((c.toNat : Int) == (b.toNat : Int)) = true := by simp; omega
      have n2 : ((c.toNat : Int) != (b.toNat : Int)) = false := by simp; omega
      have l2 : decide ((c.toNat : Int) ≤ (b.toNat : Int)) = true := by simp; omega
      have k2 : decide (c.toNat ≤ b.toNat) = true := by simp; omega
      rw [e1] at hA
      rw [e2] at hB
      rw [l1] at hL
      rw [l2] at hM
      clear h h'
      have HA := Lib.hid hA; clear hA
      have HB := Lib.hid hB; clear hB
      have HL := Lib.hid hL; clear hL
      have HM := Lib.hid hM; clear hM
      refine Calls.mono (Fits_calls _ _ _ (by rw [bstr_size]; simp) (by rw [bstr_size]; simp)) ?_
      rintro e w1 ⟨rfl, c1⟩
      rw [bstr_toList, bstr_toList, sets_two]
      simp only [HA.out, HB.out, Bool.or_false, Bool.or_true, Bool.false_or, Bool.true_or]
      go_wp2_with fail
      refine Calls.mono (Fits_calls _ _ _ (by rw [bstr_size]; simp) (by rw [bstr_size]; simp)) ?_
      rintro e w2 ⟨rfl, c2⟩
      rw [bstr_toList, bstr_toList, sets_none]
      simp only [bne, HA.out, HB.out, Bool.and_false, Bool.and_true, Bool.false_and, Bool.true_and, Bool.not_true, Bool.not_false]
      go_wp2_with fail
      refine Calls.mono (Fits_calls _ _ _ (by rw [bstr_size]; simp) (by rw [bstr_size]; simp)) ?_
      rintro e w3 ⟨rfl, c3⟩
      rw [bstr_toList, bstr_toList, sets_all]
      simp only [HL.out, HM.out, Bool.and_false, Bool.and_true, Bool.false_and, Bool.true_and]
      go_wp2_with fail
      refine Calls.mono (Fits_calls _ _ _ (by rw [bstr_size]; simp) (by decide)) ?_
      rintro e w4 ⟨rfl, c4⟩
      rw [bstr_toList, sets_two]
      go_wp2_with fail
      refine Calls.mono (Fits_calls _ _ _ (by rw [bstr_size]; simp) (by rw [bstr_append, bstr_size]; simp)) ?_
      rintro e w5 ⟨rfl, c5⟩
      rw [bstr_append, bstr_toList, bstr_toList, sets_two]
      go_wp2_with fail
      refine (awake_calls _).mono ?_
      rintro e w6 ⟨rfl, c6⟩
      go_wp2
      go_ret
      exact ⟨rfl, (((((hC.trans c1 (fun _ h _ => h)).trans c2 (fun _ h _ => h)).trans c3 (fun _ h _ => h)).trans c4 (fun _ h _ => h)).trans c5 (fun _ h _ => h)).trans c6 (fun _ h _ => h)⟩
    · have e2 : ((c.toNat : Int) == (b.toNat : Int)) = false := by simp; omega
      have n2 : ((c.toNat : Int) != (b.toNat : Int)) = true := by simp; omega
      have l2 : decide ((c.toNat : Int) ≤ (b.toNat : Int)) = false := by simp; omega
      have k2 : decide (c.toNat ≤ b.toNat) = false := by simp; omega
      rw [e1] at hA
      rw [e2] at hB
      rw [l1] at hL
      rw [l2] at hM
      clear h h'
      have HA := Lib.hid hA; clear hA
      have HB := Lib.hid hB; clear hB
      have HL := Lib.hid hL; clear hL
      have HM := Lib.hid hM; clear hM
      refine Calls.mono (Fits_calls _ _ _ (by rw [bstr_size]; simp) (by rw [bstr_size]; simp)) ?_
      rintro e w1 ⟨rfl, c1⟩
      rw [bstr_toList, bstr_toList, sets_two]
      simp only [HA.out, HB.out, Bool.or_false, Bool.or_true, Bool.false_or, Bool.true_or]
      go_wp2_with fail
      refine Calls.mono (Fits_calls _ _ _ (by rw [bstr_size]; simp) (by rw [bstr_size]; simp)) ?_
      rintro e w2 ⟨rfl, c2⟩
      rw [bstr_toList, bstr_toList, sets_none]
      simp only [bne, HA.out, HB.out, Bool.and_false, Bool.and_true, Bool.false_and, Bool.true_and, Bool.not_true, Bool.not_false]
      go_wp2_with fail
      refine Calls.mono (Fits_calls _ _ _ (by rw [bstr_size]; simp) (by rw [bstr_size]; simp)) ?_
      rintro e w3 ⟨rfl, c3⟩
      rw [bstr_toList, bstr_toList, sets_all]
      simp only [HL.out, HM.out, Bool.and_false, Bool.and_true, Bool.false_and, Bool.true_and]
      go_wp2_with fail
      refine Calls.mono (Fits_calls _ _ _ (by rw [bstr_size]; simp) (by decide)) ?_
      rintro e w4 ⟨rfl, c4⟩
      rw [bstr_toList, sets_two]
      go_wp2_with fail
      refine Calls.mono (Fits_calls _ _ _ (by rw [bstr_size]; simp) (by rw [bstr_append, bstr_size]; simp)) ?_
      rintro e w5 ⟨rfl, c5⟩
      rw [bstr_append, bstr_toList, bstr_toList, sets_two]
      go_wp2_with fail
      refine (awake_calls _).mono ?_
      rintro e w6 ⟨rfl, c6⟩
      go_wp2
      go_ret
      exact ⟨rfl, (((((hC.trans c1 (fun _ h _ => h)).trans c2 (fun _ h _ => h)).trans c3 (fun _ h _ => h)).trans c4 (fun _ h _ => h)).trans c5 (fun _ h _ => h)).trans c6 (fun _ h _ => h)⟩
  · have e1 : ((c.toNat : Int) == (a.toNat : Int)) = true := by simp; omega
    have n1 : ((c.toNat : Int) != (a.toNat : Int)) = false := by simp; omega
    have l1 : decide ((a.toNat : Int) ≤ (c.toNat : Int)) = true := by simp; omega
    have k1 : decide (a.toNat ≤ c.toNat) = true := by simp; omega
    rcases Nat.lt_trichotomy c.toNat b.toNat with h' | h' | h'
    · have e2 : ((c.toNat : Int) == (b.toNat : Int)) = false := by simp; omega
      have n2 : ((c.toNat : Int) != (b.toNat : Int)) = true := by simp; omega
      have l2 : decide ((c.toNat : Int) ≤ (b.toNat : Int)) = true := by simp; omega
      have k2 : decide (c.toNat ≤ b.toNat) = true := by simp; omega
      rw [e1] at hA
      rw [e2] at hB
      rw [l1] at hL
      rw [l2] at hM
      clear h h'
      have HA := Lib.hid hA; clear hA
      have HB := Lib.hid hB; clear hB
      have HL := Lib.hid hL; clear hL
      have HM := Lib.hid hM; clear hM
      refine Calls.mono (Fits_calls _ _ _ (by rw [bstr_size]; simp) (by rw [bstr_size]; simp)) ?_
      rintro e w1 ⟨rfl, c1⟩
      rw [bstr_toList, bstr_toList, sets_two]
      simp only [HA.out, HB.out, Bool.or_false, Bool.or_true, Bool.false_or, Bool.true_or]
      go_wp2_with fail
      refine Calls.mono (Fits_calls _ _ _ (by rw [bstr_size]; simp) (by rw [bstr_size]; simp)) ?_
      rintro e w2 ⟨rfl, c2⟩
      rw [bstr_toList, bstr_toList, sets_none]
      simp only [bne, HA.out, HB.out, Bool.and_false, Bool.and_true, Bool.false_and, Bool.true_and, Bool.not_true, Bool.not_false]
      go_wp2_with fail
      refine Calls.mono (Fits_calls _ _ _ (by rw [bstr_size]; simp) (by rw [bstr_size]; simp)) ?_
      rintro e w3 ⟨rfl, c3⟩
      rw [bstr_toList, bstr_toList, sets_all]
      simp only [HL.out, HM.out, Bool.and_false, Bool.and_true, Bool.false_and, Bool.true_and]
      go_wp2_with fail
      refine Calls.mono (Fits_calls _ _ _ (by rw [bstr_size]; simp) (by decide)) ?_
      rintro e w4 ⟨rfl, c4⟩
      rw [bstr_toList, sets_two]
      go_wp2_with fail
      refine Calls.mono (Fits_calls _ _ _ (by rw [bstr_size]; simp) (by rw [bstr_append, bstr_size]; simp)) ?_
      rintro e w5 ⟨rfl, c5⟩
      rw [bstr_append, bstr_toList, bstr_toList, sets_two]
      go_wp2_with fail
      refine (awake_calls _).mono ?_
      rintro e w6 ⟨rfl, c6⟩
      go_wp2
      go_ret
      exact ⟨rfl, (((((hC.trans c1 (fun _ h _ => h)).trans c2 (fun _ h _ => h)).trans c3 (fun _ h _ => h)).trans c4 (fun _ h _ => h)).trans c5 (fun _ h _ => h)).trans c6 (fun _ h _ => h)⟩
    · have e2 : ((c.toNat : Int) == (b.toNat : Int)) = true := by simp; omega
      have n2 : ((c.toNat : Int) != (b.toNat : Int)) = false := by simp; omega
      have l2 : decide ((c.toNat : Int) ≤ (b.toNat : Int)) = true := by simp; omega
      have k2 : decide (c.toNat ≤ b.toNat) = true := by simp; omega
      rw [e1] at hA
      rw [e2] at hB
      rw [l1] at hL
      rw [l2] at hM
      clear h h'
      have HA := Lib.hid hA; clear hA
      have HB := Lib.hid hB; clear hB
      have HL := Lib.hid hL; clear hL
      have HM := Lib.hid hM; clear hM
      refine Calls.mono (Fits_calls _ _ _ (by rw [bstr_size]; simp) (by rw [bstr_size]; simp)) ?_
      rintro e w1 ⟨rfl, c1⟩
      rw [bstr_toList, bstr_toList, sets_two]
      simp only [HA.out, HB.out, Bool.or_false, Bool.or_true, Bool.false_or, Bool.true_or]
      go_wp2_with fail
      refine Calls.mono (Fits_calls _ _ _ (by rw [bstr_size]; simp) (by rw [bstr_size]; simp)) ?_
      rintro e w2 ⟨rfl, c2⟩
      rw [bstr_toList, bstr_toList, sets_none]
      simp only [bne, HA.out, HB.out, Bool.and_false, Bool.and_true, Bool.false_and, Bool.true_and, Bool.not_true, Bool.not_false]
      go_wp2_with fail
      refine Calls.mono (Fits_calls _ _ _ (by rw [bstr_size]; simp) (by rw [bstr_size]; simp)) ?_
      rintro e w3 ⟨rfl, c3⟩
      rw [bstr_toList, bstr_toList, sets_all]
      simp only [HL.out, HM.out, Bool.and_false, Bool.and_true, Bool.false_and, Bool.true_and]
      go_wp2_with fail
      refine Calls.mono (Fits_calls _ _ _ (by rw [bstr_size]; simp) (by decide)) ?_
      rintro e w4 ⟨rfl, c4⟩
      rw [bstr_toList, sets_two]
      go_wp2_with fail
      refine Calls.mono (Fits_calls _ _ _ (by rw [bstr_size]; simp) (by rw [bstr_append, bstr_size]; simp)) ?_
      rintro e w5 ⟨rfl, c5⟩
      rw [bstr_append, bstr_toList, bstr_toList, sets_two]
      go_wp2_with fail
      refine (awake_calls _).mono ?_
      rintro e w6 ⟨rfl, c6⟩
      go_wp2
      go_ret
      exact ⟨rfl, (((((hC.trans c1 (fun _ h _ => h)).trans c2 (fun _ h _ => h)).trans c3 (fun _ h _ => h)).trans c4 (fun _ h _ => h)).trans c5 (fun _ h _ => h)).trans c6 (fun _ h _ => h)⟩
    · have e2 : ((c.toNat : Int) == (b.toNat : Int)) = false := by simp; omega
      have n2 : ((c.toNat : Int) != (b.toNat : Int)) = true := by simp; omega
      have l2 : decide ((c.toNat : Int) ≤ (b.toNat : Int)) = false := by simp; omega
      have k2 : decide (c.toNat ≤ b.toNat) = false := by simp; omega
      rw [e1] at hA
      rw [e2] at hB
      rw [l1] at hL
      rw [l2] at hM
      clear h h'
      have HA := Lib.hid hA; clear hA
      have HB := Lib.hid hB; clear hB
      have HL := Lib.hid hL; clear hL
      have HM := Lib.hid hM; clear hM
      refine Calls.mono (Fits_calls _ _ _ (by rw [bstr_size]; simp) (by rw [bstr_size]; simp)) ?_
      rintro e w1 ⟨rfl, c1⟩
      rw [bstr_toList, bstr_toList, sets_two]
      simp only [HA.out, HB.out, Bool.or_false, Bool.or_true, Bool.false_or, Bool.true_or]
      go_wp2_with fail
      refine Calls.mono (Fits_calls _ _ _ (by rw [bstr_size]; simp) (by rw [bstr_size]; simp)) ?_
      rintro e w2 ⟨rfl, c2⟩
      rw [bstr_toList, bstr_toList, sets_none]
      simp only [bne, HA.out, HB.out, Bool.and_false, Bool.and_true, Bool.false_and, Bool.true_and, Bool.not_true, Bool.not_false]
      go_wp2_with fail
      refine Calls.mono (Fits_calls _ _ _ (by rw [bstr_size]; simp) (by rw [bstr_size]; simp)) ?_
      rintro e w3 ⟨rfl, c3⟩
      rw [bstr_toList, bstr_toList, sets_all]
      simp only [HL.out, HM.out, Bool.and_false, Bool.and_true, Bool.false_and, Bool.true_and]
      go_wp2_with fail
      refine Calls.mono (Fits_calls _ _ _ (by rw [bstr_size]; simp) (by decide)) ?_
      rintro e w4 ⟨rfl, c4⟩
      rw [bstr_toList, sets_two]
      go_wp2_with fail
      refine Calls.mono (Fits_calls _ _ _ (by rw [bstr_size]; simp) (by rw [bstr_append, bstr_size]; simp)) ?_
      rintro e w5 ⟨rfl, c5⟩
      rw [bstr_append, bstr_toList, bstr_toList, sets_two]
      go_wp2_with fail
      refine (awake_calls _).mono ?_
      rintro e w6 ⟨rfl, c6⟩
      go_wp2
      go_ret
      exact ⟨rfl, (((((hC.trans c1 (fun _ h _ => h)).trans c2 (fun _ h _ => h)).trans c3 (fun _ h _ => h)).trans c4 (fun _ h _ => h)).trans c5 (fun _ h _ => h)).trans c6 (fun _ h _ => h)⟩
  · have e1 : ((c.toNat : Int) == (a.toNat : Int)) = false := by simp; omega
    have n1 : ((c.toNat : Int) != (a.toNat : Int)) = true := by simp; omega
    have l1 : decide ((a.toNat : Int) ≤ (c.toNat : Int)) = true := by simp; omega
    have k1 : decide (a.toNat ≤ c.toNat) = true := by simp; omega
    rcases Nat.lt_trichotomy c.toNat b.toNat with h' | h' | h'
    · have e2 : ((c.toNat : Int) == (b.toNat : Int)) = false := by simp; omega
      have n2 : ((c.toNat : Int) != (b.toNat : Int)) = true := by simp; omega
      have l2 : decide ((c.toNat : Int) ≤ (b.toNat : Int)) = true := by simp; omega
      have k2 : decide (c.toNat ≤ b.toNat) = true := by simp; omega
      rw [e1] at hA
      rw [e2] at hB
      rw [l1] at hL
      rw [l2] at hM
      clear h h'
      have HA := Lib.hid hA; clear hA
      have HB := Lib.hid hB; clear hB
      have HL := Lib.hid hL; clear hL
      have HM := Lib.hid hM; clear hM
      refine Calls.mono (Fits_calls _ _ _ (by rw [bstr_size]; simp) (by rw [bstr_size]; simp)) ?_
      rintro e w1 ⟨rfl, c1⟩
      rw [bstr_toList, bstr_toList, sets_two]
      simp only [HA.out, HB.out, Bool.or_false, Bool.or_true, Bool.false_or, Bool.true_or]
      go_wp2_with fail
      refine Calls.mono (Fits_calls _ _ _ (by rw [bstr_size]; simp) (by rw [bstr_size]; simp)) ?_
      rintro e w2 ⟨rfl, c2⟩
      rw [bstr_toList, bstr_toList, sets_none]
      simp only [bne, HA.out, HB.out, Bool.and_false, Bool.and_true, Bool.false_and, Bool.true_and, Bool.not_true, Bool.not_false]
      go_wp2_with fail
      refine Calls.mono (Fits_calls _ _ _ (by rw [bstr_size]; simp) (by rw [bstr_size]; simp)) ?_
      rintro e w3 ⟨rfl, c3⟩
      rw [bstr_toList, bstr_toList, sets_all]
      simp only [HL.out, HM.out, Bool.and_false, Bool.and_true, Bool.false_and, Bool.true_and]
      go_wp2_with fail
      refine Calls.mono (Fits_calls _ _ _ (by rw [bstr_size]; simp) (by decide)) ?_
      rintro e w4 ⟨rfl, c4⟩
      rw [bstr_toList, sets_two]
      go_wp2_with fail
      refine Calls.mono (Fits_calls _ _ _ (by rw [bstr_size]; simp) (by rw [bstr_append, bstr_size]; simp)) ?_
      rintro e w5 ⟨rfl, c5⟩
      rw [bstr_append, bstr_toList, bstr_toList, sets_two]
      go_wp2_with fail
      refine (awake_calls _).mono ?_
      rintro e w6 ⟨rfl, c6⟩
      go_wp2
      go_ret
      exact ⟨rfl, (((((hC.trans c1 (fun _ h _ => h)).trans c2 (fun _ h _ => h)).trans c3 (fun _ h _ => h)).trans c4 (fun _ h _ => h)).trans c5 (fun _ h _ => h)).trans c6 (fun _ h _ => h)⟩
    · have e2 : ((c.toNat : Int) == (b.toNat : Int)) = true := by simp; omega
      have n2 : ((c.toNat : Int) != (b.toNat : Int)) = false := by simp; omega
      have l2 : decide ((c.toNat : Int) ≤ (b.toNat : Int)) = true := by simp; omega
      have k2 : decide (c.toNat ≤ b.toNat) = true := by simp; omega
      rw [e1] at hA
      rw [e2] at hB
      rw [l1] at hL
      rw [l2] at hM
      clear h h'
      have HA := Lib.hid hA; clear hA
      have HB := Lib.hid hB; clear hB
      have HL := Lib.hid hL; clear hL
      have HM := Lib.hid hM; clear hM
      refine Calls.mono (Fits_calls _ _ _ (by rw [bstr_size]; simp) (by rw [bstr_size]; simp)) ?_
      rintro e w1 ⟨rfl, c1⟩
      rw [bstr_toList, bstr_toList, sets_two]
      simp only [HA.out, HB.out, Bool.or_false, Bool.or_true, Bool.false_or, Bool.true_or]
      go_wp2_with fail
      refine Calls.mono (Fits_calls _ _ _ (by rw [bstr_size]; simp) (by rw [bstr_size]; simp)) ?_
      rintro e w2 ⟨rfl, c2⟩
      rw [bstr_toList, bstr_toList, sets_none]
      simp only [bne, HA.out, HB.out, Bool.and_false, Bool.and_true, Bool.false_and, Bool.true_and, Bool.not_true, Bool.not_false]
      go_wp2_with fail
      refine Calls.mono (Fits_calls _ _ _ (by rw [bstr_size]; simp) (by rw [bstr_size]; simp)) ?_
      rintro e w3 ⟨rfl, c3⟩
      rw [bstr_toList, bstr_toList, sets_all]
      simp only [HL.out, HM.out, Bool.and_false, Bool.and_true, Bool.false_and, Bool.true_and]
      go_wp2_with fail
      refine Calls.mono (Fits_calls _ _ _ (by rw [bstr_size]; simp) (by decide)) ?_
      rintro e w4 ⟨rfl, c4⟩
      rw [bstr_toList, sets_two]
      go_wp2_with fail
      refine Calls.mono (Fits_calls _ _ _ (by rw [bstr_size]; simp) (by rw [bstr_append, bstr_size]; simp)) ?_
      rintro e w5 ⟨rfl, c5⟩
      rw [bstr_append, bstr_toList, bstr_toList, sets_two]
      go_wp2_with fail
      refine (awake_calls _).mono ?_
      rintro e w6 ⟨rfl, c6⟩
      go_wp2
      go_ret
      exact ⟨rfl, (((((hC.trans c1 (fun _ h _ => h)).trans c2 (fun _ h _ => h)).trans c3 (fun _ h _ => h)).trans c4 (fun _ h _ => h)).trans c5 (fun _ h _ => h)).trans c6 (fun _ h _ => h)⟩
    · have e2 : ((c.toNat : Int) == (b.toNat : Int)) = false := by simp; omega
      have n2 : ((c.toNat : Int) != (b.toNat : Int)) = true := by simp; omega
      have l2 : decide ((c.toNat : Int) ≤ (b.toNat : Int)) = false := by simp; omega
      have k2 : decide (c.toNat ≤ b.toNat) = false := by simp; omega
      rw [e1] at hA
      rw [e2] at hB
      rw [l1] at hL
      rw [l2] at hM
      clear h h'
      have HA := Lib.hid hA; clear hA
      have HB := Lib.hid hB; clear hB
      have HL := Lib.hid hL; clear hL
      have HM := Lib.hid hM; clear hM
      refine Calls.mono (Fits_calls _ _ _ (by rw [bstr_size]; simp) (by rw [bstr_size]; simp)) ?_
      rintro e w1 ⟨rfl, c1⟩
      rw [bstr_toList, bstr_toList, sets_two]
      simp only [HA.out, HB.out, Bool.or_false, Bool.or_true, Bool.false_or, Bool.true_or]
      go_wp2_with fail
      refine Calls.mono (Fits_calls _ _ _ (by rw [bstr_size]; simp) (by rw [bstr_size]; simp)) ?_
      rintro e w2 ⟨rfl, c2⟩
      rw [bstr_toList, bstr_toList, sets_none]
      simp only [bne, HA.out, HB.out, Bool.and_false, Bool.and_true, Bool.false_and, Bool.true_and, Bool.not_true, Bool.not_false]
      go_wp2_with fail
      refine Calls.mono (Fits_calls _ _ _ (by rw [bstr_size]; simp) (by rw [bstr_size]; simp)) ?_
      rintro e w3 ⟨rfl, c3⟩
      rw [bstr_toList, bstr_toList, sets_all]
      simp only [HL.out, HM.out, Bool.and_false, Bool.and_true, Bool.false_and, Bool.true_and]
      go_wp2_with fail
      refine Calls.mono (Fits_calls _ _ _ (by rw [bstr_size]; simp) (by decide)) ?_
      rintro e w4 ⟨rfl, c4⟩
      rw [bstr_toList, sets_two]
      go_wp2_with fail
      refine Calls.mono (Fits_calls _ _ _ (by rw [bstr_size]; simp) (by rw [bstr_append, bstr_size]; simp)) ?_
      rintro e w5 ⟨rfl, c5⟩
      rw [bstr_append, bstr_toList, bstr_toList, sets_two]
      go_wp2_with fail
      refine (awake_calls _).mono ?_
      rintro e w6 ⟨rfl, c6⟩
      go_wp2
      go_ret
      exact ⟨rfl, (((((hC.trans c1 (fun _ h _ => h)).trans c2 (fun _ h _ => h)).trans c3 (fun _ h _ => h)).trans c4 (fun _ h _ => h)).trans c5 (fun _ h _ => h)).trans c6 (fun _ h _ => h)⟩

namespace fnMatchSets
open Go.ChangeShapes Go.WideShapes Go.ChangeAt
open Go.ChangeMaps (open_string shut_string)
theorem own : ownKnob Try.prog.godebug = none := by kernel_rfl

set_option maxRecDepth 100000 in
theorem lifted (os : Os) (started : os.Started) (H : Type) (enc : TypeId × Value → H) :
    ReturnsInHanded {} Try.checked os 7 .any (Rows.matchSetsSpec.pre6 enc Try.prog Try.f7 Rows.matchSetsRow.domain false) (Rows.matchSetsSpec.post enc Try.prog Try.f7 false true false false) := by
  refine returnsInHanded_of_change_sized (C := Try.checked) own started (by kernel_rfl) Try.func7
    (ChangeSpec.witness6 (enc := enc) (C := Try.checked) false ⟨#[], #[.int .u8 0, .int .u8 0, .int .u8 0], []⟩ 8 (by kernel_rfl) (by kernel_rfl) (by kernel_rfl) (by kernel_rfl)) ?_
  intro W base args ds gs before hval0 hW _ hsz0 _
  have hsz : (DataW.weightsEach Try.prog (Try.f7.params.toList ++ Rows.matchSetsSpec.plain.varTypes Try.prog) (ds ++ gs)).all (· ≤ reachBytes) = true := hsz0
  clear hsz0
  have hval : ∀ (j : Nat) t v, Try.f7.params[j]? = some t → args[j]? = some v → Value.okWide Try.prog W .any base t v := hval0
  have hW' := hW
  obtain ⟨p, q, hA0, hV, rfl, _, _⟩ := hW
  have hA : DataW.TrodAll enc Try.prog W 0 (fun _ => true) true Try.f7.params.toList args.toList ds p := hA0
  rw [Try.params7] at hA hval hsz
  obtain ⟨v0, vs0, d0, ds0, p0, q0, hargs, rfl, rfl, h0, r0⟩ := trodAll_cons hA
  obtain ⟨v1, vs1, d1, ds1, p1, q1, hargs1, rfl, rfl, h1, r1⟩ := trodAll_cons r0
  obtain ⟨v2, vs2, d2, ds2, p2, q2, hargs2, rfl, rfl, h2, r2⟩ := trodAll_cons r1
  obtain ⟨rfl, rfl, rfl⟩ := trodAll_nil r2
  obtain rfl : args = #[v0, v1, v2] := by cases args; simp_all
  obtain ⟨rfl, rfl⟩ := trodVars_none hV
  obtain ⟨x0, rfl, rfl, rfl, wx0⟩ := open_int Try.underlying5 (hval 0 5 v0 rfl rfl) h0
  have hx0 : 0 ≤ x0 ∧ x0 ≤ 255 := by simpa [Lit.wf, IntKind.min, IntKind.max, IntKind.signed, IntKind.bits] using wx0
  obtain ⟨a, rfl⟩ : ∃ c : UInt8, x0 = c.toNat := ⟨x0.toNat.toUInt8, by simp; omega⟩
  obtain ⟨x1, rfl, rfl, rfl, wx1⟩ := open_int Try.underlying5 (hval 1 5 v1 rfl rfl) h1
  have hx1 : 0 ≤ x1 ∧ x1 ≤ 255 := by simpa [Lit.wf, IntKind.min, IntKind.max, IntKind.signed, IntKind.bits] using wx1
  obtain ⟨b, rfl⟩ : ∃ c : UInt8, x1 = c.toNat := ⟨x1.toNat.toUInt8, by simp; omega⟩
  obtain ⟨x2, rfl, rfl, rfl, wx2⟩ := open_int Try.underlying5 (hval 2 5 v2 rfl rfl) h2
  have hx2 : 0 ≤ x2 ∧ x2 ≤ 255 := by simpa [Lit.wf, IntKind.min, IntKind.max, IntKind.signed, IntKind.bits] using wx2
  obtain ⟨c, rfl⟩ : ∃ c : UInt8, x2 = c.toNat := ⟨x2.toNat.toUInt8, by simp; omega⟩
  clear hA0
  simp only [List.append_nil] at hW'
  refine (matchSets_calls a b c W).mono fun e W' ⟨he, hg⟩ => ?_
  subst he
  exact ⟨_, rfl, _, _, _, [], [], [], hW', trodAll_cons_mk (shut_bool Try.underlying4 _) trodAll_mk0, trodAll_cons_mk (shut_int Try.underlying5 wx0) (trodAll_cons_mk (shut_int Try.underlying5 wx1) (trodAll_cons_mk (shut_int Try.underlying5 wx2) trodAll_mk0)), rfl, hg.below.frame _, fun h => by cases h⟩
end fnMatchSets
set_option maxRecDepth 100000 in
theorem matchSets_proved : Rows.MatchSetsSaid :=
  OpenClaim.holds_of_wide 7 Try.f7 rfl rfl rfl rfl rfl rfl rfl ⟨rfl, rfl, rfl, rfl, rfl⟩ rfl rfl rfl rfl rfl (by kernel_rfl) Try.func7 (by kernel_rfl)
    (of_decide_eq_true (by kernel_rfl)) (by unfold Func.isWrapper; first | (rw [if_pos (by decide +kernel)]; kernel_rfl) | (rw [if_neg (by decide +kernel)]; exact ⟨rfl, rfl⟩))
    (fun os started H enc _ => fnMatchSets.lifted os started H enc)
#print axioms matchSets_proved
end Go.Proofs.Ytbjejnegfojnmaa
