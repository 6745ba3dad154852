/- rehearsallaw07.WordQuotes: it returns true for all texts, and they read behind the call as before. -/
import Derived.Test.YtdfnkmiabmjolaaW20
import Derived.Test.YtdfnkmiabmjolaaModel3
import Derived.Test.YtdfnkmiabmjolaaRows
import Derived.WalkKit
import Derived.ProofKit
import Derived.OpenShut
import Derived.SizedLaws
namespace Go.Proofs.Ytdfnkmiabmjolaa
open Go.RowKit
set_option linter.unusedVariables false
set_option linter.unusedSimpArgs false

def noQuote (c : UInt8) : Bool := !(c == 39)
theorem noQuote_all (s : Bytes) (h : s.all noQuote = true) : s.contains 39 = false := by
  induction s with
  | nil => rfl
  | cons c s ih =>
    rw [List.all_cons, Bool.and_eq_true] at h
    rw [List.contains_cons, ih h.2, Bool.or_false]
    have h1 := h.1
    simp only [noQuote, Bool.not_eq_true'] at h1
    rw [beq_eq_false_iff_ne] at h1 ⊢
    exact fun e => h1 e.symm
theorem quote_text (q : UInt8) (s : ByteArray) : ((⟨#[q]⟩ : ByteArray) ++ s ++ ⟨#[q]⟩) = bstr (q :: (s.data.toList ++ [q])) := by
  have h : bstr [q] ++ bstr s.data.toList ++ bstr [q] = bstr (q :: (s.data.toList ++ [q])) := by simp only [bstr_append]; rfl
  rw [bstr_of] at h
  exact h
theorem dollar_text (s : ByteArray) : ((⟨#[36]⟩ : ByteArray) ++ s) = bstr (36 :: s.data.toList) := by
  have h : bstr [36] ++ bstr s.data.toList = bstr (36 :: s.data.toList) := by simp only [bstr_append]; rfl
  rw [bstr_of] at h
  exact h

/-- Whatever text: Scan tells something. -/
theorem Scan_some (s : ByteArray) (w : World) : Calls Try.prog 11 #[.string s, .int .i64 0] w fun e w' => (∃ A n c k x, e = .returned (.tuple #[.slice A n c, .int .i64 k, .int .i64 x])) ∧ Chg (fun _ => False) w w' := by
  by_cases hs : s.size ≤ 8192
  · refine (Scan_calls s 0 w (by omega) hs).mono ?_
    rintro e w' ⟨hC, h⟩
    revert h
    cases scan (s.data.toList.drop 0) with
    | err left c =>
      rintro ⟨rfl, _⟩
      exact ⟨⟨_, _, _, _, _, rfl⟩, hC⟩
    | ok l rest =>
      rintro ⟨v, rfl, _, hO⟩
      obtain ⟨A, c, rfl, _, _⟩ := Own.form hO
      exact ⟨⟨_, _, _, _, _, rfl⟩, hC⟩
  · refine (Scan_bad s 0 w (.inr (.inr (by omega)))).mono ?_
    rintro e w' ⟨rfl, hC⟩
    exact ⟨⟨_, _, _, _, _, rfl⟩, hC⟩

set_option maxRecDepth 100000 in
set_option maxHeartbeats 4000000 in
theorem wordQuotes_calls (s t : ByteArray) (w : World) (ht : t.size ≤ 140737488355328) :
    Calls Try.prog 5 #[.string s, .string t] w fun e w' => e = .returned (.bool true) ∧ Chg (fun _ => False) w w' := by
  by_cases hs : 1000 < s.size
  · have q1 : decide ((1000 : Int) < (s.size : Int)) = true := by simp; omega
    go_enter Try.func5, Try.ntmps5
    go_wp2_with (go_at_call 10; refine (awake_calls _).mono ?_; rintro e w' ⟨rfl, hCa⟩)
    go_ret
    exact ⟨rfl, hCa⟩
  · have q1 : decide ((1000 : Int) < (s.size : Int)) = false := by simp; omega
    generalize hA : s.data.toList.all noQuote = A
    generalize hB : s.data.toList.all plainB = B
    have HA0 := Lib.hid hA; clear hA
    have HB0 := Lib.hid hB; clear hB
    go_enter Try.func5, Try.ntmps5
    go_wp2
    go_loop [5, 6, 7] (fun av bv iv => ∃ (k : Nat) (a b : Bool), iv = .int .i64 k ∧ av = .bool a ∧ bv = .bool b ∧ k ≤ s.size ∧ Hid ((a && (s.data.toList.drop k).all noQuote) = A) ∧ Hid ((b && (s.data.toList.drop k).all plainB) = B)) (fun av bv iv => s.size - (intOf iv).toNat)
    case atStart => exact ⟨0, true, true, rfl, rfl, rfl, by omega, Lib.hid (by simpa using HA0.out), Lib.hid (by simpa using HB0.out)⟩
    case round =>
      obtain ⟨k, a, b, rfl, rfl, rfl, hk, HA, HB⟩ := hrel
      by_cases hlt : k < s.size
      · have HD := Lib.hid (byte_drop s k hlt)
        have q2 : (0 : Int) ≤ (k : Int) := by omega
        have q3 : (k : Int) < (s.size : Int) := by omega
        have hq39 : ((s[k].toNat : Int) == 39) = (s[k] == 39) := byte_eqn s[k] 39 (by decide)
        have hq34 : ((s[k].toNat : Int) == 34) = (s[k] == 34) := byte_eqn s[k] 34 (by decide)
        have hq36 : ((s[k].toNat : Int) == 36) = (s[k] == 36) := byte_eqn s[k] 36 (by decide)
        have hq92 : ((s[k].toNat : Int) == 92) = (s[k] == 92) := byte_eqn s[k] 92 (by decide)
        have hq96 : ((s[k].toNat : Int) == 96) = (s[k] == 96) := byte_eqn s[k] 96 (by decide)
        have HEA : Hid (∀ x, ((x && !((s[k].toNat : Int) == 39)) && (s.data.toList.drop (k + 1)).all noQuote) = (x && (s.data.toList.drop k).all noQuote)) := Lib.hid (by
          intro x; rw [HD.out, List.all_cons, noQuote, hq39, Bool.and_assoc])
        have HEB : Hid (∀ x, ((x && (!((s[k].toNat : Int) == 34) && !((s[k].toNat : Int) == 36) && !((s[k].toNat : Int) == 92) && !((s[k].toNat : Int) == 96))) && (s.data.toList.drop (k + 1)).all plainB) = (x && (s.data.toList.drop k).all plainB)) := Lib.hid (by
          intro x; rw [HD.out, List.all_cons, plainB, hq34, hq36, hq92, hq96, Bool.and_assoc])
        clear hq39 hq34 hq36 hq92 hq96
        go_wp2
        all_goals
          refine ⟨⟨k + 1, _, _, by go_num, rfl, rfl, by omega, Lib.hid ?_, Lib.hid ?_⟩, by simp [intOf]; omega⟩
          · rw [← HA.out, ← HEA.out]; simp [bne, *]
          · rw [← HB.out, ← HEB.out]; simp [bne, *, Bool.and_assoc]
      · have q2 : decide ((k : Int) < (s.size : Int)) = false := by rw [decide_eq_false_iff_not]; omega
        have q2' : decide (k < s.size) = false := by rw [decide_eq_false_iff_not]; omega
        have HA1 : Hid (a = true → s.data.toList.all noQuote = true) := Lib.hid (by
          intro h; rw [HA0.out, ← HA.out, h, drop_end s k hlt]; rfl)
        have HB1 : Hid (b = true → s.data.toList.all plainB = true) := Lib.hid (by
          intro h; rw [HB0.out, ← HB.out, h, drop_end s k hlt]; rfl)
        clear HA HB HA0 HB0 hlt hk
        have hR : Rep (w.alloc (.cells #[.int .i64 1, .bool true, .string s, .string ⟨#[]⟩, .slice none 0 0] 35)) (fun _ => True) (.sl 35 5 (Part.ds [lit s.data.toList true])) [.slice (some ⟨w.heap.size, 0, none⟩) 1 1] :=
          ⟨_, _, _, rfl, Nat.le_refl _, by simp [maxLen], row_rd (row_new w _) trivial, _, [], rfl, rfl, part_nil _ _ 1 true s s.data.toList (bstr_of s).symm, rfl⟩
        have hC : Chg (fun _ => False) w (w.alloc (.cells #[.int .i64 1, .bool true, .string s, .string ⟨#[]⟩, .slice none 0 0] 35)) := (Chg.refl _ _).alloc _
        revert hR hC
        generalize hw1 : w.alloc (.cells #[.int .i64 1, .bool true, .string s, .string ⟨#[]⟩, .slice none 0 0] 35) = w1
        intro hR hC
        have HW1 := Lib.hid hw1; clear hw1
        cases a
        case true =>
          have HSG := Lib.hid (scan_single s.data.toList (noQuote_all _ (HA1.out rfl)))
          go_wp2_with fail
          rw [HW1.out]
          rw [quote_text]
          have hS1 := Scan_calls (bstr (39 :: (s.data.toList ++ [39]))) 0 w1 (by omega) (by rw [bstr_size]; simp; omega)
          rw [bstr_toList, List.drop_zero, HSG.out] at hS1
          refine Calls.mono hS1 ?_
          clear hS1
          rintro e w21 ⟨hC21, v, rfl, hj, hO1⟩
          clear hj
          obtain ⟨A1, c1, rfl, _, _⟩ := Own.form hO1
          rw [show (bstr (39 :: (s.data.toList ++ [39]))).size - ([] : Bytes).length = s.size + 2 by rw [bstr_size]; simp]
          have hr1 := hR.stay hC21 (fun _ _ e => e)
          have hsame1 := same_calls w21 _ _ _ _ [lit s.data.toList true] [lit s.data.toList true] hO1.rep hr1
          rw [beqs_refl] at hsame1
          clear hO1
          go_wp2_with fail
          refine Calls.mono hsame1 ?_
          clear hsame1
          rintro e w31 ⟨rfl, m1, rfl⟩
          have hq1 := hr1.stay ((Chg.refl (fun _ => False) _).drewN m1) (fun _ _ e => e)
          have hCC1 := (hC.trans hC21 (fun _ h _ => h)).drewN m1
          clear hr1 hC21
          revert hq1 hCC1
          generalize w21.drewN m1 = w41
          intro hq1 hCC1
          cases b
          case true =>
            have HDB := Lib.hid (scan_double s.data.toList (HB1.out rfl))
            go_wp2_with fail
            rw [quote_text]
            have hS2 := Scan_calls (bstr (34 :: (s.data.toList ++ [34]))) 0 w41 (by omega) (by rw [bstr_size]; simp; omega)
            rw [bstr_toList, List.drop_zero, HDB.out] at hS2
            refine Calls.mono hS2 ?_
            clear hS2
            rintro e w22 ⟨hC22, v, rfl, hj, hO2⟩
            clear hj
            obtain ⟨A2, c2, rfl, _, _⟩ := Own.form hO2
            rw [show (bstr (34 :: (s.data.toList ++ [34]))).size - ([] : Bytes).length = s.size + 2 by rw [bstr_size]; simp]
            have hr2 := hq1.stay hC22 (fun _ _ e => e)
            have hsame2 := same_calls w22 _ _ _ _ [lit s.data.toList true] [lit s.data.toList true] hO2.rep hr2
            rw [beqs_refl] at hsame2
            clear hO2
            go_wp2_with fail
            refine Calls.mono hsame2 ?_
            clear hsame2
            rintro e w32 ⟨rfl, m2, rfl⟩
            have hq2 := hr2.stay ((Chg.refl (fun _ => False) _).drewN m2) (fun _ _ e => e)
            have hCC2 := (hCC1.trans hC22 (fun _ h _ => h)).drewN m2
            clear hr2 hC22
            revert hq2 hCC2
            generalize w22.drewN m2 = w42
            intro hq2 hCC2
            go_wp2_with fail
            rw [dollar_text]
            cases hn : nameB t.data.toList
            case true =>
              have hn2 : t.data.toList.length ≤ 64 := by
                simp only [nameB, Bool.and_eq_true, decide_eq_true_eq] at hn
                exact hn.1.2
              rw [len_data] at hn2
              have hS := Scan_calls (bstr (36 :: t.data.toList)) 0 w42 (by omega) (by rw [bstr_size]; simp; omega)
              rw [bstr_toList, List.drop_zero, scan_dollar _ hn] at hS
              have HN := Lib.hid hn; clear hn
              refine Calls.mono hS ?_
              clear hS
              rintro e w5 ⟨hC5, v, rfl, hj, hO⟩
              clear hj
              obtain ⟨A, c, rfl, _, _⟩ := Own.form hO
              go_wp2_with fail
              refine Calls.mono (name_calls _ _ ht) ?_
              rintro e w' ⟨rfl, rfl⟩
              rw [HN.out]
              have hR : Rep (w5.alloc (.cells #[.int .i64 2, .bool false, .string t, .string ⟨#[]⟩, .slice none 0 0] 35)) (fun _ => True) (.sl 35 5 (Part.ds [.mk 2 false t.data.toList [] []])) [.slice (some ⟨w5.heap.size, 0, none⟩) 1 1] :=
                ⟨_, _, _, rfl, Nat.le_refl _, by simp [maxLen], row_rd (row_new w5 _) trivial, _, [], rfl, rfl, part_nil _ _ 2 false t t.data.toList (bstr_of t).symm, rfl⟩
              have hC6 : Chg (fun _ => False) w5 (w5.alloc (.cells #[.int .i64 2, .bool false, .string t, .string ⟨#[]⟩, .slice none 0 0] 35)) := (Chg.refl _ _).alloc _
              have hS2 := same_calls _ _ _ _ _ _ _ (hO.stay hC6 (fun _ _ e => e)).rep hR
              rw [beqs_refl] at hS2
              go_wp2_with fail
              refine Calls.mono hS2 ?_
              clear hS2 hR hO
              rintro e w7 ⟨rfl, m, rfl⟩
              go_wp2_with (go_at_call 10; refine (awake_calls _).mono ?_; rintro e w' ⟨rfl, hCa⟩)
              go_ret
              exact ⟨rfl, (((hCC2.trans hC5 (fun _ h _ => h)).trans hC6 (fun _ h _ => h)).drewN m).trans hCa (fun _ h _ => h)⟩
            case false =>
              have HN := Lib.hid hn; clear hn
              refine (Scan_some _ _).mono ?_
              rintro e w5 ⟨⟨A, n, c, k, x, rfl⟩, hC5⟩
              go_wp2_with fail
              refine Calls.mono (name_calls _ _ ht) ?_
              rintro e w' ⟨rfl, rfl⟩
              rw [HN.out]
              go_wp2_with (go_at_call 10; refine (awake_calls _).mono ?_; rintro e w' ⟨rfl, hCa⟩)
              go_ret
              exact ⟨rfl, (hCC2.trans hC5 (fun _ h _ => h)).trans hCa (fun _ h _ => h)⟩
          case false =>
            go_wp2_with fail
            rw [dollar_text]
            cases hn : nameB t.data.toList
            case true =>
              have hn2 : t.data.toList.length ≤ 64 := by
                simp only [nameB, Bool.and_eq_true, decide_eq_true_eq] at hn
                exact hn.1.2
              rw [len_data] at hn2
              have hS := Scan_calls (bstr (36 :: t.data.toList)) 0 w41 (by omega) (by rw [bstr_size]; simp; omega)
              rw [bstr_toList, List.drop_zero, scan_dollar _ hn] at hS
              have HN := Lib.hid hn; clear hn
              refine Calls.mono hS ?_
              clear hS
              rintro e w5 ⟨hC5, v, rfl, hj, hO⟩
              clear hj
              obtain ⟨A, c, rfl, _, _⟩ := Own.form hO
              go_wp2_with fail
              refine Calls.mono (name_calls _ _ ht) ?_
              rintro e w' ⟨rfl, rfl⟩
              rw [HN.out]
              have hR : Rep (w5.alloc (.cells #[.int .i64 2, .bool false, .string t, .string ⟨#[]⟩, .slice none 0 0] 35)) (fun _ => True) (.sl 35 5 (Part.ds [.mk 2 false t.data.toList [] []])) [.slice (some ⟨w5.heap.size, 0, none⟩) 1 1] :=
                ⟨_, _, _, rfl, Nat.le_refl _, by simp [maxLen], row_rd (row_new w5 _) trivial, _, [], rfl, rfl, part_nil _ _ 2 false t t.data.toList (bstr_of t).symm, rfl⟩
              have hC6 : Chg (fun _ => False) w5 (w5.alloc (.cells #[.int .i64 2, .bool false, .string t, .string ⟨#[]⟩, .slice none 0 0] 35)) := (Chg.refl _ _).alloc _
              have hS2 := same_calls _ _ _ _ _ _ _ (hO.stay hC6 (fun _ _ e => e)).rep hR
              rw [beqs_refl] at hS2
              go_wp2_with fail
              refine Calls.mono hS2 ?_
              clear hS2 hR hO
              rintro e w7 ⟨rfl, m, rfl⟩
              go_wp2_with (go_at_call 10; refine (awake_calls _).mono ?_; rintro e w' ⟨rfl, hCa⟩)
              go_ret
              exact ⟨rfl, (((hCC1.trans hC5 (fun _ h _ => h)).trans hC6 (fun _ h _ => h)).drewN m).trans hCa (fun _ h _ => h)⟩
            case false =>
              have HN := Lib.hid hn; clear hn
              refine (Scan_some _ _).mono ?_
              rintro e w5 ⟨⟨A, n, c, k, x, rfl⟩, hC5⟩
              go_wp2_with fail
              refine Calls.mono (name_calls _ _ ht) ?_
              rintro e w' ⟨rfl, rfl⟩
              rw [HN.out]
              go_wp2_with (go_at_call 10; refine (awake_calls _).mono ?_; rintro e w' ⟨rfl, hCa⟩)
              go_ret
              exact ⟨rfl, (hCC1.trans hC5 (fun _ h _ => h)).trans hCa (fun _ h _ => h)⟩
        case false =>
          cases b
          case true =>
            have HDB := Lib.hid (scan_double s.data.toList (HB1.out rfl))
            go_wp2_with fail
            rw [HW1.out]
            rw [quote_text]
            have hS2 := Scan_calls (bstr (34 :: (s.data.toList ++ [34]))) 0 w1 (by omega) (by rw [bstr_size]; simp; omega)
            rw [bstr_toList, List.drop_zero, HDB.out] at hS2
            refine Calls.mono hS2 ?_
            clear hS2
            rintro e w22 ⟨hC22, v, rfl, hj, hO2⟩
            clear hj
            obtain ⟨A2, c2, rfl, _, _⟩ := Own.form hO2
            rw [show (bstr (34 :: (s.data.toList ++ [34]))).size - ([] : Bytes).length = s.size + 2 by rw [bstr_size]; simp]
            have hr2 := hR.stay hC22 (fun _ _ e => e)
            have hsame2 := same_calls w22 _ _ _ _ [lit s.data.toList true] [lit s.data.toList true] hO2.rep hr2
            rw [beqs_refl] at hsame2
            clear hO2
            go_wp2_with fail
            refine Calls.mono hsame2 ?_
            clear hsame2
            rintro e w32 ⟨rfl, m2, rfl⟩
            have hq2 := hr2.stay ((Chg.refl (fun _ => False) _).drewN m2) (fun _ _ e => e)
            have hCC2 := (hC.trans hC22 (fun _ h _ => h)).drewN m2
            clear hr2 hC22
            revert hq2 hCC2
            generalize w22.drewN m2 = w42
            intro hq2 hCC2
            go_wp2_with fail
            rw [dollar_text]
            cases hn : nameB t.data.toList
            case true =>
              have hn2 : t.data.toList.length ≤ 64 := by
                simp only [nameB, Bool.and_eq_true, decide_eq_true_eq] at hn
                exact hn.1.2
              rw [len_data] at hn2
              have hS := Scan_calls (bstr (36 :: t.data.toList)) 0 w42 (by omega) (by rw [bstr_size]; simp; omega)
              rw [bstr_toList, List.drop_zero, scan_dollar _ hn] at hS
              have HN := Lib.hid hn; clear hn
              refine Calls.mono hS ?_
              clear hS
              rintro e w5 ⟨hC5, v, rfl, hj, hO⟩
              clear hj
              obtain ⟨A, c, rfl, _, _⟩ := Own.form hO
              go_wp2_with fail
              refine Calls.mono (name_calls _ _ ht) ?_
              rintro e w' ⟨rfl, rfl⟩
              rw [HN.out]
              have hR : Rep (w5.alloc (.cells #[.int .i64 2, .bool false, .string t, .string ⟨#[]⟩, .slice none 0 0] 35)) (fun _ => True) (.sl 35 5 (Part.ds [.mk 2 false t.data.toList [] []])) [.slice (some ⟨w5.heap.size, 0, none⟩) 1 1] :=
                ⟨_, _, _, rfl, Nat.le_refl _, by simp [maxLen], row_rd (row_new w5 _) trivial, _, [], rfl, rfl, part_nil _ _ 2 false t t.data.toList (bstr_of t).symm, rfl⟩
              have hC6 : Chg (fun _ => False) w5 (w5.alloc (.cells #[.int .i64 2, .bool false, .string t, .string ⟨#[]⟩, .slice none 0 0] 35)) := (Chg.refl _ _).alloc _
              have hS2 := same_calls _ _ _ _ _ _ _ (hO.stay hC6 (fun _ _ e => e)).rep hR
              rw [beqs_refl] at hS2
              go_wp2_with fail
              refine Calls.mono hS2 ?_
              clear hS2 hR hO
              rintro e w7 ⟨rfl, m, rfl⟩
              go_wp2_with (go_at_call 10; refine (awake_calls _).mono ?_; rintro e w' ⟨rfl, hCa⟩)
              go_ret
              exact ⟨rfl, (((hCC2.trans hC5 (fun _ h _ => h)).trans hC6 (fun _ h _ => h)).drewN m).trans hCa (fun _ h _ => h)⟩
            case false =>
              have HN := Lib.hid hn; clear hn
              refine (Scan_some _ _).mono ?_
              rintro e w5 ⟨⟨A, n, c, k, x, rfl⟩, hC5⟩
              go_wp2_with fail
              refine Calls.mono (name_calls _ _ ht) ?_
              rintro e w' ⟨rfl, rfl⟩
              rw [HN.out]
              go_wp2_with (go_at_call 10; refine (awake_calls _).mono ?_; rintro e w' ⟨rfl, hCa⟩)
              go_ret
              exact ⟨rfl, (hCC2.trans hC5 (fun _ h _ => h)).trans hCa (fun _ h _ => h)⟩
          case false =>
            go_wp2_with fail
            rw [HW1.out]
            rw [dollar_text]
            cases hn : nameB t.data.toList
            case true =>
              have hn2 : t.data.toList.length ≤ 64 := by
                simp only [nameB, Bool.and_eq_true, decide_eq_true_eq] at hn
                exact hn.1.2
              rw [len_data] at hn2
              have hS := Scan_calls (bstr (36 :: t.data.toList)) 0 w1 (by omega) (by rw [bstr_size]; simp; omega)
              rw [bstr_toList, List.drop_zero, scan_dollar _ hn] at hS
              have HN := Lib.hid hn; clear hn
              refine Calls.mono hS ?_
              clear hS
              rintro e w5 ⟨hC5, v, rfl, hj, hO⟩
              clear hj
              obtain ⟨A, c, rfl, _, _⟩ := Own.form hO
              go_wp2_with fail
              refine Calls.mono (name_calls _ _ ht) ?_
              rintro e w' ⟨rfl, rfl⟩
              rw [HN.out]
              have hR : Rep (w5.alloc (.cells #[.int .i64 2, .bool false, .string t, .string ⟨#[]⟩, .slice none 0 0] 35)) (fun _ => True) (.sl 35 5 (Part.ds [.mk 2 false t.data.toList [] []])) [.slice (some ⟨w5.heap.size, 0, none⟩) 1 1] :=
                ⟨_, _, _, rfl, Nat.le_refl _, by simp [maxLen], row_rd (row_new w5 _) trivial, _, [], rfl, rfl, part_nil _ _ 2 false t t.data.toList (bstr_of t).symm, rfl⟩
              have hC6 : Chg (fun _ => False) w5 (w5.alloc (.cells #[.int .i64 2, .bool false, .string t, .string ⟨#[]⟩, .slice none 0 0] 35)) := (Chg.refl _ _).alloc _
              have hS2 := same_calls _ _ _ _ _ _ _ (hO.stay hC6 (fun _ _ e => e)).rep hR
              rw [beqs_refl] at hS2
              go_wp2_with fail
              refine Calls.mono hS2 ?_
              clear hS2 hR hO
              rintro e w7 ⟨rfl, m, rfl⟩
              go_wp2_with (go_at_call 10; refine (awake_calls _).mono ?_; rintro e w' ⟨rfl, hCa⟩)
              go_ret
              exact ⟨rfl, (((hC.trans hC5 (fun _ h _ => h)).trans hC6 (fun _ h _ => h)).drewN m).trans hCa (fun _ h _ => h)⟩
            case false =>
              have HN := Lib.hid hn; clear hn
              refine (Scan_some _ _).mono ?_
              rintro e w5 ⟨⟨A, n, c, k, x, rfl⟩, hC5⟩
              go_wp2_with fail
              refine Calls.mono (name_calls _ _ ht) ?_
              rintro e w' ⟨rfl, rfl⟩
              rw [HN.out]
              go_wp2_with (go_at_call 10; refine (awake_calls _).mono ?_; rintro e w' ⟨rfl, hCa⟩)
              go_ret
              exact ⟨rfl, (hC.trans hC5 (fun _ h _ => h)).trans hCa (fun _ h _ => h)⟩

namespace fnWordQuotes
open Go.ChangeShapes Go.WideShapes Go.ChangeAt
open Go.ChangeMaps (open_string shut_string)
theorem own : ownKnob Try.prog.godebug = none := by kernel_rfl

set_option maxRecDepth 100000 in
theorem lifted (os : Os) (started : os.Started) (H : Type) (enc : TypeId × Value → H) :
    ReturnsInHanded {} Try.checked os 5 .any (Rows.wordQuotesSpec.pre6 enc Try.prog Try.f5 Rows.wordQuotesRow.domain false) (Rows.wordQuotesSpec.post enc Try.prog Try.f5 false true false false) := by
  refine returnsInHanded_of_change_sized (C := Try.checked) own started (by kernel_rfl) Try.func5
    (ChangeSpec.witness6 (enc := enc) (C := Try.checked) false ⟨#[], #[.string ⟨#[]⟩, .string ⟨#[]⟩], []⟩ 8 (by kernel_rfl) (by kernel_rfl) (by kernel_rfl) (by kernel_rfl)) ?_
  intro W base args ds gs before hval0 hW _ hsz0 _
  have hsz : (DataW.weightsEach Try.prog (Try.f5.params.toList ++ Rows.wordQuotesSpec.plain.varTypes Try.prog) (ds ++ gs)).all (· ≤ reachBytes) = true := hsz0
  clear hsz0
  have hval : ∀ (j : Nat) t v, Try.f5.params[j]? = some t → args[j]? = some v → Value.okWide Try.prog W .any base t v := hval0
  have hW' := hW
  obtain ⟨p, q, hA0, hV, rfl, _, _⟩ := hW
  have hA : DataW.TrodAll enc Try.prog W 0 (fun _ => true) true Try.f5.params.toList args.toList ds p := hA0
  rw [Try.params5] at hA hval hsz
  obtain ⟨v0, vs0, d0, ds0, p0, q0, hargs, rfl, rfl, h0, r0⟩ := trodAll_cons hA
  obtain ⟨v1, vs1, d1, ds1, p1, q1, hargs1, rfl, rfl, h1, r1⟩ := trodAll_cons r0
  obtain ⟨rfl, rfl, rfl⟩ := trodAll_nil r1
  obtain rfl : args = #[v0, v1] := by cases args; simp_all
  obtain ⟨rfl, rfl⟩ := trodVars_none hV
  obtain ⟨s, rfl, rfl, rfl, hs0⟩ := open_string Try.underlying9 (hval 0 9 v0 rfl rfl) h0
  have hz0 : s.size ≤ 140737488355328 := by
    have h1 := sized_string hsz (j := 0) (t := 9) (bytes := s.data.toList) rfl rfl
    have h2 := reachBytes_lt
    rw [len_data] at h1
    omega
  obtain ⟨t, rfl, rfl, rfl, hs1⟩ := open_string Try.underlying9 (hval 1 9 v1 rfl rfl) h1
  have hz1 : t.size ≤ 140737488355328 := by
    have h1 := sized_string hsz (j := 1) (t := 9) (bytes := t.data.toList) rfl rfl
    have h2 := reachBytes_lt
    rw [len_data] at h1
    omega
  clear hA0
  simp only [List.append_nil] at hW'
  refine (wordQuotes_calls s t W hz1).mono fun e W' ⟨he, hg⟩ => ?_
  subst he
  exact ⟨_, rfl, _, _, _, [], [], [], hW', trodAll_cons_mk (shut_bool Try.underlying4 _) trodAll_mk0, trodAll_cons_mk (shut_string Try.underlying9 hs0) (trodAll_cons_mk (shut_string Try.underlying9 hs1) trodAll_mk0), rfl, hg.below.frame _, fun h => by cases h⟩
end fnWordQuotes
set_option maxRecDepth 100000 in
theorem wordQuotes_proved : Rows.WordQuotesSaid :=
  OpenClaim.holds_of_wide 5 Try.f5 rfl rfl rfl rfl rfl rfl rfl ⟨rfl, rfl, rfl, rfl, rfl⟩ rfl rfl rfl rfl rfl (by kernel_rfl) Try.func5 (by kernel_rfl)
    (of_decide_eq_true (by kernel_rfl)) (by unfold Func.isWrapper; first | (rw [if_pos (by decide +kernel)]; kernel_rfl) | (rw [if_neg (by decide +kernel)]; exact ⟨rfl, rfl⟩))
    (fun os started H enc _ => fnWordQuotes.lifted os started H enc)
#print axioms wordQuotes_proved
end Go.Proofs.Ytdfnkmiabmjolaa
