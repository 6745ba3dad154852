/- rehearsallaw02.MatchQuotes: it returns true for every two texts, and they read behind the call as before. -/
import Derived.Test.YtbjejnegfojnmaaM22
import Derived.Test.YtbjejnegfojnmaaRows
import Derived.WalkKit
import Derived.ProofKit
import Derived.OpenShut
import Derived.SizedLaws
namespace Go.Proofs.Ytbjejnegfojnmaa
open Go.RowKit
set_option linter.unusedVariables false
set_option linter.unusedSimpArgs false

set_option maxRecDepth 100000 in
set_option maxHeartbeats 2000000 in
theorem matchQuotes_calls (s t : ByteArray) (w : World) :
    Calls Try.prog 8 #[.string s, .string t] w fun e w' => e = .returned (.bool true) ∧ Chg (fun _ => False) w w' := by
  by_cases hs : s.size ≤ 60 ∧ t.size ≤ 100
  · have HS : Hid ((decide (s.size ≤ 60) && decide (t.size ≤ 100)) = true) := Lib.hid (by simp [hs.1, hs.2])
    obtain ⟨h60, h100⟩ := hs
    have hq := quote_len s.data.toList
    rw [len_data] at hq
    have hP := plain_quote s.data.toList
    have hF1 := match_quote s.data.toList s.data.toList
    have hF2 := match_quote s.data.toList t.data.toList
    rw [beq_self_eq_true] at hF1
    have hst : (s.toList == t.toList) = (s.data.toList == t.data.toList) := by rw [ByteArray.toList_eq, ByteArray.toList_eq]
    have HP := Lib.hid hP; clear hP
    have HF1 := Lib.hid hF1; clear hF1
    have HF2 := Lib.hid hF2; clear hF2
    have hqz : (bstr (quoteL s.data.toList)).size ≤ 200 := by rw [bstr_size]; omega
    clear hq
    generalize (s.data.toList == t.data.toList) = b at *
    go_enter Try.func8, Try.ntmps8
    go_wp2_with fail
    refine Calls.mono (short_calls _ _ _) ?_
    rintro e w' ⟨rfl, rfl⟩
    rw [HS.out]
    go_wp2_with fail
    refine Calls.mono (Quote_calls s _ (by omega)) ?_
    rintro e w1 ⟨rfl, hC1⟩
    go_wp2_with fail
    refine Calls.mono (Plain_calls s _ (by omega)) ?_
    rintro e w2 ⟨rfl, hC2⟩
    go_wp2_with fail
    refine Calls.mono (RPlain_calls s _ (by omega)) ?_
    rintro e w3 ⟨rfl, m, rfl⟩
    generalize plainS (plainL s.data.toList) = x
    generalize (plainL s.data.toList).isSome = y
    go_wp2_with fail
    refine Calls.mono (Plain_calls (bstr (quoteL s.data.toList)) _ (by omega)) ?_
    rintro e w4 ⟨rfl, hC4⟩
    rw [bstr_toList, HP.out]
    simp only [plainS, bstr_of, Option.isSome_some]
    go_wp2_with fail
    refine Calls.mono (RQuote_calls s _ (by omega)) ?_
    rintro e w' ⟨rfl, rfl⟩
    go_wp2_with fail
    refine Calls.mono (Fits_calls (bstr (quoteL s.data.toList)) s _ (by omega) (by omega)) ?_
    rintro e w5 ⟨rfl, hC5⟩
    rw [bstr_toList, HF1.out]
    go_wp2_with fail
    refine Calls.mono (Fits_calls (bstr (quoteL s.data.toList)) t _ (by omega) (by omega)) ?_
    rintro e w6 ⟨rfl, hC6⟩
    rw [bstr_toList, HF2.out]
    go_wp2_with (go_at_call 10; refine (awake_calls _).mono ?_; rintro e w' ⟨rfl, hCa⟩)
    go_ret
    exact ⟨rfl, (((((hC1.trans hC2 (fun _ h _ => h)).drewN m).trans hC4 (fun _ h _ => h)).trans hC5 (fun _ h _ => h)).trans hC6 (fun _ h _ => h)).trans hCa (fun _ h _ => h)⟩
  · have HS : Hid ((decide (s.size ≤ 60) && decide (t.size ≤ 100)) = false) := Lib.hid (by simpa using hs)
    go_enter Try.func8, Try.ntmps8
    go_wp2_with fail
    refine Calls.mono (short_calls _ _ _) ?_
    rintro e w' ⟨rfl, rfl⟩
    rw [HS.out]
    go_wp2_with (go_at_call 10; refine (awake_calls _).mono ?_; rintro e w' ⟨rfl, hCa⟩)
    go_ret
    exact ⟨rfl, hCa⟩

namespace fnMatchQuotes
open Go.ChangeShapes Go.WideShapes Go.ChangeAt
open Go.ChangeMaps (open_string shut_string)
theorem own : ownKnob Try.prog.godebug = none := by kernel_rfl

set_option maxRecDepth 100000 in
theorem lifted (os : Os) (started : os.Started) (H : Type) (enc : TypeId × Value → H) :
    ReturnsInHanded {} Try.checked os 8 .any (Rows.matchQuotesSpec.pre6 enc Try.prog Try.f8 Rows.matchQuotesRow.domain false) (Rows.matchQuotesSpec.post enc Try.prog Try.f8 false true false false) := by
  refine returnsInHanded_of_change_sized (C := Try.checked) own started (by kernel_rfl) Try.func8
    (ChangeSpec.witness6 (enc := enc) (C := Try.checked) false ⟨#[], #[.string ⟨#[]⟩, .string ⟨#[]⟩], []⟩ 8 (by kernel_rfl) (by kernel_rfl) (by kernel_rfl) (by kernel_rfl)) ?_
  intro W base args ds gs before hval0 hW _ hsz0 _
  have hsz : (DataW.weightsEach Try.prog (Try.f8.params.toList ++ Rows.matchQuotesSpec.plain.varTypes Try.prog) (ds ++ gs)).all (· ≤ reachBytes) = true := hsz0
  clear hsz0
  have hval : ∀ (j : Nat) t v, Try.f8.params[j]? = some t → args[j]? = some v → Value.okWide Try.prog W .any base t v := hval0
  have hW' := hW
  obtain ⟨p, q, hA0, hV, rfl, _, _⟩ := hW
  have hA : DataW.TrodAll enc Try.prog W 0 (fun _ => true) true Try.f8.params.toList args.toList ds p := hA0
  rw [Try.params8] at hA hval hsz
  obtain ⟨v0, vs0, d0, ds0, p0, q0, hargs, rfl, rfl, h0, r0⟩ := trodAll_cons hA
  obtain ⟨v1, vs1, d1, ds1, p1, q1, hargs1, rfl, rfl, h1, r1⟩ := trodAll_cons r0
  obtain ⟨rfl, rfl, rfl⟩ := trodAll_nil r1
  obtain rfl : args = #[v0, v1] := by cases args; simp_all
  obtain ⟨rfl, rfl⟩ := trodVars_none hV
  obtain ⟨s, rfl, rfl, rfl, hs0⟩ := open_string Try.underlying9 (hval 0 9 v0 rfl rfl) h0
  have hz0 : s.size ≤ 140737488355328 := by
    have h1 := sized_string hsz (j := 0) (t := 9) (bytes := s.data.toList) rfl rfl
    have h2 := reachBytes_lt
    rw [len_data] at h1
    omega
  obtain ⟨t, rfl, rfl, rfl, hs1⟩ := open_string Try.underlying9 (hval 1 9 v1 rfl rfl) h1
  have hz1 : t.size ≤ 140737488355328 := by
    have h1 := sized_string hsz (j := 1) (t := 9) (bytes := t.data.toList) rfl rfl
    have h2 := reachBytes_lt
    rw [len_data] at h1
    omega
  clear hA0
  simp only [List.append_nil] at hW'
  refine (matchQuotes_calls s t W).mono fun e W' ⟨he, hg⟩ => ?_
  subst he
  exact ⟨_, rfl, _, _, _, [], [], [], hW', trodAll_cons_mk (shut_bool Try.underlying4 _) trodAll_mk0, trodAll_cons_mk (shut_string Try.underlying9 hs0) (trodAll_cons_mk (shut_string Try.underlying9 hs1) trodAll_mk0), rfl, hg.below.frame _, fun h => by cases h⟩
end fnMatchQuotes
set_option maxRecDepth 100000 in
theorem matchQuotes_proved : Rows.MatchQuotesSaid :=
  OpenClaim.holds_of_wide 8 Try.f8 rfl rfl rfl rfl rfl rfl rfl ⟨rfl, rfl, rfl, rfl, rfl⟩ rfl rfl rfl rfl rfl (by kernel_rfl) Try.func8 (by kernel_rfl)
    (of_decide_eq_true (by kernel_rfl)) (by unfold Func.isWrapper; first | (rw [if_pos (by decide +kernel)]; kernel_rfl) | (rw [if_neg (by decide +kernel)]; exact ⟨rfl, rfl⟩))
    (fun os started H enc _ => fnMatchQuotes.lifted os started H enc)
#print axioms matchQuotes_proved
end Go.Proofs.Ytbjejnegfojnmaa
