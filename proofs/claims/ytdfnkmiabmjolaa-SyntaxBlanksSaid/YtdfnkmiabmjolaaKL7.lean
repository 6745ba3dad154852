/- rehearsallaw08.SyntaxBlanks: it returns true for every two texts, and both read behind the call as before. -/
import Derived.Test.YtdfnkmiabmjolaaK14
import Derived.Test.YtdfnkmiabmjolaaRows
import Derived.ProofKit
import Derived.OpenShut
import Derived.SizedLaws
namespace Go.Proofs.Ytdfnkmiabmjolaa
open Go.RowKit
set_option linter.unusedVariables false
set_option linter.unusedSimpArgs false

theorem blanks_text (s t : ByteArray) : ((((⟨#[10, 9, 35]⟩ : ByteArray) ++ t ++ ⟨#[10, 32]⟩) ++ s) ++ ⟨#[10, 32, 92, 10, 32, 35]⟩) ++ t = bstr ([10, 9, 35] ++ t.data.toList ++ [10, 32] ++ s.data.toList ++ [10, 32, 92, 10, 32, 35] ++ t.data.toList) := by
  have h1 : (⟨#[10, 9, 35]⟩ : ByteArray) = bstr [10, 9, 35] := rfl
  have h2 : (⟨#[10, 32]⟩ : ByteArray) = bstr [10, 32] := rfl
  have h3 : (⟨#[10, 32, 92, 10, 32, 35]⟩ : ByteArray) = bstr [10, 32, 92, 10, 32, 35] := rfl
  have h4 := (bstr_of s).symm
  have h5 := (bstr_of t).symm
  rw [h1, h2, h3, h4, h5]
  simp only [bstr_append, bstr_toList]

set_option maxRecDepth 100000 in
set_option maxHeartbeats 4000000 in
theorem syntaxBlanks_calls (s t : ByteArray) (w : World) :
    Calls Try.prog 6 #[.string s, .string t] w fun e w' => e = .returned (.bool true) ∧ Chg (fun _ => False) w w' := by
  by_cases hs : 1500 < s.size
  · have q1 : decide ((1500 : Int) < (s.size : Int)) = true := by simp; omega
    go_enter Try.func6, Try.ntmps6
    go_wp2_with (go_at_call 23; refine (law_awake _).mono ?_; rintro e wa ⟨rfl, hCa⟩)
    go_ret
    exact ⟨rfl, hCa⟩
  · have q1 : decide ((1500 : Int) < (s.size : Int)) = false := by simp; omega
    by_cases ht : 200 < t.size
    · have q2 : decide ((200 : Int) < (t.size : Int)) = true := by simp; omega
      go_enter Try.func6, Try.ntmps6
      go_wp2_with (go_at_call 23; refine (law_awake _).mono ?_; rintro e wa ⟨rfl, hCa⟩)
      go_ret
      exact ⟨rfl, hCa⟩
    · have q2 : decide ((200 : Int) < (t.size : Int)) = false := by simp; omega
      have HS := Parse_calls s w (4 * s.size + 5) (Nat.le_refl _) (by omega)
      generalize hR : parseF (4 * s.size + 5) 0 s.data.toList = R at HS
      have HR := Lib.hid hR; clear hR
      go_enter Try.func6, Try.ntmps6
      go_wp2
      go_loop [5] (fun iv => ∃ k : Nat, iv = .int .i64 k ∧ k ≤ t.size ∧ Hid (∀ c ∈ t.data.toList.take k, c ≠ 10)) (fun iv => t.size - (intOf iv).toNat)
      case atStart => exact ⟨0, rfl, by omega, Lib.hid (by simp)⟩
      case round =>
        obtain ⟨k, rfl, hk, HA⟩ := hrel
        by_cases hlt : k < t.size
        · have q3 : (0 : Int) ≤ (k : Int) := by omega
          have q4 : (k : Int) < (t.size : Int) := by omega
          by_cases hc : t[k] = 10
          · have q5 : ((t[k].toNat : Int) == 10) = true := by rw [hc]; rfl
            clear hc
            go_wp2_with (go_at_call 23; refine (law_awake _).mono ?_; rintro e wa ⟨rfl, hCa⟩)
            go_ret
            exact ⟨rfl, hCa⟩
          · have q5 : ((t[k].toNat : Int) == 10) = false := by
              have : t[k].toNat ≠ 10 := fun e => hc (UInt8.toNat_inj.1 e)
              simp; omega
            have HA2 : Hid (∀ c ∈ t.data.toList.take (k + 1), c ≠ 10) := Lib.hid (by
              rw [List.take_succ_eq_append_getElem (by simpa using hlt)]
              intro c hm
              rcases List.mem_append.1 hm with h | h
              · exact HA.out c h
              · rw [List.mem_singleton] at h
                rw [h]
                exact hc)
            clear hc
            go_wp2
            go_round
            case rel => exact ⟨k + 1, by go_num, by omega, HA2⟩
            case measure => simp [intOf]; omega
        · have hrem : Hid (∀ c ∈ t.data.toList, c ≠ 10) := Lib.hid (by
            have h := HA.out
            rw [List.take_of_length_le (by rw [len_data]; omega)] at h
            exact h)
          clear HA
          go_wp2_with fail
          refine Calls.mono HS ?_
          clear HS
          rintro e w1 ⟨hC1, hp⟩
          cases R with
          | err left c =>
            obtain ⟨rfl, hle⟩ := hp
            have hne : c ≠ 0 := (nz_all _).parse _ _ _ _ HR.out
            have q5 : (c == 0) = false := by simpa using hne
            have q6 : (c != 0) = true := by simpa using hne
            clear hne
            go_wp2_with (go_at_call 23; refine (law_awake _).mono ?_; rintro e wa ⟨rfl, hCa⟩)
            go_ret
            exact ⟨rfl, hC1.trans hCa (fun _ h _ => h)⟩
          | ok l r =>
            obtain ⟨A1, c1, rfl, hO1⟩ := hp
            have hpb := parse_blanks (n2 := 4 * (bstr ([10, 9, 35] ++ t.data.toList ++ [10, 32] ++ s.data.toList ++ [10, 32, 92, 10, 32, 35] ++ t.data.toList)).size + 5) hrem.out HR.out (by rw [bstr_size]; simp only [List.length_append, len_data]; omega)
            have HS2 := Parse_calls (bstr ([10, 9, 35] ++ t.data.toList ++ [10, 32] ++ s.data.toList ++ [10, 32, 92, 10, 32, 35] ++ t.data.toList)) w1 _ (Nat.le_refl _) (by rw [bstr_size]; simp only [List.length_append, len_data, List.length_cons, List.length_nil]; omega)
            rw [bstr_toList, hpb] at HS2
            clear hpb
            generalize hnl : l.length = nl at *
            have HNL := Lib.hid hnl; clear hnl
            go_wp2_with fail
            rw [blanks_text]
            refine Calls.mono HS2 ?_
            clear HS2
            rintro e w2 ⟨hC2, A2, c2, rfl, hO2⟩
            rw [HNL.out] at hO2 ⊢
            have hO3 := hO1.stay hC2 (fun _ _ e => e)
            have hsame := lists_same w2 _ _ _ _ l hO3 hO2
            clear hO1 hO2 hO3
            go_wp2_with fail
            refine Calls.mono hsame ?_
            clear hsame
            rintro e w3 ⟨rfl, hC3⟩
            go_wp2_with (go_at_call 23; refine (law_awake _).mono ?_; rintro e wa ⟨rfl, hCa⟩)
            go_ret
            exact ⟨rfl, ((hC1.trans hC2 (fun _ h _ => h)).trans hC3 (fun _ h _ => h)).trans hCa (fun _ h _ => h)⟩

namespace fnSyntaxBlanks
open Go.ChangeShapes Go.WideShapes Go.ChangeAt
open Go.ChangeMaps (open_string shut_string)
theorem own : ownKnob Try.prog.godebug = none := by kernel_rfl

set_option maxRecDepth 100000 in
theorem lifted (os : Os) (started : os.Started) (H : Type) (enc : TypeId × Value → H) :
    ReturnsInHanded {} Try.checked os 6 .any (Rows.syntaxBlanksSpec.pre6 enc Try.prog Try.f6 Rows.syntaxBlanksRow.domain false) (Rows.syntaxBlanksSpec.post enc Try.prog Try.f6 false true false false) := by
  refine returnsInHanded_of_change_sized (C := Try.checked) own started (by kernel_rfl) Try.func6
    (ChangeSpec.witness6 (enc := enc) (C := Try.checked) false ⟨#[], #[.string ⟨#[]⟩, .string ⟨#[]⟩], []⟩ 8 (by kernel_rfl) (by kernel_rfl) (by kernel_rfl) (by kernel_rfl)) ?_
  intro W base args ds gs before hval0 hW _ hsz0 _
  have hsz : (DataW.weightsEach Try.prog (Try.f6.params.toList ++ Rows.syntaxBlanksSpec.plain.varTypes Try.prog) (ds ++ gs)).all (· ≤ reachBytes) = true := hsz0
  clear hsz0
  have hval : ∀ (j : Nat) t v, Try.f6.params[j]? = some t → args[j]? = some v → Value.okWide Try.prog W .any base t v := hval0
  have hW' := hW
  obtain ⟨p, q, hA0, hV, rfl, _, _⟩ := hW
  have hA : DataW.TrodAll enc Try.prog W 0 (fun _ => true) true Try.f6.params.toList args.toList ds p := hA0
  rw [Try.params6] at hA hval hsz
  obtain ⟨v0, vs0, d0, ds0, p0, q0, hargs, rfl, rfl, h0, r0⟩ := trodAll_cons hA
  obtain ⟨v1, vs1, d1, ds1, p1, q1, hargs1, rfl, rfl, h1, r1⟩ := trodAll_cons r0
  obtain ⟨rfl, rfl, rfl⟩ := trodAll_nil r1
  obtain rfl : args = #[v0, v1] := by cases args; simp_all
  obtain ⟨rfl, rfl⟩ := trodVars_none hV
  obtain ⟨s, rfl, rfl, rfl, hs0⟩ := open_string Try.underlying9 (hval 0 9 v0 rfl rfl) h0
  have hz0 : s.size ≤ 140737488355328 := by
    have h1 := sized_string hsz (j := 0) (t := 9) (bytes := s.data.toList) rfl rfl
    have h2 := reachBytes_lt
    rw [len_data] at h1
    omega
  obtain ⟨t, rfl, rfl, rfl, hs1⟩ := open_string Try.underlying9 (hval 1 9 v1 rfl rfl) h1
  have hz1 : t.size ≤ 140737488355328 := by
    have h1 := sized_string hsz (j := 1) (t := 9) (bytes := t.data.toList) rfl rfl
    have h2 := reachBytes_lt
    rw [len_data] at h1
    omega
  clear hA0
  simp only [List.append_nil] at hW'
  refine (syntaxBlanks_calls s t W).mono fun e W' ⟨he, hg⟩ => ?_
  subst he
  exact ⟨_, rfl, _, _, _, [], [], [], hW', trodAll_cons_mk (shut_bool Try.underlying4 _) trodAll_mk0, trodAll_cons_mk (shut_string Try.underlying9 hs0) (trodAll_cons_mk (shut_string Try.underlying9 hs1) trodAll_mk0), rfl, hg.below.frame _, fun h => by cases h⟩
end fnSyntaxBlanks
set_option maxRecDepth 100000 in
theorem syntaxBlanks_proved : Rows.SyntaxBlanksSaid :=
  OpenClaim.holds_of_wide 6 Try.f6 rfl rfl rfl rfl rfl rfl rfl ⟨rfl, rfl, rfl, rfl, rfl⟩ rfl rfl rfl rfl rfl (by kernel_rfl) Try.func6 (by kernel_rfl)
    (of_decide_eq_true (by kernel_rfl)) (by unfold Func.isWrapper; first | (rw [if_pos (by decide +kernel)]; kernel_rfl) | (rw [if_neg (by decide +kernel)]; exact ⟨rfl, rfl⟩))
    (fun os started H enc _ => fnSyntaxBlanks.lifted os started H enc)
#print axioms syntaxBlanks_proved
end Go.Proofs.Ytdfnkmiabmjolaa
