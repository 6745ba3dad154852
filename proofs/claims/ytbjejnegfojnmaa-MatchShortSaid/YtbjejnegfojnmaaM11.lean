/- rehearsallaw02.MatchShort: it returns true for every pattern, every text and both ways, and they read behind the call as before. -/
import Derived.Test.YtbjejnegfojnmaaM9
import Derived.Test.YtbjejnegfojnmaaRows
import Derived.WalkKit
import Derived.ProofKit
import Derived.OpenShut
import Derived.SizedLaws
namespace Go.Proofs.Ytbjejnegfojnmaa
open Go.RowKit
set_option linter.unusedVariables false
set_option linter.unusedSimpArgs false

set_option maxRecDepth 100000 in
set_option maxHeartbeats 2000000 in
theorem matchShort_calls (p s : ByteArray) (m : Bool) (w : World) :
    Calls Try.prog 6 #[.string p, .string s, .bool m] w fun e w' => e = .returned (.bool true) ∧ Chg (fun _ => False) w w' := by
  by_cases hs : p.size ≤ 60 ∧ s.size ≤ 100
  · have HS : Hid ((decide (p.size ≤ 60) && decide (s.size ≤ 100)) = true) := Lib.hid (by simp [hs.1, hs.2])
    obtain ⟨h60, h100⟩ := hs
    obtain ⟨n, hn, hcut, hfit, hnone⟩ := cutAll_short p.data.toList s.data.toList m
    rw [len_data] at hn
    have HCUT : Hid (bstr (cutAll p.data.toList s.data.toList false m) = s.extract n s.size) := Lib.hid (by
      rw [hcut, extract_bstr]
      congr 1
      rw [List.take_of_length_le]
      rw [drop_len]; exact Nat.le_refl _)
    have hxz : (s.extract n s.size).size = s.size - n := by simp [ByteArray.size_extract]
    have HXZ : Hid ((s.size : Int) - ((s.extract n s.size).size : Int) = (n : Int)) := Lib.hid (by rw [hxz]; omega)
    clear hcut hxz
    have HF := Lib.hid hfit; clear hfit
    have HN := Lib.hid hnone; clear hnone
    go_enter Try.func6, Try.ntmps6
    go_wp2_with fail
    refine Calls.mono (short_calls _ _ _) ?_
    rintro e w' ⟨rfl, rfl⟩
    rw [HS.out]
    go_wp2_with fail
    refine Calls.mono (Cut_calls p s false m _ (by omega) (by omega)) ?_
    rintro e w1 ⟨rfl, hC1⟩
    rw [HCUT.out]
    have q0 : decide ((n : Int) < 0) = false := by rw [decide_eq_false_iff_not]; omega
    have q1 : (0 : Int) ≤ (n : Int) := by omega
    have q2 : (n : Int) ≤ (s.size : Int) := by omega
    generalize hx : s.extract n s.size = t at *
    have heq : ((s.extract n s.size).toList == t.toList) = true := by rw [hx]; simp
    clear hx
    have hsub := HXZ.out
    go_wp2_with fail
    go_loopg [9] (s.size + 1) (fun rk kv wr => ∃ k : Nat, kv = .int .i64 k ∧ k + rk = s.size + 1 ∧ Chg (fun _ => False) w wr)
    case atStart => exact ⟨0, rfl, by omega, hC1⟩
    case round =>
      obtain ⟨k, rfl, hk, hCw⟩ := hrel
      by_cases hlt : k ≤ s.size
      · have p1 : (k : Int) ≤ (s.size : Int) := by omega
        have p2 : (0 : Int) ≤ (k : Int) := by omega
        have HX : Hid ((s.extract 0 k).data.toList = s.data.toList.take k) := Lib.hid (by simp [Lib.extract_data])
        have hno := HN.out k (by rw [len_data]; exact hlt)
        go_wp2_with fail
        refine Calls.mono (Fits_calls p _ _ (by omega) (by simp only [ByteArray.size_extract]; omega)) ?_
        rintro e w2 ⟨rfl, hC2⟩
        have hC3 := hCw.trans hC2 (fun _ h _ => h)
        rw [HX.out]
        cases hf : matchB p.data.toList (s.data.toList.take k)
        case false =>
          clear hf hno
          go_wp2
          go_roundg (gk - 1)
          case measure => omega
          case rel => exact ⟨k + 1, by go_num, by omega, hC3⟩
        case true =>
          have hno := hno hf
          clear hf
          cases m
          case false =>
            have p3 : decide ((k : Int) < (n : Int)) = false := by simpa using hno
            have p4 : decide (k < n) = false := by simpa using hno
            clear hno
            go_wp2
            go_roundg (gk - 1)
            case measure => omega
            case rel => exact ⟨k + 1, by go_num, by omega, hC3⟩
          case true =>
            have p3 : decide ((n : Int) < (k : Int)) = false := by simpa using hno
            have p4 : decide (n < k) = false := by simpa using hno
            clear hno
            go_wp2
            go_roundg (gk - 1)
            case measure => omega
            case rel => exact ⟨k + 1, by go_num, by omega, hC3⟩
      · have p1 : decide ((k : Int) ≤ (s.size : Int)) = false := by rw [decide_eq_false_iff_not]; omega
        have p1' : decide (k ≤ s.size) = false := by rw [decide_eq_false_iff_not]; omega
        by_cases h0 : n = 0
        · have p2 : ((n : Int) == 0) = true := by simp; omega
          clear hk hlt h0
          go_wp2_with (go_at_call 10; refine (awake_calls _).mono ?_; rintro e w' ⟨rfl, hCa⟩)
          go_ret
          exact ⟨rfl, hCw.trans hCa (fun _ h _ => h)⟩
        · have p2 : ((n : Int) == 0) = false := by simp; omega
          have HX : Hid ((s.extract 0 n).data.toList = s.data.toList.take n) := Lib.hid (by simp [Lib.extract_data])
          have HY : Hid (matchB p.data.toList (s.data.toList.take n) = true) := Lib.hid (HF.out.resolve_left h0)
          clear hk hlt h0
          go_wp2_with fail
          refine Calls.mono (Fits_calls p _ _ (by omega) (by simp only [ByteArray.size_extract]; omega)) ?_
          rintro e w2 ⟨rfl, hC2⟩
          rw [HX.out, HY.out]
          go_wp2_with (go_at_call 10; refine (awake_calls _).mono ?_; rintro e w' ⟨rfl, hCa⟩)
          go_ret
          exact ⟨rfl, (hCw.trans hC2 (fun _ h _ => h)).trans hCa (fun _ h _ => h)⟩
  · have HS : Hid ((decide (p.size ≤ 60) && decide (s.size ≤ 100)) = false) := Lib.hid (by simpa using hs)
    go_enter Try.func6, Try.ntmps6
    go_wp2_with fail
    refine Calls.mono (short_calls _ _ _) ?_
    rintro e w' ⟨rfl, rfl⟩
    rw [HS.out]
    go_wp2_with (go_at_call 10; refine (awake_calls _).mono ?_; rintro e w' ⟨rfl, hCa⟩)
    go_ret
    exact ⟨rfl, hCa⟩

namespace fnMatchShort
open Go.ChangeShapes Go.WideShapes Go.ChangeAt
open Go.ChangeMaps (open_string shut_string)
theorem own : ownKnob Try.prog.godebug = none := by kernel_rfl

set_option maxRecDepth 100000 in
theorem lifted (os : Os) (started : os.Started) (H : Type) (enc : TypeId × Value → H) :
    ReturnsInHanded {} Try.checked os 6 .any (Rows.matchShortSpec.pre6 enc Try.prog Try.f6 Rows.matchShortRow.domain false) (Rows.matchShortSpec.post enc Try.prog Try.f6 false true false false) := by
  refine returnsInHanded_of_change_sized (C := Try.checked) own started (by kernel_rfl) Try.func6
    (ChangeSpec.witness6 (enc := enc) (C := Try.checked) false ⟨#[], #[.string ⟨#[]⟩, .string ⟨#[]⟩, .bool false], []⟩ 8 (by kernel_rfl) (by kernel_rfl) (by kernel_rfl) (by kernel_rfl)) ?_
  intro W base args ds gs before hval0 hW _ hsz0 _
  have hsz : (DataW.weightsEach Try.prog (Try.f6.params.toList ++ Rows.matchShortSpec.plain.varTypes Try.prog) (ds ++ gs)).all (· ≤ reachBytes) = true := hsz0
  clear hsz0
  have hval : ∀ (j : Nat) t v, Try.f6.params[j]? = some t → args[j]? = some v → Value.okWide Try.prog W .any base t v := hval0
  have hW' := hW
  obtain ⟨p, q, hA0, hV, rfl, _, _⟩ := hW
  have hA : DataW.TrodAll enc Try.prog W 0 (fun _ => true) true Try.f6.params.toList args.toList ds p := hA0
  rw [Try.params6] at hA hval hsz
  obtain ⟨v0, vs0, d0, ds0, p0, q0, hargs, rfl, rfl, h0, r0⟩ := trodAll_cons hA
  obtain ⟨v1, vs1, d1, ds1, p1, q1, hargs1, rfl, rfl, h1, r1⟩ := trodAll_cons r0
  obtain ⟨v2, vs2, d2, ds2, p2, q2, hargs2, rfl, rfl, h2, r2⟩ := trodAll_cons r1
  obtain ⟨rfl, rfl, rfl⟩ := trodAll_nil r2
  obtain rfl : args = #[v0, v1, v2] := by cases args; simp_all
  obtain ⟨rfl, rfl⟩ := trodVars_none hV
  obtain ⟨p, rfl, rfl, rfl, hs0⟩ := open_string Try.underlying9 (hval 0 9 v0 rfl rfl) h0
  have hz0 : p.size ≤ 140737488355328 := by
    have h1 := sized_string hsz (j := 0) (t := 9) (bytes := p.data.toList) rfl rfl
    have h2 := reachBytes_lt
    rw [len_data] at h1
    omega
  obtain ⟨s, rfl, rfl, rfl, hs1⟩ := open_string Try.underlying9 (hval 1 9 v1 rfl rfl) h1
  have hz1 : s.size ≤ 140737488355328 := by
    have h1 := sized_string hsz (j := 1) (t := 9) (bytes := s.data.toList) rfl rfl
    have h2 := reachBytes_lt
    rw [len_data] at h1
    omega
  obtain ⟨m, rfl, rfl, rfl⟩ := open_bool Try.underlying4 (hval 2 4 v2 rfl rfl) h2
  clear hA0
  simp only [List.append_nil] at hW'
  refine (matchShort_calls p s m W).mono fun e W' ⟨he, hg⟩ => ?_
  subst he
  exact ⟨_, rfl, _, _, _, [], [], [], hW', trodAll_cons_mk (shut_bool Try.underlying4 _) trodAll_mk0, trodAll_cons_mk (shut_string Try.underlying9 hs0) (trodAll_cons_mk (shut_string Try.underlying9 hs1) (trodAll_cons_mk (shut_bool Try.underlying4 _) trodAll_mk0)), rfl, hg.below.frame _, fun h => by cases h⟩
end fnMatchShort
set_option maxRecDepth 100000 in
theorem matchShort_proved : Rows.MatchShortSaid :=
  OpenClaim.holds_of_wide 6 Try.f6 rfl rfl rfl rfl rfl rfl rfl ⟨rfl, rfl, rfl, rfl, rfl⟩ rfl rfl rfl rfl rfl (by kernel_rfl) Try.func6 (by kernel_rfl)
    (of_decide_eq_true (by kernel_rfl)) (by unfold Func.isWrapper; first | (rw [if_pos (by decide +kernel)]; kernel_rfl) | (rw [if_neg (by decide +kernel)]; exact ⟨rfl, rfl⟩))
    (fun os started H enc _ => fnMatchShort.lifted os started H enc)
#print axioms matchShort_proved
end Go.Proofs.Ytbjejnegfojnmaa
