/- rehearsallaw02.MatchCuts: it returns true for every pattern, every text and all ways, and they read behind the call as before. -/
import Derived.Test.YtbjejnegfojnmaaM17
import Derived.Test.YtbjejnegfojnmaaRows
import Derived.WalkKit
import Derived.ProofKit
import Derived.OpenShut
import Derived.SizedLaws
namespace Go.Proofs.Ytbjejnegfojnmaa
open Go.RowKit
set_option linter.unusedVariables false
set_option linter.unusedSimpArgs false

set_option maxRecDepth 100000 in
set_option maxHeartbeats 2000000 in
theorem matchCuts_calls (p s : ByteArray) (e0 m : Bool) (w : World) :
    Calls Try.prog 4 #[.string p, .string s, .bool e0, .bool m] w fun e w' => e = .returned (.bool true) ∧ Chg (fun _ => False) w w' := by
  by_cases hs : p.size ≤ 60 ∧ s.size ≤ 100
  · have HS : Hid ((decide (p.size ≤ 60) && decide (s.size ≤ 100)) = true) := Lib.hid (by simp [hs.1, hs.2])
    obtain ⟨h60, h100⟩ := hs
    go_enter Try.func4, Try.ntmps4
    go_wp2_with fail
    refine Calls.mono (short_calls _ _ _) ?_
    rintro e w' ⟨rfl, rfl⟩
    rw [HS.out]
    go_wp2_with fail
    refine Calls.mono (Cut_calls p s e0 m _ (by omega) (by omega)) ?_
    rintro e w1 ⟨rfl, hC1⟩
    go_wp2_with fail
    refine Calls.mono (RCut_calls p s e0 m _ (by omega) (by omega)) ?_
    rintro e w2 ⟨rfl, hC2⟩
    go_wp2_with (go_at_call 10; refine (awake_calls _).mono ?_; rintro e w' ⟨rfl, hCa⟩)
    go_ret
    exact ⟨rfl, (hC1.trans hC2 (fun _ h _ => h)).trans hCa (fun _ h _ => h)⟩
  · have HS : Hid ((decide (p.size ≤ 60) && decide (s.size ≤ 100)) = false) := Lib.hid (by simpa using hs)
    go_enter Try.func4, Try.ntmps4
    go_wp2_with fail
    refine Calls.mono (short_calls _ _ _) ?_
    rintro e w' ⟨rfl, rfl⟩
    rw [HS.out]
    go_wp2_with (go_at_call 10; refine (awake_calls _).mono ?_; rintro e w' ⟨rfl, hCa⟩)
    go_ret
    exact ⟨rfl, hCa⟩

namespace fnMatchCuts
open Go.ChangeShapes Go.WideShapes Go.ChangeAt
open Go.ChangeMaps (open_string shut_string)
theorem own : ownKnob Try.prog.godebug = none := by kernel_rfl

set_option maxRecDepth 100000 in
theorem lifted (os : Os) (started : os.Started) (H : Type) (enc : TypeId × Value → H) :
    ReturnsInHanded {} Try.checked os 4 .any (Rows.matchCutsSpec.pre6 enc Try.prog Try.f4 Rows.matchCutsRow.domain false) (Rows.matchCutsSpec.post enc Try.prog Try.f4 false true false false) := by
  refine returnsInHanded_of_change_sized (C := Try.checked) own started (by kernel_rfl) Try.func4
    (ChangeSpec.witness6 (enc := enc) (C := Try.checked) false ⟨#[], #[.string ⟨#[]⟩, .string ⟨#[]⟩, .bool false, .bool false], []⟩ 8 (by kernel_rfl) (by kernel_rfl) (by kernel_rfl) (by kernel_rfl)) ?_
  intro W base args ds gs before hval0 hW _ hsz0 _
  have hsz : (DataW.weightsEach Try.prog (Try.f4.params.toList ++ Rows.matchCutsSpec.plain.varTypes Try.prog) (ds ++ gs)).all (· ≤ reachBytes) = true := hsz0
  clear hsz0
  have hval : ∀ (j : Nat) t v, Try.f4.params[j]? = some t → args[j]? = some v → Value.okWide Try.prog W .any base t v := hval0
  have hW' := hW
  obtain ⟨p, q, hA0, hV, rfl, _, _⟩ := hW
  have hA : DataW.TrodAll enc Try.prog W 0 (fun _ => true) true Try.f4.params.toList args.toList ds p := hA0
  rw [Try.params4] at hA hval hsz
  obtain ⟨v0, vs0, d0, ds0, p0, q0, hargs, rfl, rfl, h0, r0⟩ := trodAll_cons hA
  obtain ⟨v1, vs1, d1, ds1, p1, q1, hargs1, rfl, rfl, h1, r1⟩ := trodAll_cons r0
  obtain ⟨v2, vs2, d2, ds2, p2, q2, hargs2, rfl, rfl, h2, r2⟩ := trodAll_cons r1
  obtain ⟨v3, vs3, d3, ds3, p3, q3, hargs3, rfl, rfl, h3, r3⟩ := trodAll_cons r2
  obtain ⟨rfl, rfl, rfl⟩ := trodAll_nil r3
  obtain rfl : args = #[v0, v1, v2, v3] := by cases args; simp_all
  obtain ⟨rfl, rfl⟩ := trodVars_none hV
  obtain ⟨p, rfl, rfl, rfl, hs0⟩ := open_string Try.underlying9 (hval 0 9 v0 rfl rfl) h0
  have hz0 : p.size ≤ 140737488355328 := by
    have h1 := sized_string hsz (j := 0) (t := 9) (bytes := p.data.toList) rfl rfl
    have h2 := reachBytes_lt
    rw [len_data] at h1
    omega
  obtain ⟨s, rfl, rfl, rfl, hs1⟩ := open_string Try.underlying9 (hval 1 9 v1 rfl rfl) h1
  have hz1 : s.size ≤ 140737488355328 := by
    have h1 := sized_string hsz (j := 1) (t := 9) (bytes := s.data.toList) rfl rfl
    have h2 := reachBytes_lt
    rw [len_data] at h1
    omega
  obtain ⟨e0, rfl, rfl, rfl⟩ := open_bool Try.underlying4 (hval 2 4 v2 rfl rfl) h2
  obtain ⟨m, rfl, rfl, rfl⟩ := open_bool Try.underlying4 (hval 3 4 v3 rfl rfl) h3
  clear hA0
  simp only [List.append_nil] at hW'
  refine (matchCuts_calls p s e0 m W).mono fun e W' ⟨he, hg⟩ => ?_
  subst he
  exact ⟨_, rfl, _, _, _, [], [], [], hW', trodAll_cons_mk (shut_bool Try.underlying4 _) trodAll_mk0, trodAll_cons_mk (shut_string Try.underlying9 hs0) (trodAll_cons_mk (shut_string Try.underlying9 hs1) (trodAll_cons_mk (shut_bool Try.underlying4 _) (trodAll_cons_mk (shut_bool Try.underlying4 _) trodAll_mk0))), rfl, hg.below.frame _, fun h => by cases h⟩
end fnMatchCuts
set_option maxRecDepth 100000 in
theorem matchCuts_proved : Rows.MatchCutsSaid :=
  OpenClaim.holds_of_wide 4 Try.f4 rfl rfl rfl rfl rfl rfl rfl ⟨rfl, rfl, rfl, rfl, rfl⟩ rfl rfl rfl rfl rfl (by kernel_rfl) Try.func4 (by kernel_rfl)
    (of_decide_eq_true (by kernel_rfl)) (by unfold Func.isWrapper; first | (rw [if_pos (by decide +kernel)]; kernel_rfl) | (rw [if_neg (by decide +kernel)]; exact ⟨rfl, rfl⟩))
    (fun os started H enc _ => fnMatchCuts.lifted os started H enc)
#print axioms matchCuts_proved
end Go.Proofs.Ytbjejnegfojnmaa
