/- rehearsallaw07.WordPlaces: it returns true for every text and every place, and both read behind the call as before. -/
import Derived.Test.YtdfnkmiabmjolaaW20
import Derived.Test.YtdfnkmiabmjolaaModel3
import Derived.Test.YtdfnkmiabmjolaaRows
import Derived.WalkKit
import Derived.ProofKit
import Derived.OpenShut
import Derived.SizedLaws
namespace Go.Proofs.Ytdfnkmiabmjolaa
open Go.RowKit
set_option linter.unusedVariables false
set_option linter.unusedSimpArgs false

set_option maxRecDepth 100000 in
set_option maxHeartbeats 2000000 in
theorem wordPlaces_calls (s : ByteArray) (x : Nat) (w : World) (hx : x < 18446744073709551616) :
    Calls Try.prog 3 #[.string s, .int .u64 x] w fun e w' => e = .returned (.bool true) ∧ Chg (fun _ => False) w w' := by
  by_cases hs : 1000 < s.size
  · have q1 : decide ((1000 : Int) < (s.size : Int)) = true := by simp; omega
    go_enter Try.func3, Try.ntmps3
    go_wp2_with (go_at_call 10; refine (awake_calls _).mono ?_; rintro e w' ⟨rfl, hC⟩)
    go_ret
    exact ⟨rfl, hC⟩
  · have q1 : decide ((1000 : Int) < (s.size : Int)) = false := by simp; omega
    go_enter Try.func3, Try.ntmps3
    go_wp2_with fail
    have hk0 : (x : Int) % ((s.size : Int) + 1) = ((x % (s.size + 1) : Nat) : Int) := by rw [Int.natCast_emod]; rfl
    have hkl := Nat.mod_lt x (show 0 < s.size + 1 by omega)
    have hk : wrap64 ((x : Int) % ((s.size : Int) + 1)) = ((x % (s.size + 1) : Nat) : Int) := by rw [hk0]; generalize x % (s.size + 1) = y at hkl ⊢; unfold wrap64; omega
    simp only [hk]
    clear hk hk0
    revert hkl
    generalize x % (s.size + 1) = k
    intro hkl
    have hT := Lib.extract_to_end s k
    have hTz : (s.extract k s.size).size = s.size - k := by simp [ByteArray.size_extract]
    have hP := scan_ok (s.data.toList.drop k)
    have hE := scan_err (s.data.toList.drop k)
    have hS := Scan_calls s k w (by omega) (by omega)
    have hS2 := fun w1 => Scan_calls (s.extract k s.size) 0 w1 (by omega) (by omega)
    simp only [hT, List.drop_zero] at hS2
    revert hS hS2 hP hE
    generalize scan (s.data.toList.drop k) = R
    intro hP hE hS hS2
    have q2 : (0 : Int) ≤ (k : Int) := by omega
    have q3 : (k : Int) ≤ (s.size : Int) := by omega
    refine Calls.mono hS ?_
    rintro e w1 ⟨hC1, hR1⟩
    cases R with
    | err left c =>
      obtain ⟨rfl, hl⟩ := hR1
      have hc0 := hE left c rfl
      have hS3 := hS2 w1
      clear hS hS2 hP hE hT
      go_wp2_with fail
      revert hTz hS3
      generalize s.extract k s.size = t
      intro hTz hS3
      refine Calls.mono hS3 ?_
      rintro e w2 ⟨hC2, rfl, hl2⟩
      obtain ⟨i, hi⟩ : ∃ i, i = t.size - left := ⟨_, rfl⟩
      have hn : s.size - left = i + k := by omega
      simp only [← hi, hn]
      have r1 : (((i + k : Nat) : Int) != (i : Int) + (k : Int)) = false := by simp
      have r2 : IntKind.i64.wrap ((i : Int) + (k : Int)) = (i : Int) + (k : Int) := IntWalk.i64_in _ (by omega)
      have r3 : decide ((i : Int) + (k : Int) < (k : Int)) = false := by simp; omega
      have r4 : decide ((s.size : Int) < (i : Int) + (k : Int)) = false := by simp; omega
      have r5 : (c != 0) = true := by simpa using hc0
      have hS4 := same_calls w2 (fun _ => True) (fun _ => True) (.slice none 0 0) (.slice none 0 0) [] [] (Own.nil w2 _ _ _).rep (Own.nil w2 _ _ _).rep
      rw [beqs_refl] at hS4
      clear hS3 hi hn hTz hl2
      go_wp2_with fail
      refine Calls.mono hS4 ?_
      rintro e w3 ⟨rfl, m, rfl⟩
      go_wp2_with (go_at_call 10; refine (awake_calls _).mono ?_; rintro e w' ⟨rfl, hC⟩)
      go_ret
      exact ⟨rfl, ((hC1.trans hC2 (fun _ h _ => h)).drewN _).trans hC (fun _ h _ => h)⟩
    | ok l rest =>
      obtain ⟨v1, rfl, ⟨hl, hrs⟩, hO1⟩ := hR1
      have HRS := Lib.hid hrs; clear hrs
      obtain ⟨hst, _⟩ := hP rest l rfl
      have hS3 := hS2 w1
      obtain ⟨A1, c1, rfl, _, _⟩ := Own.form hO1
      clear hS hS2 hP hE hT
      go_wp2_with fail
      revert hTz hS3
      generalize s.extract k s.size = t
      intro hTz hS3
      refine Calls.mono hS3 ?_
      rintro e w2 ⟨hC2, v2, rfl, ⟨hl2, hj2⟩, hO2⟩
      clear hj2
      obtain ⟨A2, c2, rfl, _, _⟩ := Own.form hO2
      obtain ⟨i, hi⟩ : ∃ i, i = t.size - rest.length := ⟨_, rfl⟩
      have hn : s.size - rest.length = i + k := by omega
      simp only [← hi, hn]
      have r1 : (((i + k : Nat) : Int) != (i : Int) + (k : Int)) = false := by simp
      have r2 : IntKind.i64.wrap ((i : Int) + (k : Int)) = (i : Int) + (k : Int) := IntWalk.i64_in _ (by omega)
      have r3 : decide ((i : Int) + (k : Int) < (k : Int)) = false := by simp; omega
      have r4 : decide ((s.size : Int) < (i : Int) + (k : Int)) = false := by simp; omega
      have hS4 := same_calls w2 _ _ _ _ l l (hO1.stay hC2 (fun _ _ e => e)).rep hO2.rep
      rw [beqs_refl] at hS4
      have hn2 : i + k ≤ s.size := by omega
      have hrest : rest.length = s.size - (i + k) := by omega
      by_cases hend : i + k = s.size
      · have r5 : ((i : Int) + (k : Int) == (s.size : Int)) = true := by simp; omega
        clear hS3 hi hn hTz hl2
        go_wp2_with fail
        refine Calls.mono hS4 ?_
        rintro e w3 ⟨rfl, m, rfl⟩
        go_wp2_with (go_at_call 10; refine (awake_calls _).mono ?_; rintro e w' ⟨rfl, hC⟩)
        go_ret
        exact ⟨rfl, ((hC1.trans hC2 (fun _ h _ => h)).drewN _).trans hC (fun _ h _ => h)⟩
      · have r5 : ((i : Int) + (k : Int) == (s.size : Int)) = false := by simp; omega
        have hlt : i + k < s.size := by omega
        have hme : metaB s[i + k] = true := by
          rcases hst with h | ⟨c, r', h, hc⟩
          · rw [h] at hrest; simp at hrest; omega
          · rw [HRS.out, hn, byte_drop s (i + k) hlt] at h
            simp only [List.cons.injEq] at h
            rw [h.1]; exact hc
        have r6 : (0 : Int) ≤ (i : Int) + (k : Int) := by omega
        have r7 : (i : Int) + (k : Int) < (s.size : Int) := by omega
        have r8 : ((i : Int) + (k : Int)).toNat = i + k := by omega
        clear hS3 hi hn hTz hl2 HRS hrest hst
        go_wp2_with fail
        refine Calls.mono hS4 ?_
        rintro e w3 ⟨rfl, m, rfl⟩
        go_wp2_with (first | (go_at_call 10; refine (awake_calls _).mono ?_; rintro e w' ⟨rfl, hC⟩) | (go_at_call 13; refine (meta_calls _ _).mono ?_; rintro e w' ⟨rfl, rfl⟩))
        go_ret
        exact ⟨by simp [hme], ((hC1.trans hC2 (fun _ h _ => h)).drewN _).trans hC (fun _ h _ => h)⟩
namespace fnWordPlaces
open Go.ChangeShapes Go.WideShapes Go.ChangeAt
open Go.ChangeMaps (open_string shut_string)
theorem own : ownKnob Try.prog.godebug = none := by kernel_rfl

set_option maxRecDepth 100000 in
theorem lifted (os : Os) (started : os.Started) (H : Type) (enc : TypeId × Value → H) :
    ReturnsInHanded {} Try.checked os 3 .any (Rows.wordPlacesSpec.pre6 enc Try.prog Try.f3 Rows.wordPlacesRow.domain false) (Rows.wordPlacesSpec.post enc Try.prog Try.f3 false true false false) := by
  refine returnsInHanded_of_change_sized (C := Try.checked) own started (by kernel_rfl) Try.func3
    (ChangeSpec.witness6 (enc := enc) (C := Try.checked) false ⟨#[], #[.string ⟨#[]⟩, .int .u64 0], []⟩ 8 (by kernel_rfl) (by kernel_rfl) (by kernel_rfl) (by kernel_rfl)) ?_
  intro W base args ds gs before hval0 hW _ hsz0 _
  have hsz : (DataW.weightsEach Try.prog (Try.f3.params.toList ++ Rows.wordPlacesSpec.plain.varTypes Try.prog) (ds ++ gs)).all (· ≤ reachBytes) = true := hsz0
  clear hsz0
  have hval : ∀ (j : Nat) t v, Try.f3.params[j]? = some t → args[j]? = some v → Value.okWide Try.prog W .any base t v := hval0
  have hW' := hW
  obtain ⟨p, q, hA0, hV, rfl, _, _⟩ := hW
  have hA : DataW.TrodAll enc Try.prog W 0 (fun _ => true) true Try.f3.params.toList args.toList ds p := hA0
  rw [Try.params3] at hA hval hsz
  obtain ⟨v0, vs0, d0, ds0, p0, q0, hargs, rfl, rfl, h0, r0⟩ := trodAll_cons hA
  obtain ⟨v1, vs1, d1, ds1, p1, q1, hargs1, rfl, rfl, h1, r1⟩ := trodAll_cons r0
  obtain ⟨rfl, rfl, rfl⟩ := trodAll_nil r1
  obtain rfl : args = #[v0, v1] := by cases args; simp_all
  obtain ⟨rfl, rfl⟩ := trodVars_none hV
  obtain ⟨s, rfl, rfl, rfl, hs⟩ := open_string Try.underlying9 (hval 0 9 v0 rfl rfl) h0
  obtain ⟨x, rfl, rfl, rfl, wx⟩ := open_int Try.underlying22 (hval 1 22 v1 rfl rfl) h1
  have hx : 0 ≤ x ∧ x ≤ 18446744073709551615 := by simpa [Lit.wf, IntKind.min, IntKind.max, IntKind.signed, IntKind.bits] using wx
  obtain ⟨n, rfl⟩ : ∃ n : Nat, x = n := ⟨x.toNat, by omega⟩
  clear hA0
  simp only [List.append_nil] at hW'
  refine (wordPlaces_calls s n W (by omega)).mono fun e W' ⟨he, hg⟩ => ?_
  subst he
  exact ⟨_, rfl, _, _, _, [], [], [], hW', trodAll_cons_mk (shut_bool Try.underlying4 _) trodAll_mk0, trodAll_cons_mk (shut_string Try.underlying9 hs) (trodAll_cons_mk (shut_int Try.underlying22 wx) trodAll_mk0), rfl, hg.below.frame _, fun h => by cases h⟩
end fnWordPlaces
set_option maxRecDepth 100000 in
/-- rehearsallaw07.WordPlaces, for every input. -/
theorem wordPlaces_proved : Rows.WordPlacesSaid :=
  OpenClaim.holds_of_wide 3 Try.f3 rfl rfl rfl rfl rfl rfl rfl ⟨rfl, rfl, rfl, rfl, rfl⟩ rfl rfl rfl rfl rfl (by kernel_rfl) Try.func3 (by kernel_rfl)
    (of_decide_eq_true (by kernel_rfl)) (by unfold Func.isWrapper; first | (rw [if_pos (by decide +kernel)]; kernel_rfl) | (rw [if_neg (by decide +kernel)]; exact ⟨rfl, rfl⟩))
    (fun os started H enc _ => fnWordPlaces.lifted os started H enc)
#print axioms wordPlaces_proved
end Go.Proofs.Ytdfnkmiabmjolaa
