/- rehearsallaw09.PrintSames: it returns true for all pairs of scripts, and both read behind the call as before. Conditions: none beyond the form's own; the listed variables are tied to the program's text. And what stands with it. -/
import Derived.Test.YtdfnkmiabmjolaaGreatDoorJ15
set_option linter.unusedVariables false
set_option linter.unusedSimpArgs false
namespace Go.Proofs.YtdfnkmiabmjolaaGreatDoor
open Go.RowKit Go.ChangeShapes Go.WideShapes Go.ChangeAt
namespace fnPrintSames
abbrev laid2 : List (String × DataW Unit) := [("unicode/utf8.acceptRanges", Rows.laid_unicode_utf8_acceptRanges), ("unicode/utf8.first", Rows.laid_unicode_utf8_first)]
abbrev kinds : List TypeId := [3, 4, 9, 103, 70, 45, 72, 44, 75, 47, 77, 46, 49, 40, 42, 36, 39, 22, 37]
theorem good : goodB Tryz.prog kinds = true := by kernel_rfl
set_option maxRecDepth 100000 in
theorem lifted (os : Os) (started : os.Started) (H : Type) (enc : TypeId × Value → H) :
  ReturnsInHanded {} Tryz.checked os 6 .any (fun w args => (Rows.printSamesSpec.pre enc Tryz.prog Tryz.f6 [] false w args ∧ laidMetH Tryz.prog laid2 w) ∧ sizedMet enc Tryz.prog Tryz.f6 (OpenSpec.ofChange Rows.printSamesSpec) false w args)
   (Rows.printSamesSpec.post enc Tryz.prog Tryz.f6 false true false false) := by
 refine returns_listed (C := Tryz.checked) ownTryz started (by kernel_rfl) Tryz.func6
  (ChangeSpec.witness_shaped (enc := enc) (C := Tryz.checked) (os := os) (X := fun w _ => laidMetH Tryz.prog laid2 w) false (World.laidAll Tryz.prog os laid2) #[.slice none 0 0, .slice none 0 0] 8 (World.laidAll_os _ _ _) (World.shaped_of_ZipB (by kernel_rfl) (by kernel_rfl)) (by kernel_rfl) (by kernel_rfl) (by kernel_rfl)
   (by rw [MakeChecks.laidMetH_plain _ _ _ (by kernel_rfl)]; exact laidMet_laidAll _ (by kernel_rfl) (by kernel_rfl))) ?_
 intro W base args ds gs before hval0 hW hsz0 hsh
 have hsz : (DataW.weightsEach Tryz.prog (Tryz.f6.params.toList ++ Rows.printSamesSpec.plain.varTypes Tryz.prog) (ds ++ gs)).all (· ≤ reachBytes) = true := hsz0
 clear hsz0
 have hval : ∀ (j : Nat) t v, Tryz.f6.params[j]? = some t → args[j]? = some v → Value.okWide Tryz.prog W .any base t v := hval0
 have hW' := hW
 obtain ⟨p, q, hA0, hV, rfl, _, _⟩ := hW
 have hA : DataW.TrodAll enc Tryz.prog W 0 (fun _ => true) true Tryz.f6.params.toList args.toList ds p := hA0
 rw [Tryz.params6] at hA hval hsz
 obtain ⟨v0, vs0, d0, ds0, p0, q0, hargs, rfl, rfl, h0, r0⟩ := trodAll_cons hA
 obtain ⟨v1, vs1, d1, ds1, p1, q1, hargs1, rfl, rfl, h1, r1⟩ := trodAll_cons r0
 obtain ⟨rfl, rfl, rfl⟩ := trodAll_nil r1
 obtain rfl : args = #[v0, v1] := by cases args; simp_all
 obtain ⟨rfl, rfl⟩ := trodVars_none hV
 obtain ⟨a0, l0, k0, rfl⟩ := okWide_slice Tryz.underlying22 (hval 0 22 v0 rfl rfl)
 obtain ⟨a1, l1, k1, rfl⟩ := okWide_slice Tryz.underlying22 (hval 1 22 v1 rfl rfl)
 have w0 := weighs hsz (j := 0) (t := 22) (d := d0) rfl rfl
 have w1 := weighs hsz (j := 1) (t := 22) (d := d1) rfl rfl
 obtain ⟨fu0, hf0⟩ := h0
 obtain ⟨fu1, hf1⟩ := h1
 obtain ⟨D0, hr0, hD0⟩ := open_trod good fu0 _ _ (d0, p0) (by simp) hf0 w0
 obtain ⟨D1, hr1, hD1⟩ := open_trod good fu1 _ _ (d1, p1) (by simp) hf1 w1
 obtain ⟨ps, rfl, hp, _⟩ := fit_lists hD0
 obtain ⟨qs, rfl, hq, _⟩ := fit_lists hD1
 have h0 : DataW.Trod enc Tryz.prog W 0 (fun _ => true) true 22 _ d0 p0 := ⟨fu0, hf0⟩
 have h1 : DataW.Trod enc Tryz.prog W 0 (fun _ => true) true 22 _ d1 p1 := ⟨fu1, hf1⟩
 clear hA0
 simp only [List.append_nil] at hW'
 simp only [Value.cells] at hr0 hr1
 refine (printSames_calls W _ _ _ _ ps qs hp hq (hm_of hsh) hr0 hr1).mono fun e W' ⟨he, hg⟩ => ?_
 subst he
 have hlt := DataW.TrodAll.lt hA
 have h0' : DataW.Trod enc Tryz.prog W' 0 (fun b => decide (b < W.heap.size)) true 22 (.slice a0 l0 k0) d0 p0 := Go.WideElems.Trod_stays (by kernel_rfl) (by kernel_rfl) (of_decide_eq_true (by kernel_rfl)) h0 (fun p hp => hg.below.same (hlt p (by simp [hp]))) (fun p hp => by have := hlt p (by simp [hp]); simpa using this)
 have h1' : DataW.Trod enc Tryz.prog W' 0 (fun b => decide (b < W.heap.size)) true 22 (.slice a1 l1 k1) d1 p1 := Go.WideElems.Trod_stays (by kernel_rfl) (by kernel_rfl) (of_decide_eq_true (by kernel_rfl)) h1 (fun p hp => hg.below.same (hlt p (by simp [hp]))) (fun p hp => by have := hlt p (by simp [hp]); simpa using this)
 have hall := trodAll_cons_mk h0' (trodAll_cons_mk h1' trodAll_mk0)
 exact ⟨_, rfl, _, _, _, [], _, [], hW', trodAll_cons_mk (shut_bool Tryz.underlying4 _) trodAll_mk0, hall, rfl, hg.below.frame _, fun h => by cases h⟩
end fnPrintSames
set_option maxRecDepth 100000 in
theorem printSames_said : Rows.PrintSamesSaid :=
 OpenClaim.holds_of_wide 6 Tryz.f6 rfl rfl rfl rfl rfl rfl rfl ⟨rfl, rfl, rfl, rfl, rfl⟩ rfl rfl rfl rfl rfl (by kernel_rfl) Tryz.func6 (by kernel_rfl)
  (of_decide_eq_true (by kernel_rfl)) (by unfold Func.isWrapper; first | (rw [if_pos (by decide +kernel)]; kernel_rfl) | (rw [if_neg (by decide +kernel)]; exact ⟨rfl, rfl⟩))
  (fun os started H enc _ => fnPrintSames.lifted os started H enc)
theorem printSames_proved : Rows.PrintSamesCardSaid :=
 Claim7.holds_tied_plain_at .later [] [.data, .pinned] true (true, "09d75ad68bd36bc2b7077eaa95d278105de78a1b6702a5d414312c42a87f2866") true
  printSames_said (fun _ h => by cases h) (by kernel_rfl) (fun _ h => by cases h) printSames_row_tie rfl ⟨rfl, rfl⟩ (by kernel_rfl) rfl
  (fun f fn hf hfn => by
   obtain rfl : f = 6 := Option.some.inj ((show Tryz.prog.funcNamed "rehearsal/rehearsallaw09.PrintSames" = some 6 by kernel_rfl).symm.trans hf) |>.symm
   obtain rfl : fn = Tryz.f6 := (Option.some.inj (Tryz.func6.symm.trans hfn)).symm
   exact ⟨by kernel_rfl, fun j t ht => by
    rw [Tryz.params6] at ht
    have hm : t ∈ [22, 22] := by simpa using Array.mem_of_getElem? ht
    have hall : ([22, 22].all fun u => !Tryz.prog.wantsStandIn u) = true := by kernel_rfl
    exact (show Tryz.prog.wantsStandIn t = false by simpa using List.all_eq_true.1 hall t hm)⟩)
  (by kernel_rfl)
end Go.Proofs.YtdfnkmiabmjolaaGreatDoor
