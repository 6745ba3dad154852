/- rehearsallaw09.PrintOnce, where what it reads is of bulk at most 1048576: it returns true for all scripts, and they read behind the call as before. Conditions: the form's own; the listed variables are tied to the program's text. -/
import Derived.Test.YtdfnkmiabmjolaaGreatDoorJ18
import Derived.Deep.DeepHandedRow
set_option linter.unusedVariables false
set_option linter.unusedSimpArgs false
namespace Go.Proofs.YtdfnkmiabmjolaaGreatDoor
open Go.RowKit Go.ChangeShapes Go.WideShapes Go.ChangeAt
theorem witness_row_shaped {H : Type} {enc : TypeId × Value → H} {C : Checked} {os : Os} {f : FuncId} {fn : Func} {s : OpenSpec} {conds : List PathCond} {apart : Bool} {laid : List (String × DataW Unit)} (w0 : World) (args : Array Value) (hos : w0.os = os)
  (hsh : (w0.forCall (fun _ _ => 0) ⟨#[], args, []⟩).Shaped C.prog)
  (hok : Input.okWideB C.prog (w0.forCall (fun _ _ => 0) ⟨#[], args, []⟩) f ⟨#[], args, []⟩ = true)
  (hrow : s.preRow enc C.prog fn conds apart laid (w0.forCall (fun _ _ => 0) ⟨#[], args, []⟩).memory args) :
  ∃ (w : World) (tape : Tape) (i : Input), w.os = os ∧ (w.forCall tape i).Shaped C.prog ∧ i.vars = [] ∧ Input.okWide C.prog (w.forCall tape i) .any w.heap.size f i ∧
   s.preRow enc C.prog fn conds apart laid (w.forCall tape i).memory i.args ∧ ({} : Assume).holds C.prog (lone (Frame.enter C.prog f i.args .normal) [] (w.forCall tape i)) :=
 ⟨w0, fun _ _ => 0, ⟨#[], args, []⟩, hos, hsh, (Input.okWide_of_okWideB (base := 0) hok).1, (Input.okWide_of_okWideB hok).2, hrow, by
  simp only [Assume.holds]
  exact ⟨by simp, by simp, by simp, by simp, by simp⟩⟩
abbrev kindsL : List TypeId := [3, 4, 9, 103, 70, 45, 72, 44, 75, 47, 77, 46, 49, 40, 42, 36, 39, 22, 37]
theorem goodL : goodB Tryz.prog kindsL = true := by kernel_rfl
theorem great_bulk {D0 : D} {ls : List Lst} (h : D0 = .sl 39 2 (Lst.ds ls)) {n : Nat} (hb : D0.bulk ≤ n) : greatLs ls ≤ n := by
 have := ls_bulk ls
 subst h
 simp only [D.bulk] at hb
 omega
namespace fnPrintOnceUpto
abbrev laid2 : List (String × DataW Unit) := [("unicode/utf8.acceptRanges", Rows.laid_unicode_utf8_acceptRanges), ("unicode/utf8.first", Rows.laid_unicode_utf8_first)]
theorem reads (os : Os) {H : Type} (enc : TypeId × Value → H) : ∃ places, DataW.whole enc Tryz.prog ((World.laidAll Tryz.prog os laid2).forCall (fun _ _ => 0) ⟨#[], #[.slice none 0 0], []⟩).memory Tryz.f3.params.toList Rows.printOnceSpec.vars false #[Value.slice none 0 0].toList 8 = some ([.nil], [], places) :=
 ⟨[], by kernel_rfl⟩
set_option maxRecDepth 100000 in
theorem lifted (os : Os) (started : os.Started) (H : Type) (enc : TypeId × Value → H) (F : Stop.Interp) :
  ReturnsInHanded {} Tryz.checked os 3 .any ((Rows.OpenSpec.upto Rows.printOnceSpec).preRow enc Tryz.prog Tryz.f3 Rows.printOnceUptoRow.domain false Rows.printOnceUptoRow.laid)
   (((Rows.OpenSpec.upto Rows.printOnceSpec).at F).post enc Tryz.prog Tryz.f3 false true false false) := by
 obtain ⟨places, hx⟩ := reads os enc
 refine returnsInHanded_of_row (C := Tryz.checked) (s := Rows.OpenSpec.upto Rows.printOnceSpec) ownTryz started (by kernel_rfl) Tryz.func3
  (witness_row_shaped (enc := enc) (C := Tryz.checked) (World.laidAll Tryz.prog os laid2) #[.slice none 0 0] (World.laidAll_os _ _ _) (World.shaped_of_ZipB (by kernel_rfl) (by kernel_rfl)) (by kernel_rfl)
   (OpenSpec.preRow_of_cond 8 hx (by kernel_rfl) (fun k hk => by cases hk; kernel_rfl) (by kernel_rfl)
    (by show laidMetH Tryz.prog laid2 _; rw [MakeChecks.laidMetH_plain _ _ _ (by kernel_rfl)]; exact laidMet_laidAll _ (by kernel_rfl) (by kernel_rfl)))) ?_
 intro W base args ds gs before hval0 hW _ hcond hsz0 _ hsh _
 have hsz : (DataW.weightsEach Tryz.prog (Tryz.f3.params.toList ++ Rows.printOnceSpec.plain.varTypes Tryz.prog) (ds ++ gs)).all (· ≤ reachBytes) = true := hsz0
 clear hsz0
 have hval : ∀ (j : Nat) t v, Tryz.f3.params[j]? = some t → args[j]? = some v → Value.okWide Tryz.prog W .any base t v := hval0
 have hbulk : Rows.uptoBulkAll (ds ++ gs) ≤ 1048576 := of_decide_eq_true (hcond _ rfl)
 have hW' := hW
 obtain ⟨p, q, hA0, hV, rfl, _, _⟩ := hW
 have hA : DataW.TrodAll enc Tryz.prog W 0 (fun _ => true) true Tryz.f3.params.toList args.toList ds p := hA0
 rw [Tryz.params3] at hA hval hsz
 obtain ⟨v0, vs0, d0, ds0, p0, q0, hargs, rfl, rfl, h0, r0⟩ := trodAll_cons hA
 obtain ⟨rfl, rfl, rfl⟩ := trodAll_nil r0
 obtain rfl : args = #[v0] := by cases args; simp_all
 obtain ⟨rfl, rfl⟩ := trodVars_none hV
 obtain ⟨a0, l0, k0, rfl⟩ := okWide_slice Tryz.underlying22 (hval 0 22 v0 rfl rfl)
 have w0 := weighs hsz (j := 0) (t := 22) (d := d0) rfl rfl
 obtain ⟨fu0, hf0⟩ := h0
 obtain ⟨D0, hr0, hD0, hB0⟩ := open_trodB goodL fu0 _ _ (d0, p0) (by simp) hf0 w0
 obtain ⟨ps, hps, hp, hfp⟩ := fit_lists hD0
 have hg : greatLs ps ≤ 1000000000 := by
  have h1 : greatLs ps ≤ Rows.uptoBulk d0 := great_bulk hps hB0
  simp only [List.append_nil, Rows.uptoBulkAll] at hbulk
  omega
 subst hps
 have h0 : DataW.Trod enc Tryz.prog W 0 (fun _ => true) true 22 _ d0 p0 := ⟨fu0, hf0⟩
 clear hA0
 simp only [List.append_nil] at hW'
 simp only [Value.cells] at hr0
 refine (printOnce_calls W _ _ ps hp hfp hg (hm_of hsh) hr0).mono fun e W' ⟨he, hg⟩ => ?_
 subst he
 have hlt := DataW.TrodAll.lt hA
 have h0' : DataW.Trod enc Tryz.prog W' 0 (fun b => decide (b < W.heap.size)) true 22 (.slice a0 l0 k0) d0 p0 := Go.WideElems.Trod_stays (by kernel_rfl) (by kernel_rfl) (of_decide_eq_true (by kernel_rfl)) h0 (fun p hp => hg.below.same (hlt p (by simp [hp]))) (fun p hp => by have := hlt p (by simp [hp]); simpa using this)
 have hall := trodAll_cons_mk h0' trodAll_mk0
 exact ⟨_, rfl, _, _, _, [], _, [], hW', trodAll_cons_mk (shut_bool Tryz.underlying4 _) trodAll_mk0, hall, rfl, hg.below.frame _, fun h => by cases h⟩
theorem plain (f : FuncId) (fn : Func) (hf : Tryz.pinned.checked.prog.funcNamed "rehearsal/rehearsallaw09.PrintOnce" = some f) (hfn : Tryz.pinned.checked.prog.funcs[f]? = some fn) :
  true = Tryz.pinned.checked.prog.looks [] ∧ ∀ (j : Nat) t, fn.params[j]? = some t → Tryz.pinned.checked.prog.wantsStandIn t = false := by
 obtain rfl : f = 3 := Option.some.inj ((show Tryz.prog.funcNamed "rehearsal/rehearsallaw09.PrintOnce" = some 3 by kernel_rfl).symm.trans hf) |>.symm
 obtain rfl : fn = Tryz.f3 := (Option.some.inj (Tryz.func3.symm.trans hfn)).symm
 refine ⟨by kernel_rfl, fun j t ht => ?_⟩
 rw [Tryz.params3] at ht
 have hm : t ∈ [22] := by simpa using Array.mem_of_getElem? ht
 obtain rfl : t = 22 := by simpa using hm
 exact (show Tryz.prog.wantsStandIn 22 = false by kernel_rfl)
end fnPrintOnceUpto
set_option maxRecDepth 100000 in
theorem printOnceUpto_said : Rows.PrintOnceUptoSaid :=
 OpenClaim.holds_of_cond 3 Tryz.f3 rfl rfl rfl rfl rfl rfl rfl ⟨rfl, rfl, rfl, rfl, rfl⟩ rfl rfl rfl rfl rfl (by kernel_rfl) Tryz.func3 (by kernel_rfl)
  (of_decide_eq_true (by kernel_rfl)) (by unfold Func.isWrapper; first | (rw [if_pos (by decide +kernel)]; kernel_rfl) | (rw [if_neg (by decide +kernel)]; exact ⟨rfl, rfl⟩))
  (fun os started H enc _ F => by rw [OpenClaim.pre_eq_preRow]; exact fnPrintOnceUpto.lifted os started H enc F)
theorem printOnceUpto_proved : Rows.PrintOnceUptoCardSaid :=
 Claim7.holds_tied_plain_at .later [] _ _ _ _ printOnceUpto_said (fun _ h => by cases h) (by kernel_rfl) (fun _ h => by cases h) printOnceUpto_row_tie rfl ⟨rfl, rfl⟩ (by kernel_rfl) rfl fnPrintOnceUpto.plain (by kernel_rfl)
#print axioms printOnceUpto_proved
end Go.Proofs.YtdfnkmiabmjolaaGreatDoor
