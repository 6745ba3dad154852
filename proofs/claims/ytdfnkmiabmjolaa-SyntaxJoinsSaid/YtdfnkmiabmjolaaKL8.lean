/- rehearsallaw08.SyntaxJoins: it returns true for every two texts, and both read behind the call as before. -/
import Derived.Test.YtdfnkmiabmjolaaK14
import Derived.Deep.DeepFit
import Derived.Test.YtdfnkmiabmjolaaRows
import Derived.ProofKit
import Derived.OpenShut
import Derived.SizedLaws
namespace Go.Proofs.Ytdfnkmiabmjolaa
open Go.RowKit
set_option linter.unusedVariables false
set_option linter.unusedSimpArgs false

theorem listsF_len {list : Bytes → Rs Lst} : ∀ (n : Nat) (first : Bool) (ls v : List Lst) (r r' : Bytes), listsF list n first ls r = .ok v r' → v.length ≤ ls.length + n
  | 0, _, _, _, _, _, h => by rw [listsF] at h; simp at h
  | n + 1, first, ls, v, r, r', h => by
    rw [listsF] at h
    split at h
    · obtain ⟨a, r1, h2, h3⟩ := bind_ok.1 h
      have IH := fun r => listsF_len (list := list) n false (ls ++ [a]) v r r'
      simp only [List.length_append, List.length_cons, List.length_nil] at IH
      split at h3
      · have := IH _ h3; omega
      · split at h3
        · have := IH _ h3; omega
        · split at h3
          · have := IH _ h3; omega
          · exact absurd h3 (not_fail _ _ _ _)
    · obtain ⟨rfl, rfl⟩ := ok_inj h
      omega
theorem parse_len {n : Nat} {s r : Bytes} {l : List Lst} (h : parseF n 0 s = .ok l r) : l.length ≤ s.length + 1 := by
  obtain ⟨m, _, _, h1⟩ := parse_ok h
  rcases h1 with ⟨_, rfl⟩ | ⟨_, h1⟩
  · simp
  · obtain ⟨_, _, _, h2, _⟩ := lists_ok h1
    have h3 := listsF_len _ _ _ _ _ _ h2
    have h4 := lines_le s
    simp only [List.length_nil] at h3
    omega
theorem joins_text (s t : ByteArray) : (s ++ (⟨#[10]⟩ : ByteArray)) ++ t = bstr (s.data.toList ++ 10 :: t.data.toList) := by
  have h1 : (⟨#[10]⟩ : ByteArray) = bstr [10] := rfl
  have h4 := (bstr_of s).symm
  have h5 := (bstr_of t).symm
  rw [h1, h4, h5]
  simp only [bstr_append, bstr_toList, List.append_assoc, List.cons_append, List.nil_append]

set_option maxRecDepth 100000 in
set_option maxHeartbeats 4000000 in
theorem syntaxJoins_calls (s t : ByteArray) (w : World) :
    Calls Try.prog 7 #[.string s, .string t] w fun e w' => e = .returned (.bool true) ∧ Chg (fun _ => False) w w' := by
  by_cases hs : 1500 < s.size
  · have q1 : decide ((1500 : Int) < (s.size : Int)) = true := by simp; omega
    go_enter Try.func7, Try.ntmps7
    go_wp2_with (go_at_call 23; refine (law_awake _).mono ?_; rintro e wa ⟨rfl, hCa⟩)
    go_ret
    exact ⟨rfl, hCa⟩
  · have q1 : decide ((1500 : Int) < (s.size : Int)) = false := by simp; omega
    by_cases ht : 1500 < t.size
    · have q2 : decide ((1500 : Int) < (t.size : Int)) = true := by simp; omega
      go_enter Try.func7, Try.ntmps7
      go_wp2_with (go_at_call 23; refine (law_awake _).mono ?_; rintro e wa ⟨rfl, hCa⟩)
      go_ret
      exact ⟨rfl, hCa⟩
    · have q2 : decide ((1500 : Int) < (t.size : Int)) = false := by simp; omega
      have HS := Parse_calls s w (4 * s.size + 5) (Nat.le_refl _) (by omega)
      have HT := fun w => Parse_calls t w (4 * t.size + 5) (Nat.le_refl _) (by omega)
      generalize hR : parseF (4 * s.size + 5) 0 s.data.toList = R at HS
      generalize hR2 : parseF (4 * t.size + 5) 0 t.data.toList = R2 at HT
      have HR := Lib.hid hR; clear hR
      have HR2 := Lib.hid hR2; clear hR2
      go_enter Try.func7, Try.ntmps7
      go_wp2_with fail
      refine Calls.mono HS ?_
      clear HS
      rintro e w1 ⟨hC1, hp⟩
      have HT1 := HT w1
      clear HT
      cases R with
      | err left c =>
        obtain ⟨rfl, hle⟩ := hp
        have hne : c ≠ 0 := (nz_all _).parse _ _ _ _ HR.out
        have q5 : (c == 0) = false := by simpa using hne
        have q6 : (c != 0) = true := by simpa using hne
        clear hne
        go_wp2_with fail
        refine Calls.mono HT1 ?_
        clear HT1
        rintro e w2 ⟨hC2, hp2⟩
        cases R2 with
        | err left2 c2 =>
          obtain ⟨rfl, _⟩ := hp2
          go_wp2_with (go_at_call 23; refine (law_awake _).mono ?_; rintro e wa ⟨rfl, hCa⟩)
          go_ret
          exact ⟨rfl, (hC1.trans hC2 (fun _ h _ => h)).trans hCa (fun _ h _ => h)⟩
        | ok l r =>
          obtain ⟨A2, c2, rfl, _⟩ := hp2
          go_wp2_with (go_at_call 23; refine (law_awake _).mono ?_; rintro e wa ⟨rfl, hCa⟩)
          go_ret
          exact ⟨rfl, (hC1.trans hC2 (fun _ h _ => h)).trans hCa (fun _ h _ => h)⟩
      | ok l r =>
        obtain ⟨A1, c1, rfl, hO1⟩ := hp
        go_wp2_with fail
        refine Calls.mono HT1 ?_
        clear HT1
        rintro e w2 ⟨hC2, hp2⟩
        have hO1' := hO1.stay hC2 (fun _ _ e => e)
        clear hO1
        cases R2 with
        | err left2 c2 =>
          obtain ⟨rfl, _⟩ := hp2
          have hne : c2 ≠ 0 := (nz_all _).parse _ _ _ _ HR2.out
          have q5 : (c2 == 0) = false := by simpa using hne
          have q6 : (c2 != 0) = true := by simpa using hne
          clear hne
          go_wp2_with (go_at_call 23; refine (law_awake _).mono ?_; rintro e wa ⟨rfl, hCa⟩)
          go_ret
          exact ⟨rfl, (hC1.trans hC2 (fun _ h _ => h)).trans hCa (fun _ h _ => h)⟩
        | ok l2 r2 =>
          obtain ⟨A2, c2, rfl, hO2⟩ := hp2
          have hpb := parse_join (n2 := 4 * (bstr (s.data.toList ++ 10 :: t.data.toList)).size + 5) HR.out HR2.out (by rw [bstr_size]; simp only [List.length_append, List.length_cons, len_data]; omega) (by rw [bstr_size]; simp only [List.length_append, List.length_cons, len_data]; omega)
          have HS2 := Parse_calls (bstr (s.data.toList ++ 10 :: t.data.toList)) w2 _ (Nat.le_refl _) (by rw [bstr_size]; simp only [List.length_append, len_data, List.length_cons, List.length_nil]; omega)
          rw [bstr_toList, hpb] at HS2
          clear hpb
          have hC12 := hC1.trans hC2 (fun _ h _ => h)
          go_wp2_with fail
          rw [joins_text]
          refine Calls.mono HS2 ?_
          clear HS2
          rintro e w3 ⟨hC3, A3, c3, rfl, hO3⟩
          have hO1 := hO1'.stay hC3 (fun _ _ e => e)
          have hO2' := hO2.stay hC3 (fun _ _ e => e)
          have hC13 := hC12.trans hC3 (fun _ h _ => h)
          clear hO1' hO2 hC12 hC1 hC2 hC3
          have hl1 : l.length ≤ 1501 := by have := parse_len HR.out; rw [len_data] at this; omega
          have hl2 : l2.length ≤ 1501 := by have := parse_len HR2.out; rw [len_data] at this; omega
          rw [List.length_append] at hO3
          have HD1 : Hid (Rep (w3.alloc (.cells #[] 44)) (fun k => k < w3.heap.size) (.sl 44 2 (Lst.ds l)) [.slice A1 l.length c1]) :=
            Lib.hid ((hO1.bound.mono (S' := fun k => k < w3.heap.size) (fun k hk _ => hk.2)).stay ((Chg.refl (fun _ => False) w3).alloc _) (fun _ _ e => e))
          have HD2 : Hid (Rep (w3.alloc (.cells #[] 44)) (fun k => k < w3.heap.size) (.sl 44 2 (Lst.ds l2)) [.slice A2 l2.length c2]) :=
            Lib.hid ((hO2'.bound.mono (S' := fun k => k < w3.heap.size) (fun k hk _ => hk.2)).stay ((Chg.refl (fun _ => False) w3).alloc _) (fun _ _ e => e))
          have HO0 : Hid (Own (w3.alloc (.cells #[] 44)) (fun k => k ≤ w3.heap.size) 44 2 (.slice (some ⟨w3.heap.size, 0, none⟩) 0 0) []) :=
            Lib.hid ((own_empty w3 (fun k => k ≤ w3.heap.size) 44 2).mono (fun k hk _ => hk.elim id (fun e => by omega)))
          have HD3 := Lib.hid hO3
          have HL1 : Hid (l.length = (Lst.ds l).length) := Lib.hid (by rw [Lst.ds_map, List.length_map])
          have HL2 : Hid (l2.length = (Lst.ds l2).length) := Lib.hid (by rw [Lst.ds_map, List.length_map])
          have HB1 : Hid ((([] : List D).length + (Lst.ds l).length) * 48 ≤ 140737488355328) := Lib.hid (by rw [← HL1.out]; simp; omega)
          have HB2 : Hid ((([] ++ Lst.ds l).length + (Lst.ds l2).length) * 48 ≤ 140737488355328) := Lib.hid (by rw [List.nil_append, ← HL1.out, ← HL2.out]; omega)
          clear hO1 hO2' hO3
          go_wp2_with (first
            | (at_builtin; (refine own_append_src (fun k => k ≤ w3.heap.size) (fun k => k < w3.heap.size) (by rfl) (.tmp 55) (.tmp 56) _ 44 _ 2 48 rfl Try.underlying37 info_List rfl (by decide) (by decide) (.slice (some ⟨w3.heap.size, 0, none⟩) 0 0) [] (Lst.ds l) A1 l.length c1 HL1.out rfl rfl HD1.out (fun k hk _ => ⟨Nat.le_of_lt hk, fun e => by cases e; exact Nat.lt_irrefl _ hk⟩) HO0.out HB1.out ?_); intro v1 w4 hv1 hC4 hat1)
            | (at_builtin; go_must (refine own_append_src (fun _ => True) (fun k => k < w3.heap.size) (by rfl) (.tmp 57) (.tmp 58) _ 44 _ 2 48 rfl Try.underlying37 info_List rfl (by decide) (by decide) v1 ([] ++ Lst.ds l) (Lst.ds l2) A2 l2.length c2 HL2.out rfl rfl (HD2.out.stay hC4 (fun k hk e => by cases e; exact Nat.lt_irrefl _ hk)) (fun k hk _ => ⟨trivial, fun e => by
                rcases hat1 with h | ⟨b, h, hb⟩
                · rw [h] at e; cases e; exact Nat.lt_irrefl _ hk
                · rw [h] at e; cases e; rw [World.size_alloc] at hb; omega⟩) (hv1.mono (fun _ _ _ => trivial)) HB2.out ?_); intro v2 w5 hv2 hC5 hat2))
          have hCa4 : Chg (fun k => w3.heap.size ≤ k) w3 w4 := ((Chg.refl (fun _ => False) w3).alloc (.cells #[] 44)).trans hC4 (fun k hk hl => by cases hk; exact absurd hl (Nat.lt_irrefl _)) |>.mono (fun _ h _ => h.elim)
          have hCa5 : Chg (fun k => w3.heap.size ≤ k) w3 w5 := hCa4.trans hC5 (fun k hk _ => by
            rcases hat1 with h | ⟨b, h, hb⟩
            · rw [h] at hk; cases hk; exact Nat.le_refl _
            · rw [h] at hk; cases hk; rw [World.size_alloc] at hb; exact Nat.le_trans (Nat.le_succ _) hb)
          have hR3 := (HD3.out.bound.mono (S' := fun k => k < w3.heap.size) (fun k hk _ => hk.2)).stay hCa5 (fun k hk e => Nat.lt_irrefl _ (Nat.lt_of_lt_of_le hk e))
          have hR5 := hv2.rep
          rw [show ([] ++ Lst.ds l) ++ Lst.ds l2 = Lst.ds (l ++ l2) by simp [Lst.ds_map]] at hR5
          have hsame := lists_same w5 _ _ _ _ (l ++ l2) hR3 hR5
          have hCe : Chg (fun _ => False) w w5 := hC13.trans hCa5 (fun k hk hl => by have := hC13.size; omega)
          obtain ⟨A5, c5, rfl⟩ := sl_form hR5
          clear hR3 hR5 hCa4 hCa5 hC4 hC5 hat1 hv2 hv1
          refine Calls.mono hsame ?_
          clear hsame
          rintro e w6 ⟨rfl, hC6⟩
          go_wp2_with (go_at_call 23; refine (law_awake _).mono ?_; rintro e wa ⟨rfl, hCa⟩)
          go_ret
          exact ⟨rfl, (hCe.trans hC6 (fun _ h _ => h)).trans hCa (fun _ h _ => h)⟩

namespace fnSyntaxJoins
open Go.ChangeShapes Go.WideShapes Go.ChangeAt
open Go.ChangeMaps (open_string shut_string)
theorem own : ownKnob Try.prog.godebug = none := by kernel_rfl

set_option maxRecDepth 100000 in
theorem lifted (os : Os) (started : os.Started) (H : Type) (enc : TypeId × Value → H) :
    ReturnsInHanded {} Try.checked os 7 .any (Rows.syntaxJoinsSpec.pre6 enc Try.prog Try.f7 Rows.syntaxJoinsRow.domain false) (Rows.syntaxJoinsSpec.post enc Try.prog Try.f7 false true false false) := by
  refine returnsInHanded_of_change_sized (C := Try.checked) own started (by kernel_rfl) Try.func7
    (ChangeSpec.witness6 (enc := enc) (C := Try.checked) false ⟨#[], #[.string ⟨#[]⟩, .string ⟨#[]⟩], []⟩ 8 (by kernel_rfl) (by kernel_rfl) (by kernel_rfl) (by kernel_rfl)) ?_
  intro W base args ds gs before hval0 hW _ hsz0 _
  have hsz : (DataW.weightsEach Try.prog (Try.f7.params.toList ++ Rows.syntaxJoinsSpec.plain.varTypes Try.prog) (ds ++ gs)).all (· ≤ reachBytes) = true := hsz0
  clear hsz0
  have hval : ∀ (j : Nat) t v, Try.f7.params[j]? = some t → args[j]? = some v → Value.okWide Try.prog W .any base t v := hval0
  have hW' := hW
  obtain ⟨p, q, hA0, hV, rfl, _, _⟩ := hW
  have hA : DataW.TrodAll enc Try.prog W 0 (fun _ => true) true Try.f7.params.toList args.toList ds p := hA0
  rw [Try.params7] at hA hval hsz
  obtain ⟨v0, vs0, d0, ds0, p0, q0, hargs, rfl, rfl, h0, r0⟩ := trodAll_cons hA
  obtain ⟨v1, vs1, d1, ds1, p1, q1, hargs1, rfl, rfl, h1, r1⟩ := trodAll_cons r0
  obtain ⟨rfl, rfl, rfl⟩ := trodAll_nil r1
  obtain rfl : args = #[v0, v1] := by cases args; simp_all
  obtain ⟨rfl, rfl⟩ := trodVars_none hV
  obtain ⟨s, rfl, rfl, rfl, hs0⟩ := open_string Try.underlying9 (hval 0 9 v0 rfl rfl) h0
  have hz0 : s.size ≤ 140737488355328 := by
    have h1 := sized_string hsz (j := 0) (t := 9) (bytes := s.data.toList) rfl rfl
    have h2 := reachBytes_lt
    rw [len_data] at h1
    omega
  obtain ⟨t, rfl, rfl, rfl, hs1⟩ := open_string Try.underlying9 (hval 1 9 v1 rfl rfl) h1
  have hz1 : t.size ≤ 140737488355328 := by
    have h1 := sized_string hsz (j := 1) (t := 9) (bytes := t.data.toList) rfl rfl
    have h2 := reachBytes_lt
    rw [len_data] at h1
    omega
  clear hA0
  simp only [List.append_nil] at hW'
  refine (syntaxJoins_calls s t W).mono fun e W' ⟨he, hg⟩ => ?_
  subst he
  exact ⟨_, rfl, _, _, _, [], [], [], hW', trodAll_cons_mk (shut_bool Try.underlying4 _) trodAll_mk0, trodAll_cons_mk (shut_string Try.underlying9 hs0) (trodAll_cons_mk (shut_string Try.underlying9 hs1) trodAll_mk0), rfl, hg.below.frame _, fun h => by cases h⟩
end fnSyntaxJoins
set_option maxRecDepth 100000 in
theorem syntaxJoins_proved : Rows.SyntaxJoinsSaid :=
  OpenClaim.holds_of_wide 7 Try.f7 rfl rfl rfl rfl rfl rfl rfl ⟨rfl, rfl, rfl, rfl, rfl⟩ rfl rfl rfl rfl rfl (by kernel_rfl) Try.func7 (by kernel_rfl)
    (of_decide_eq_true (by kernel_rfl)) (by unfold Func.isWrapper; first | (rw [if_pos (by decide +kernel)]; kernel_rfl) | (rw [if_neg (by decide +kernel)]; exact ⟨rfl, rfl⟩))
    (fun os started H enc _ => fnSyntaxJoins.lifted os started H enc)
#print axioms syntaxJoins_proved
end Go.Proofs.Ytdfnkmiabmjolaa
