/- Walk of the reference's braces, given its parts. Walk of the reference's next, given its dollar and its parts. Walk of the reference's parts, given its next. The reference's reading functions, whatever the text; Scan. Walk of the reference's Print. Walk of the law WordPrints. -/
import Derived.Test.YtdfnkmiabmjolaaDoorK8
import Derived.Deep.DeepCutAuto
import Derived.Deep.CutBlock
namespace Go.Proofs.YtdfnkmiabmjolaaDoor
open Go.RowKit
set_option linter.unusedVariables false
set_option linter.unusedSimpArgs false

def RPartsSaid (n : Nat) : Prop := ∀ (w : World) (s : ByteArray) (i how d : Nat), i ≤ s.size → s.size ≤ 8192 → how ≤ 2 → d ≤ 16 → 4 * (s.size - i) + 3 ≤ n →
  Calls Tryd.prog 20 #[.string s, .int .i64 i, .int .i64 how, .int .i64 d] w (ReadPost w s (partsR n how d [] (s.data.toList.drop i)))
theorem lenB_end (s : ByteArray) (i : Nat) (h : ¬ i + 1 < s.size) : lenB (s.data.toList.drop i) = false := by
  by_cases h0 : i < s.size
  · rw [byte_drop s i h0, drop_end s (i + 1) h]
    unfold lenB
    split
    · rename_i heq; simp at heq
    · rfl
  · rw [drop_end s i h0]; rfl
theorem lenB_at (s : ByteArray) (i : Nat) (h : i + 1 < s.size) : lenB (s.data.toList.drop i) = (s[i] == 35 && s[i + 1] != 125) := by
  rw [byte_drop s i (by omega), byte_drop s (i + 1) h]
  unfold lenB
  split
  · rename_i heq
    simp only [List.cons.injEq] at heq
    rw [heq.1, heq.2.1]
    rfl
  · rename_i hno
    by_cases h1 : s[i] = 35
    · exact (hno s[i + 1] _ (by rw [h1])).elim
    · rw [beq_eq_false_iff_ne.2 h1]; rfl
set_option maxRecDepth 100000 in
set_option maxHeartbeats 40000000 in
theorem rbraces_step (n : Nat) (IH : RPartsSaid n) : BracesSaid (n + 1) := by
  intro w s i d hi hs hd hf
  have hE : paramR (n + 1) d (s.data.toList.drop (i + 2)) = if d + 1 > 16 then .err ((s.data.toList.drop (i + 2)).length + 2) 63 else paramG (partsR n 1 (d + 1) []) ((s.data.toList.drop (i + 2)).length + 2) (lenB (s.data.toList.drop (i + 2))) false (if lenB (s.data.toList.drop (i + 2)) then (s.data.toList.drop (i + 2)).drop 1 else s.data.toList.drop (i + 2)) := by rw [paramR]
  generalize paramR (n + 1) d (s.data.toList.drop (i + 2)) = R at *
  have HE := Lib.hid hE
  clear hE
  go_enter Tryd.func62, Tryd.ntmps62
  by_cases hd16 : 16 < d + 1
  · have HR : Hid (R = .err ((s.data.toList.drop (i + 2)).length + 2) 63) := Lib.hid (by rw [HE.out, if_pos hd16])
    have q1 : (16 : Int) < (d : Int) + 1 := by omega
    go_wp2_with fail
    have hC0 : Chg (fun _ => False) w (w.alloc (.cells #[.slice none 0 0, .int .i64 0, .int .i64 0] 37)) := (Chg.refl _ w).alloc _
    have hrow := row_new w (.cells #[.slice none 0 0, .int .i64 0, .int .i64 0] 37)
    generalize w.alloc (.cells #[.slice none 0 0, .int .i64 0, .int .i64 0] 37) = W0 at *
    refine (rfault_calls _ _ _).mono ?_
    rintro e w1 ⟨rfl, hC1⟩
    have kB := row_chg hrow hC1 (fun e => e)
    have kcl1 := row_cells kB
    have kfr1 := row_free kB
    have hCf : Chg (fun _ => False) w w1 := hC0.trans hC1 (fun _ h _ => h)
    clear kB hC1
    go_wp2
    refine bodyPost_ret (v := .agg #[.slice none 0 0, .int .i64 (i), .int .i64 (63)]) (by simp [results, Tryd.results62, go_sem, kcl1]) rfl ?_
    refine ⟨((hCf.setCell (fun h => absurd h (by simp)) _).setCell (fun h => absurd h (by simp)) _).setCell (fun h => absurd h (by simp)) _, ?_⟩
    rw [HR.out]
    exact ⟨_, _, by decide, rfl⟩
  · have q1 : decide ((16 : Int) < (d : Int) + 1) = false := by simp; omega
    have q2 : ¬ ((16 : Int) < (d : Int) + 1) := by omega
    have HE2 : Hid (R = paramG (partsR n 1 (d + 1) []) ((s.data.toList.drop (i + 2)).length + 2) (lenB (s.data.toList.drop (i + 2))) false (if lenB (s.data.toList.drop (i + 2)) then (s.data.toList.drop (i + 2)).drop 1 else s.data.toList.drop (i + 2))) := Lib.hid (by rw [HE.out, if_neg hd16])
    clear HE
    have hd15 : d + 1 ≤ 16 := by omega
    clear hd hd16
    have HI3 : Hid (s.data.toList.drop (i + 3) = (s.data.toList.drop (i + 2)).drop 1) := Lib.hid (by rw [List.drop_drop])
    obtain ⟨k, hk⟩ : ∃ k, k = i + 2 := ⟨_, rfl⟩
    have r2 : IntKind.i64.wrap ((i : Int) + 2) = (k : Int) := by rw [hk]; exact IntWalk.i64_in _ (by omega)
    rw [← hk] at HE2
    have HK := Lib.hid hk
    have hks : k ≤ s.size := by omega
    have hfk : 4 * (s.size - k) + 8 ≤ n + 1 := by omega
    clear hk hf hi HI3
    have r3 : IntKind.i64.wrap ((k : Int) + 1) = (k : Int) + 1 := IntWalk.i64_in _ (by omega)
    have p2 : (0 : Int) ≤ (k : Int) := by omega
    have HH := Lib.hid (And.intro hks (And.intro hs (And.intro hfk hd15)))
    clear hs hfk hd15
    go_upto_region 5 with fail
    go_cut [35] (fun fv wx => fv = .bool (lenB (s.data.toList.drop k)) ∧ wx = (w.alloc (.cells #[.slice none 0 0, .int .i64 0, .int .i64 0] 37)).alloc (.cells #[.int .i64 2, .bool false, .string ⟨#[]⟩, .string ⟨#[]⟩, .slice none 0 0] 32))
    case first =>
      have t3 : ((k : Int) + 1).toNat = k + 1 := by omega
      have t3 : ((k : Int) + 1).toNat = k + 1 := by omega
      have p3 : (0 : Int) ≤ (k : Int) + 1 := by omega
      by_cases hb : k + 1 < s.size
      · have e1 : (k : Int) < (s.size : Int) := by omega
        have e2 : (k : Int) + 1 < (s.size : Int) := by omega
        have h35 : ((s[k].toNat : Int) == 35) = (s[k] == 35) := byte_eqn s[k] 35 (by decide)
        have h125 : ((s[k + 1].toNat : Int) != 125) = (s[k + 1] != 125) := congrArg Bool.not (byte_eqn s[k + 1] 125 (by decide))
        have hL := lenB_at s k hb
        cases hc1 : s[k] == 35
        case true =>
          cases hc2 : s[k + 1] != 125
          all_goals
            rw [hc1] at h35
            rw [hc2] at h125
            rw [hc1, hc2] at hL
            have HL := Lib.hid hL
            clear hL hc1 hc2
            go_wp2
            go_meet
            exact ⟨by rw [HL.out]; rfl, rfl⟩
        case false =>
          rw [hc1] at h35 hL
          have HL := Lib.hid hL
          clear hL hc1
          go_wp2
          go_meet
          exact ⟨by rw [HL.out]; rfl, rfl⟩
      · have HL := Lib.hid (lenB_end s k hb)
        have e2 : decide ((k : Int) + 1 < (s.size : Int)) = false := by simp; omega
        have e3 : (s.size : Int) ≤ (k : Int) + 1 := by omega
        go_wp2
        go_meet
        exact ⟨by rw [HL.out], rfl⟩
    case rest =>
      obtain ⟨rfl, hw⟩ := hcut
      subst hw
      have hC0 : Chg (fun _ => False) w ((w.alloc (.cells #[.slice none 0 0, .int .i64 0, .int .i64 0] 37)).alloc (.cells #[.int .i64 2, .bool false, .string ⟨#[]⟩, .string ⟨#[]⟩, .slice none 0 0] 32)) := ((Chg.refl _ w).alloc _).alloc _
      have hrow := row_alloc (row_new w (.cells #[.slice none 0 0, .int .i64 0, .int .i64 0] 37)) (.cells #[.int .i64 2, .bool false, .string ⟨#[]⟩, .string ⟨#[]⟩, .slice none 0 0] 32)
      have hP := row_new (w.alloc (.cells #[.slice none 0 0, .int .i64 0, .int .i64 0] 37)) (.cells #[.int .i64 2, .bool false, .string ⟨#[]⟩, .string ⟨#[]⟩, .slice none 0 0] 32)
      rw [World.size_alloc] at hP
      generalize (w.alloc (.cells #[.slice none 0 0, .int .i64 0, .int .i64 0] 37)).alloc (.cells #[.int .i64 2, .bool false, .string ⟨#[]⟩, .string ⟨#[]⟩, .slice none 0 0] 32) = W0 at *
      have HLN : Hid (lenB (s.data.toList.drop k) = true → k + 1 ≤ s.size) := Lib.hid (fun h => by
        by_cases hb : k + 1 < s.size
        · omega
        · rw [lenB_end s k hb] at h; cases h)
      generalize lenB (s.data.toList.drop k) = ln at *
      rw [List.drop_drop] at HE2
      go_upto_if 35 with fail
      go_cut [8] (fun kv wx => ∃ (k0 : Nat) (o0 : Bytes), kv = .int .i64 k0 ∧ k0 ≤ s.size ∧ k ≤ k0 ∧ wx.heap[w.heap.size + 1]? = some (.cells #[.int .i64 2, .bool false, .string ⟨#[]⟩, .string (bstr o0), .slice none 0 0] 32 (0, 0)) ∧
        wx.heap[w.heap.size]? = some (.cells #[.slice none 0 0, .int .i64 0, .int .i64 0] 37 (0, 0)) ∧ Chg (fun _ => False) w wx ∧ Hid (o0 = if ln then [108, 101, 110] else []) ∧ Hid (R = paramG (partsR n 1 (d + 1) []) ((s.data.toList.drop k).length + 2) ln false (s.data.toList.drop k0)))
      case first =>
        have kcl := row_cells hP
        have kfr := row_free hP
        cases ln
        · go_wp2
          go_meet
          exact ⟨k, [], by rfl, hks, Nat.le_refl _, hP, hrow, hC0, Lib.hid rfl, Lib.hid (by rw [HE2.out]; rfl)⟩
        · have hk1 := HLN.out rfl
          go_wp2
          go_meet
          have h1 := row_set hP 3 (.string ⟨#[108, 101, 110]⟩)
          exact ⟨k + 1, [108, 101, 110], by rfl, hk1, by omega, h1, row_far hrow (by simp) _, hC0.setCell (fun h => absurd h (by simp)) _, Lib.hid rfl, Lib.hid (by rw [HE2.out]; rfl)⟩
      case rest =>
        clear HE2 HLN hP hrow hC0
        obtain ⟨k0, o0, rfl, hk0, hkk, hP, hrow, hC0, HO, HR0⟩ := hcut
        generalize wc = W1 at *
        have hpa := rparamat_calls s k0 W1 (by have := HH.out; omega) hk0
        have hml := parameter_le (s.data.toList.drop k0)
        rw [drop_len] at hml
        go_wp2_with fail
        refine hpa.mono ?_
        rintro e w' ⟨rfl, rfl⟩
        clear hpa
        by_cases hm0 : parameter (s.data.toList.drop k0) = 0
        · have HR : Hid (R = .err (s.data.toList.drop k0).length 61) := Lib.hid (by rw [HR0.out, paramG, hm0]; rfl)
          rw [hm0]
          clear hm0 hml
          go_wp2_with fail
          refine (rfault_calls _ _ _).mono ?_
          rintro e w1 ⟨rfl, hC1⟩
          have kB := row_chg hrow hC1 (fun e => e)
          have kcl1 := row_cells kB
          have kfr1 := row_free kB
          have hCf : Chg (fun _ => False) w w1 := hC0.trans hC1 (fun _ h _ => h)
          clear kB hC1
          go_wp2
          refine bodyPost_ret (v := .agg #[.slice none 0 0, .int .i64 (k0), .int .i64 (61)]) (by simp [results, Tryd.results62, go_sem, kcl1]) rfl ?_
          refine ⟨((hCf.setCell (fun h => absurd h (by simp)) _).setCell (fun h => absurd h (by simp)) _).setCell (fun h => absurd h (by simp)) _, ?_⟩
          rw [HR.out]
          exact ⟨_, _, by decide, rfl⟩
        · by_cases hm64 : 64 < parameter (s.data.toList.drop k0)
          · have HR : Hid (R = .err (s.data.toList.drop k0).length 61) := Lib.hid (by rw [HR0.out, paramG, if_pos (by simp [hm64])])
            generalize parameter (s.data.toList.drop k0) = m at *
            have u1 : ((m : Int) == 0) = false := by simp; omega
            have u2 : decide ((64 : Int) < (m : Int)) = true := by simp; omega
            clear hml
            go_wp2_with fail
            refine (rfault_calls _ _ _).mono ?_
            rintro e w1 ⟨rfl, hC1⟩
            have kB := row_chg hrow hC1 (fun e => e)
            have kcl1 := row_cells kB
            have kfr1 := row_free kB
            have hCf : Chg (fun _ => False) w w1 := hC0.trans hC1 (fun _ h _ => h)
            clear kB hC1
            go_wp2
            refine bodyPost_ret (v := .agg #[.slice none 0 0, .int .i64 (k0), .int .i64 (61)]) (by simp [results, Tryd.results62, go_sem, kcl1]) rfl ?_
            refine ⟨((hCf.setCell (fun h => absurd h (by simp)) _).setCell (fun h => absurd h (by simp)) _).setCell (fun h => absurd h (by simp)) _, ?_⟩
            rw [HR.out]
            exact ⟨_, _, by decide, rfl⟩
          · have HF : Hid (R = finish ((s.data.toList.drop k).length + 2) false ((s.data.toList.drop k0).take (parameter (s.data.toList.drop k0))) (if ln then [108, 101, 110] else opM ((s.data.toList.drop k0).drop (parameter (s.data.toList.drop k0))))
              (if ln || opM ((s.data.toList.drop k0).drop (parameter (s.data.toList.drop k0))) == [] then .ok [] ((s.data.toList.drop k0).drop (parameter (s.data.toList.drop k0))) else partsR n 1 (d + 1) [] (((s.data.toList.drop k0).drop (parameter (s.data.toList.drop k0))).drop (opM ((s.data.toList.drop k0).drop (parameter (s.data.toList.drop k0)))).length))) := Lib.hid (by
              rw [HR0.out, paramG, if_neg (by simp [hm64, hm0])])
            rw [List.drop_drop] at HF
            clear HR0
            generalize parameter (s.data.toList.drop k0) = m at *
            have u1 : ((m : Int) == 0) = false := by simp; omega
            have u2 : decide ((64 : Int) < (m : Int)) = false := by simp; omega
            have hh := HH.out
            have r4 : IntKind.i64.wrap ((k0 : Int) + (m : Int)) = (k0 : Int) + (m : Int) := IntWalk.i64_in _ (by omega)
            have t4 : ((k0 : Int) + (m : Int)).toNat = k0 + m := by omega
            have p4 : (k0 : Int) ≤ (k0 : Int) + (m : Int) := by omega
            have p5 : (k0 : Int) + (m : Int) ≤ (s.size : Int) := by omega
            have HX : Hid (s.extract k0 (k0 + m) = bstr ((s.data.toList.drop k0).take m)) := Lib.hid (by rw [extract_bstr, show k0 + m - k0 = m by omega])
            have HM := Lib.hid (And.intro hm0 (And.intro hm64 hml))
            have kcl := row_cells hP
            have kfr := row_free hP
            clear hh hml
            go_upto_region 13 with fail
            have hP2 := row_set hP 2 (.string (s.extract k0 (k0 + m)))
            have hrow2 := row_far hrow (p := ⟨w.heap.size + 1, 2, none⟩) (by simp) (.string (s.extract k0 (k0 + m)))
            have hC2 : Chg (fun _ => False) w (W1.setCell ⟨w.heap.size + 1, 2, none⟩ (.string (s.extract k0 (k0 + m)))) := hC0.setCell (fun h => absurd h (by simp)) _
            replace hP2 : (W1.setCell ⟨w.heap.size + 1, 2, none⟩ (.string (s.extract k0 (k0 + m)))).heap[w.heap.size + 1]? = some (.cells #[.int .i64 2, .bool false, .string (s.extract k0 (k0 + m)), .string (bstr o0), .slice none 0 0] 32 (0, 0)) := hP2
            generalize W1.setCell ⟨w.heap.size + 1, 2, none⟩ (.string (s.extract k0 (k0 + m))) = W2 at *
            generalize s.extract k0 (k0 + m) = xt at *
            clear kcl kfr hP hrow hC0
            go_cut [68] (fun fv wx => fv = .bool (!ln && !(opM (s.data.toList.drop (k0 + m))).isEmpty) ∧ wx.heap[w.heap.size + 1]? = some (.cells #[.int .i64 2, .bool false, .string xt, .string (bstr o0), .slice none 0 0] 32 (0, 0)) ∧
              wx.heap[w.heap.size]? = some (.cells #[.slice none 0 0, .int .i64 0, .int .i64 0] 37 (0, 0)) ∧ Chg (fun _ => False) w wx)
            case first =>
              have hop : Calls Tryd.prog 72 #[.string s, .int .i64 ((k0 : Int) + (m : Int))] W2 fun e w' => e = .returned (.string (bstr (opM (s.data.toList.drop (k0 + m))))) ∧ Chg (fun _ => False) W2 w' := ropat_calls s (k0 + m) W2 (by have := HH.out; omega) (by omega)
              have heo : (bstr (opM (s.data.toList.drop (k0 + m)))).toList.isEmpty = (opM (s.data.toList.drop (k0 + m))).isEmpty := by rw [ByteArray.toList_eq, bstr_toList]
              generalize opM (s.data.toList.drop (k0 + m)) = op at *
              have ho := HO.out
              cases ln
              · simp only [Bool.false_eq_true, if_false] at ho
                subst ho
                have hP3 : W2.heap[w.heap.size + 1]? = some (.cells #[.int .i64 2, .bool false, .string xt, .string ⟨#[]⟩, .slice none 0 0] 32 (0, 0)) := hP2
                have kcl := row_cells hP3
                clear HF
                generalize bstr op = bo at *
                go_wp2_with (go_at_call 72; refine hop.mono ?_; rintro e w3 ⟨rfl, hC3⟩)
                go_meet
                exact ⟨by simp [heo], row_chg hP2 hC3 (fun e => e), row_chg hrow2 hC3 (fun e => e), hC2.trans hC3 (fun _ h _ => h)⟩
              · simp only [if_true] at ho
                subst ho
                have hP3 : W2.heap[w.heap.size + 1]? = some (.cells #[.int .i64 2, .bool false, .string xt, .string ⟨#[108, 101, 110]⟩, .slice none 0 0] 32 (0, 0)) := hP2
                have kcl := row_cells hP3
                clear HF
                go_wp2
                go_meet
                exact ⟨by simp, hP2, hrow2, hC2⟩
            case rest =>
              clear hP2 hrow2 hC2
              obtain ⟨rfl, hP, hrow, hC0⟩ := hcut
              generalize wc = W3 at *
              go_upto_if 68 with fail
              go_cut [8] (fun jv wx => ∃ (j : Nat) (o : Bytes) (l : List Part) (A : Option Addr) (c : Nat), jv = .int .i64 j ∧ j ≤ s.size ∧ wx.heap[w.heap.size + 1]? = some (.cells #[.int .i64 2, .bool false, .string xt, .string (bstr o), .slice A l.length c] 32 (0, 0)) ∧
                wx.heap[w.heap.size]? = some (.cells #[.slice none 0 0, .int .i64 0, .int .i64 0] 37 (0, 0)) ∧ Chg (fun _ => False) w wx ∧ Rep wx (fun b => w.heap.size + 1 < b) (.sl 32 5 (Part.ds l)) [.slice A l.length c] ∧
                Hid (R = finish ((s.data.toList.drop k).length + 2) false ((s.data.toList.drop k0).take m) o (.ok l (s.data.toList.drop j))))
              case first =>
                have hop : ∀ V, Calls Tryd.prog 72 #[.string s, .int .i64 ((k0 : Int) + (m : Int))] V fun e w' => e = .returned (.string (bstr (opM (s.data.toList.drop (k0 + m))))) ∧ Chg (fun _ => False) V w' := fun V => ropat_calls s (k0 + m) V (by have := HH.out; omega) (by omega)
                have hpl := opL_prefix ops (s.data.toList.drop (k0 + m))
                rw [drop_len] at hpl
                replace hpl : (opM (s.data.toList.drop (k0 + m))).length ≤ s.size - (k0 + m) := hpl
                generalize opM (s.data.toList.drop (k0 + m)) = op at *
                have ho := HO.out
                have hf := HF.out
                cases hb : (!ln && !op.isEmpty)
                · have hfe : R = finish ((s.data.toList.drop k).length + 2) false ((s.data.toList.drop k0).take m) o0 (.ok [] (s.data.toList.drop (k0 + m))) := by
                    rw [hf, ho]
                    cases ln
                    · simp only [Bool.not_false, Bool.true_and, Bool.not_eq_false', List.isEmpty_iff] at hb
                      subst hb
                      rfl
                    · rfl
                  have HFE := Lib.hid hfe
                  clear hfe hf HF ho
                  go_wp2
                  go_meet
                  exact ⟨k0 + m, o0, [], none, 0, by go_num, by omega, hP, hrow, hC0, ⟨none, 0, [], rfl, Nat.le_refl _, by simp [maxLen], by simp [Rd], rfl⟩, HFE.out⟩
                · have hln : ln = false := by
                    revert hb
                    cases ln
                    · intro _; rfl
                    · intro h; cases h
                  have hop0 : (op == []) = false := by
                    cases op with
                    | nil => simp at hb
                    | cons _ _ => rfl
                  subst hln
                  simp only [Bool.false_or, hop0, Bool.false_eq_true, if_false] at hf
                  rw [List.drop_drop] at hf
                  have HF2 := Lib.hid hf
                  clear hf HF ho hb hop0
                  have hbs := bstr_size op
                  have hh := HH.out
                  have hpt : ∀ V, Calls Tryd.prog 20 #[.string s, .int .i64 ((k0 : Int) + (m : Int) + ((bstr op).size : Int)), .int .i64 1, .int .i64 ((d : Int) + 1)] V (ReadPost V s (partsR n 1 (d + 1) [] (s.data.toList.drop (k0 + m + op.length)))) := fun V => by
                    rw [hbs]
                    exact IH V s (k0 + m + op.length) 1 (d + 1) (by omega) hh.2.1 (by omega) hh.2.2.2 (by have := HM.out; have := HK.out; omega)
                  have r6 : IntKind.i64.wrap ((k0 : Int) + (m : Int) + ((bstr op).size : Int)) = (k0 : Int) + (m : Int) + ((bstr op).size : Int) := IntWalk.i64_in _ (by omega)
                  have HBS := Lib.hid hbs
                  generalize hbo : bstr op = bo at *
                  have HBO := Lib.hid hbo
                  clear hbs hbo hh r3 q2
                  generalize partsR n 1 (d + 1) [] (s.data.toList.drop (k0 + m + op.length)) = R2 at *
                  have kcl := row_cells hP
                  have kfr := row_free hP
                  have hXl := row_lt hP
                  go_wp2_with fail
                  refine (hop _).mono ?_
                  rintro e w4 ⟨rfl, hC4⟩
                  have hP4 := row_chg hP hC4 (fun e => e)
                  have hrow4 := row_chg hrow hC4 (fun e => e)
                  have hC04 : Chg (fun _ => False) w w4 := hC0.trans hC4 (fun _ h _ => h)
                  clear kcl kfr hP hrow hC0 hC4 hop
                  have kcl := row_cells hP4
                  have kfr := row_free hP4
                  go_wp2_with fail
                  have hP5 := row_set hP4 3 (.string bo)
                  have hrow5 := row_far hrow4 (p := ⟨w.heap.size + 1, 3, none⟩) (by simp) (.string bo)
                  have hC5 : Chg (fun _ => False) w (w4.setCell ⟨w.heap.size + 1, 3, none⟩ (.string bo)) := hC04.setCell (fun h => absurd h (by simp)) _
                  replace hP5 : (w4.setCell ⟨w.heap.size + 1, 3, none⟩ (.string bo)).heap[w.heap.size + 1]? = some (.cells #[.int .i64 2, .bool false, .string xt, .string bo, .slice none 0 0] 32 (0, 0)) := hP5
                  generalize w4.setCell ⟨w.heap.size + 1, 3, none⟩ (.string bo) = W5 at *
                  clear kcl kfr hP4 hrow4 hC04
                  refine (hpt _).mono ?_
                  rintro e w6 ⟨hC6, hm⟩
                  have hP6 := row_chg hP5 hC6 (fun e => e)
                  have hrow6 := row_chg hrow5 hC6 (fun e => e)
                  have hC06 : Chg (fun _ => False) w w6 := hC5.trans hC6 (fun _ h _ => h)
                  have hX5 := row_lt hP5
                  cases R2 with
                  | err x y =>
                    obtain ⟨a1, e1, he1, rfl⟩ := hm
                    have v1 : (e1 != 0) = true := by simpa using he1
                    have v2 : (e1 == 0) = false := by simpa using he1
                    have hw6 := row_lt hrow6
                    have kcl1 := row_cells hrow6
                    have kfr1 := row_free hrow6
                    clear hP5 hrow5 hC5 hP6 hpt hC6
                    go_wp2
                    refine bodyPost_ret (v := .agg #[.slice none 0 0, .int .i64 a1, .int .i64 e1]) (by simp [results, Tryd.results62, go_sem, kcl1, cell_alloc_old, hw6]) rfl ?_
                    refine ⟨(((hC06.setCell (fun h => absurd h (by simp)) _).setCell (fun h => absurd h (by simp)) _).setCell (fun h => absurd h (by simp)) _).alloc _, ?_⟩
                    rw [HF2.out]
                    exact ⟨_, _, he1, rfl⟩
                  | ok l rr =>
                    obtain ⟨A, c, j, hj, hrr, rfl, hrep⟩ := hm
                    have HRR := Lib.hid hrr
                    clear hrr
                    have kcl1 := row_cells hP6
                    have kfr1 := row_free hP6
                    have hXw := row_lt hP6
                    have HREP := Lib.hid hrep
                    clear hP5 hrow5 hC5 hpt hC6 hrep
                    go_wp2
                    have hY7 := row_new w6 (.cells #[.slice A l.length c, .int .i64 j, .int .i64 0] 37)
                    have hX7 := row_alloc hP6 (.cells #[.slice A l.length c, .int .i64 j, .int .i64 0] 37)
                    have hR7 := row_alloc hrow6 (.cells #[.slice A l.length c, .int .i64 j, .int .i64 0] 37)
                    have hC7 : Chg (fun _ => False) w (w6.alloc (.cells #[.slice A l.length c, .int .i64 j, .int .i64 0] 37)) := hC06.alloc _
                    have HREP7 := Lib.hid (HREP.out.stay ((Chg.refl (fun _ => False) _).alloc (.cells #[.slice A l.length c, .int .i64 j, .int .i64 0] 37)) (fun _ _ e => e))
                    generalize w6.alloc (.cells #[.slice A l.length c, .int .i64 j, .int .i64 0] 37) = W7 at *
                    clear kcl1 kfr1 hP6 hrow6 hC06 HREP
                    have kcl1 := row_cells hX7
                    have kfr1 := row_free hX7
                    have kcl2 := row_cells hY7
                    have hYX : ¬ w6.heap.size = w.heap.size + 1 := by omega
                    have hXY : ¬ w.heap.size + 1 = w6.heap.size := by omega
                    go_region
                    go_wp2
                    go_meet
                    have z1 := row_set hX7 4 (.slice A l.length c)
                    have z2 := row_far hR7 (p := ⟨w.heap.size + 1, 4, none⟩) (by simp) (.slice A l.length c)
                    have z3 : Chg (· = w.heap.size + 1) W7 (W7.setCell ⟨w.heap.size + 1, 4, none⟩ (.slice A l.length c)).drew := (setCell_chgR W7 (w.heap.size + 1) 4 (.slice A l.length c)).drew
                    exact ⟨j, op, l, A, c, rfl, hj, by rw [HBO.out]; exact z1, z2, (hC7.setCell (fun h => absurd h (by simp)) _).drew, (HREP7.out.stay z3 (fun b hb e => by omega)).mono (fun b hb _ => by omega), Lib.hid (by rw [HF2.out, HRR.out])⟩
              case rest =>
                clear hP hrow hC0
                obtain ⟨j, o, l, A, c, rfl, hj, hP, hrow, hC0, hrep, HR1⟩ := hcut
                generalize wc = W4 at *
                have kclp := row_cells hP
                have kfrp := row_free hP
                have hXl := row_lt hP
                have hwl := row_lt hrow
                by_cases hjl : j < s.size
                · have HDJ := Lib.hid (byte_drop s j hjl)
                  have g1 : (0 : Int) ≤ (j : Int) := by omega
                  have g2 : (j : Int) < (s.size : Int) := by omega
                  have g3 : IntKind.i64.wrap ((j : Int) + 1) = (j : Int) + 1 := IntWalk.i64_in _ (by have := HH.out; omega)
                  have g4 : ((s[j].toNat : Int) != 125) = !(s[j] == 125) := congrArg Bool.not (byte_eqn s[j] 125 (by decide))
                  cases h125 : s[j] == 125
                  · rw [h125] at g4
                    have HR : Hid (R = .err ((s.data.toList.drop (j + 1)).length + 1) 61) := Lib.hid (by rw [HR1.out, HDJ.out, finish, if_neg (by rw [h125]; decide)])
                    go_wp2_with fail
                    refine (rfault_calls _ _ _).mono ?_
                    rintro e w1 ⟨rfl, hC1⟩
                    have kB := row_chg hrow hC1 (fun e => e)
                    have kcl1 := row_cells kB
                    have kfr1 := row_free kB
                    have hCf : Chg (fun _ => False) w w1 := hC0.trans hC1 (fun _ h _ => h)
                    clear kB hC1
                    go_wp2
                    refine bodyPost_ret (v := .agg #[.slice none 0 0, .int .i64 (j), .int .i64 (61)]) (by simp [results, Tryd.results62, go_sem, kcl1]) rfl ?_
                    refine ⟨((hCf.setCell (fun h => absurd h (by simp)) _).setCell (fun h => absurd h (by simp)) _).setCell (fun h => absurd h (by simp)) _, ?_⟩
                    rw [HR.out]
                    exact ⟨_, _, by decide, rfl⟩
                  · rw [h125] at g4
                    have HR : Hid (R = .ok (.mk 2 false ((s.data.toList.drop k0).take m) o l) (s.data.toList.drop (j + 1))) := Lib.hid (by rw [HR1.out, HDJ.out, finish, if_pos h125]; rfl)
                    have kcl := row_cells hrow
                    have kfr := row_free hrow
                    clear HF
                    go_wp2
                    refine bodyPost_ret (v := .agg #[.slice (some ⟨W4.heap.size, 0, none⟩) 1 1, .int .i64 ((j : Int) + 1), .int .i64 0]) (by simp [results, Tryd.results62, go_sem, kcl, cell_alloc_old, hwl]) rfl ?_
                    refine read_end (j := j + 1) (by rw [HR.out]; rfl) ((((hC0.setCell (fun h => absurd h (by simp)) _).setCell (fun h => absurd h (by simp)) _).setCell (fun h => absurd h (by simp)) _).alloc _) ?_ (by omega) rfl rfl (by omega)
                    have h3 : Chg (· = w.heap.size) W4 (((W4.setCell ⟨w.heap.size, 0, none⟩ (.slice (some ⟨W4.heap.size, 0, none⟩) 1 1)).setCell ⟨w.heap.size, 1, none⟩ (.int .i64 ((j : Int) + 1))).setCell ⟨w.heap.size, 2, none⟩ (.int .i64 0)) := (((Chg.refl (· = w.heap.size) W4).setCell (fun _ => rfl) _).setCell (fun _ => rfl) _).setCell (fun _ => rfl) _
                    have h4 := hrep.stay h3 (fun b hb e => by omega)
                    have h5 := (one_row (e := 32) (part_rep.2 ⟨_, by rw [HX.out], h4⟩ : Rep _ _ (Part.d (.mk 2 false ((s.data.toList.drop k0).take m) o l)) [.int .i64 2, .bool false, .string xt, .string (bstr o), .slice A l.length c]) (sz := 5) rfl)
                    have h6 := h5.mono (S' := fun b => w.heap.size ≤ b) (fun b hb _ => by
                      rcases hb with hb | hb
                      · omega
                      · simp at hb; omega)
                    simpa [Part.ds] using h6
                · have HR : Hid (R = .err ((s.data.toList.drop k).length + 2) 60) := Lib.hid (by rw [HR1.out, drop_end s j hjl, finish])
                  have g1 : decide ((s.size : Int) ≤ (j : Int)) = true := by simp; omega
                  have g2 : (s.size : Int) ≤ (j : Int) := by omega
                  go_wp2_with fail
                  refine (rfault_calls _ _ _).mono ?_
                  rintro e w1 ⟨rfl, hC1⟩
                  have kB := row_chg hrow hC1 (fun e => e)
                  have kcl1 := row_cells kB
                  have kfr1 := row_free kB
                  have hCf : Chg (fun _ => False) w w1 := hC0.trans hC1 (fun _ h _ => h)
                  clear kB hC1
                  go_wp2
                  refine bodyPost_ret (v := .agg #[.slice none 0 0, .int .i64 (i), .int .i64 (60)]) (by simp [results, Tryd.results62, go_sem, kcl1]) rfl ?_
                  refine ⟨((hCf.setCell (fun h => absurd h (by simp)) _).setCell (fun h => absurd h (by simp)) _).setCell (fun h => absurd h (by simp)) _, ?_⟩
                  rw [HR.out]
                  exact ⟨_, _, by decide, rfl⟩
end Go.Proofs.YtdfnkmiabmjolaaDoor
namespace Go.Proofs.YtdfnkmiabmjolaaDoor
open Go.RowKit
set_option linter.unusedVariables false
set_option linter.unusedSimpArgs false

def RNextSaid (n : Nat) : Prop := ∀ (w : World) (s : ByteArray) (i how d : Nat) (h : i < s.size), s.size ≤ 8192 → how ≤ 2 → d ≤ 16 → 4 * (s.size - i) + 2 ≤ n →
  Calls Tryd.prog 32 #[.string s, .int .i64 i, .int .i64 how, .int .i64 d] w (ReadPost w s (nextR n how d s[i] (s.data.toList.drop (i + 1))))
theorem cell_set3 {V : World} {X Y y : Nat} {v : Value} (h : Y ≠ X) (a b c : Value) (hc : V.cell? ⟨Y, y, none⟩ = some v) : (((V.setCell ⟨X, 0, none⟩ a).setCell ⟨X, 1, none⟩ b).setCell ⟨X, 2, none⟩ c).cell? ⟨Y, y, none⟩ = some v :=
  ((((Chg.refl (· = X) V).setCell (fun _ => rfl) a).setCell (fun _ => rfl) b).setCell (fun _ => rfl) c).cell hc h
set_option maxRecDepth 100000 in
set_option maxHeartbeats 40000000 in
theorem rnext_step (n : Nat) (IHd : RDollarSaid n) (IHp : RPartsSaid n) : RNextSaid n := by
  intro w s i how d hi hs hh hd hf
  have hE := nextR_def n how d s[i] (s.data.toList.drop (i + 1))
  generalize nextR n how d s[i] (s.data.toList.drop (i + 1)) = R at *
  have HE := Lib.hid hE
  clear hE
  have g1 : (0 : Int) ≤ (i : Int) := by omega
  have g2 : (i : Int) < (s.size : Int) := by omega
  have g3 : IntKind.i64.wrap ((i : Int) + 1) = (i : Int) + 1 := IntWalk.i64_in _ (by omega)
  have g4 : IntKind.i64.wrap ((i : Int) + 2) = (i : Int) + 2 := IntWalk.i64_in _ (by omega)
  have t1 : ((i : Int) + 1).toNat = i + 1 := by omega
  have p1 : (0 : Int) ≤ (i : Int) + 1 := by omega
  have HH := Lib.hid (And.intro hs (And.intro hh (And.intro hd hf)))
  clear hs hh hd hf
  have h96 : ((s[i].toNat : Int) == 96) = (s[i] == 96) := byte_eqn s[i] 96 (by decide)
  have h36 : ((s[i].toNat : Int) == 36) = (s[i] == 36) := byte_eqn s[i] 36 (by decide)
  have h92 : ((s[i].toNat : Int) == 92) = (s[i] == 92) := byte_eqn s[i] 92 (by decide)
  have h39 : ((s[i].toNat : Int) == 39) = (s[i] == 39) := byte_eqn s[i] 39 (by decide)
  have h34 : ((s[i].toNat : Int) == 34) = (s[i] == 34) := byte_eqn s[i] 34 (by decide)
  have HX1 := Lib.hid (extract_one s i hi)
  generalize hcc : s[i] = c at *
  have HCC := Lib.hid hcc
  go_enter Tryd.func32, Tryd.ntmps32
  go_upto_region 2 with fail
  have hC0 : Chg (fun _ => False) w (w.alloc (.cells #[.slice none 0 0, .int .i64 0, .int .i64 0] 37)) := (Chg.refl _ w).alloc _
  have hrow := row_new w (.cells #[.slice none 0 0, .int .i64 0, .int .i64 0] 37)
  generalize w.alloc (.cells #[.slice none 0 0, .int .i64 0, .int .i64 0] 37) = W0 at *
  have kcl := row_cells hrow
  have kfr := row_free hrow
  have hlw := row_lt hrow
  cases c96 : c == 96
  case true =>
    have HR : Hid (R = .err ((s.data.toList.drop (i + 1)).length + 1) 61) := Lib.hid (by rw [HE.out, if_pos c96])
    rw [c96] at h96
    go_wp2_with fail
    refine (rfault_calls _ _ _).mono ?_
    rintro e w1 ⟨rfl, hC1⟩
    have kB := row_chg hrow hC1 (fun e => e)
    have kcl1 := row_cells kB
    have kfr1 := row_free kB
    have hCf : Chg (fun _ => False) w w1 := hC0.trans hC1 (fun _ h _ => h)
    clear kB hC1
    go_wp2
    refine bodyPost_ret (v := .agg #[.slice none 0 0, .int .i64 (i), .int .i64 (61)]) (by simp [results, Tryd.results32, go_sem, kcl1]) rfl ?_
    refine ⟨((hCf.setCell (fun h => absurd h (by simp)) _).setCell (fun h => absurd h (by simp)) _).setCell (fun h => absurd h (by simp)) _, ?_⟩
    rw [HR.out]
    exact ⟨_, _, by decide, rfl⟩
  case false =>
    rw [c96] at h96
    cases c36 : c == 36
    case true =>
      have HR : Hid (R = oneR (dollarR n d (s.data.toList.drop (i + 1)))) := Lib.hid (by
        rw [HE.out, if_neg (by rw [c96]; decide), if_pos c36]
        cases dollarR n d (s.data.toList.drop (i + 1)) <;> rfl)
      rw [c36] at h36
      have hI := IHd W0 s i d hi HH.out.1 HH.out.2.2.1 (by have := HH.out; omega)
      rw [← HR.out] at hI
      clear HE
      go_wp2_with fail
      refine hI.mono ?_
      rintro e w1 ⟨hC1, hm⟩
      cases R with
      | err x y =>
        obtain ⟨a1, e1, he1, rfl⟩ := hm
        have kB := row_chg hrow hC1 (fun e => e)
        have kcl1 := row_cells kB
        have kfr1 := row_free kB
        have hCf : Chg (fun _ => False) w w1 := hC0.trans hC1 (fun _ h _ => h)
        clear kB hC1
        go_wp2
        refine bodyPost_ret (v := .agg #[.slice none 0 0, .int .i64 (a1), .int .i64 (e1)]) (by simp [results, Tryd.results32, go_sem, kcl1]) rfl ?_
        refine ⟨((hCf.setCell (fun h => absurd h (by simp)) _).setCell (fun h => absurd h (by simp)) _).setCell (fun h => absurd h (by simp)) _, ?_⟩
        exact ⟨_, _, he1, rfl⟩
      | ok l rr =>
        obtain ⟨A, cc, j, hj, hrr, rfl, hrep⟩ := hm
        have kB := row_chg hrow hC1 (fun e => e)
        have kcl1 := row_cells kB
        have kfr1 := row_free kB
        have hCf : Chg (fun _ => False) w w1 := hC0.trans hC1 (fun _ h _ => h)
        clear kB hC1
        go_wp2
        refine bodyPost_ret (v := .agg #[.slice A l.length cc, .int .i64 j, .int .i64 0]) (by simp [results, Tryd.results32, go_sem, kcl1]) rfl ?_
        refine read_end (j := j) rfl (((hCf.setCell (fun h => absurd h (by simp)) _).setCell (fun h => absurd h (by simp)) _).setCell (fun h => absurd h (by simp)) _) ?_ hj hrr rfl rfl
        have h3 : Chg (· = w.heap.size) w1 (((w1.setCell ⟨w.heap.size, 0, none⟩ (.slice A l.length cc)).setCell ⟨w.heap.size, 1, none⟩ (.int .i64 j)).setCell ⟨w.heap.size, 2, none⟩ (.int .i64 0)) := (((Chg.refl (· = w.heap.size) w1).setCell (fun _ => rfl) _).setCell (fun _ => rfl) _).setCell (fun _ => rfl) _
        exact (hrep.stay h3 (fun k hk e => by omega)).mono (fun k hk _ => by omega)
    case false =>
      rw [c36] at h36
      have he := HE.out
      rw [if_neg (by rw [c96]; decide), if_neg (by rw [c36]; decide)] at he
      have HE2 := Lib.hid he
      clear HE he
      have hlt2 : decide ((how : Int) < 2) = decide (how < 2) := by
        rw [Bool.eq_iff_iff]; simp; omega
      go_upto_region 6 with fail
      go_cut [44] (fun fv wx => fv = .bool (c == 92 && (decide (how < 2) || dblEsc (s.data.toList.drop (i + 1)))) ∧ wx = W0)
      case first =>
        clear HE2
        cases c92 : c == 92
        · rw [c92] at h92
          go_wp2
          go_meet
          exact ⟨by rw [c92]; simp, rfl⟩
        · rw [c92] at h92
          by_cases hl2 : how < 2
          · have q1 : (how : Int) < 2 := by omega
            go_wp2
            go_meet
            exact ⟨by rw [c92]; simp [hl2], rfl⟩
          · have q1 : ¬ ((how : Int) < 2) := by omega
            have q2 : decide ((how : Int) < 2) = false := by simp; omega
            by_cases hb : i + 1 < s.size
            · have q3 : (i : Int) + 1 < (s.size : Int) := by omega
              have HD := Lib.hid (byte_drop s (i + 1) hb)
              have hsc := fun w => rdblq_calls s[i + 1] w
              have HDE : Hid (dblEsc (s.data.toList.drop (i + 1)) = dblq.contains s[i + 1]) := Lib.hid (by rw [HD.out]; rfl)
              generalize dblq.contains s[i + 1] = db at *
              go_wp2_with (go_at_call 44; refine (hsc _).mono ?_; rintro e w' ⟨rfl, rfl⟩)
              go_meet
              exact ⟨by rw [c92, HDE.out]; simp [hl2], rfl⟩
            · have q3 : decide ((i : Int) + 1 < (s.size : Int)) = false := by simp; omega
              have q4 : (s.size : Int) ≤ (i : Int) + 1 := by omega
              have HDE : Hid (dblEsc (s.data.toList.drop (i + 1)) = false) := Lib.hid (by rw [drop_end s (i + 1) hb]; rfl)
              go_wp2
              go_meet
              exact ⟨by rw [c92, HDE.out]; simp [hl2], rfl⟩
      case rest =>
        obtain ⟨hfv, hw⟩ := hcut
        subst hfv
        rw [hw]
        clear hw
        have he := HE2.out
        cases b44 : (c == 92 && (decide (how < 2) || dblEsc (s.data.toList.drop (i + 1))))
        case true =>
          rw [if_pos b44] at he
          clear HE2 b44
          by_cases hb : i + 1 < s.size
          · have q3 : (i : Int) + 1 < (s.size : Int) := by omega
            have HD := Lib.hid (byte_drop s (i + 1) hb)
            have h10 : ((s[i + 1].toNat : Int) == 10) = (s[i + 1] == 10) := byte_eqn s[i + 1] 10 (by decide)
            have HX2 := Lib.hid (extract_one s (i + 1) hb)
            rw [HD.out] at he
            have t2 : ((i : Int) + 2).toNat = i + 2 := by omega
            have p3 : (i : Int) + 1 ≤ (i : Int) + 2 := by omega
            have p4 : (i : Int) + 2 ≤ (s.size : Int) := by omega
            cases c10 : s[i + 1] == 10
            case true =>
              rw [c10] at h10
              have HR : Hid (R = .ok [] (s.data.toList.drop (i + 2))) := Lib.hid (by rw [he]; simp only [c10, if_true])
              clear he
              go_wp2
              refine bodyPost_ret (v := .agg #[.slice none 0 0, .int .i64 ((i : Int) + 2), .int .i64 0]) (by simp [results, Tryd.results32, go_sem, kcl]) rfl ?_
              exact read_end (l := []) (j := i + 2) HR.out (((hC0.setCell (fun h => absurd h (by simp)) _).setCell (fun h => absurd h (by simp)) _).setCell (fun h => absurd h (by simp)) _) ⟨none, 0, [], rfl, Nat.le_refl _, by simp [maxLen], by simp [Rd], rfl⟩ (by omega) rfl rfl (by omega)
            case false =>
              rw [c10] at h10
              have HR : Hid (R = .ok [lit [s[i + 1]] true] (s.data.toList.drop (i + 2))) := Lib.hid (by rw [he]; simp only [c10, Bool.false_eq_true, if_false])
              clear he
              go_wp2_with fail
              refine (rlit_calls _ _ _).mono ?_
              rintro e w1 ⟨rfl, rfl⟩
              go_wp2
              refine bodyPost_ret (v := .agg #[.slice (some ⟨W0.heap.size, 0, none⟩) 1 1, .int .i64 ((i : Int) + 2), .int .i64 0]) (by simp [results, Tryd.results32, go_sem, kcl, cell_alloc_old, hlw]) rfl ?_
              refine read_end (j := i + 2) HR.out ((((hC0.setCell (fun h => absurd h (by simp)) _).setCell (fun h => absurd h (by simp)) _).setCell (fun h => absurd h (by simp)) _).alloc _) ?_ (by omega) rfl rfl (by omega)
              have := one_text (w := w) (V := (((W0.setCell ⟨w.heap.size, 0, none⟩ (.slice (some ⟨W0.heap.size, 0, none⟩) 1 1)).setCell ⟨w.heap.size, 1, none⟩ (.int .i64 ((i : Int) + 2))).setCell ⟨w.heap.size, 2, none⟩ (.int .i64 0))) (k := 1) (q := true) HX2.out (by simp; omega)
              simpa [lit] using this
          · have q3 : (s.size : Int) ≤ (i : Int) + 1 := by omega
            have q4 : decide ((s.size : Int) ≤ (i : Int) + 1) = true := by simp; omega
            have HR : Hid (R = .err 1 60) := Lib.hid (by rw [he, drop_end s (i + 1) hb])
            clear he
            go_wp2_with fail
            refine (rfault_calls _ _ _).mono ?_
            rintro e w1 ⟨rfl, hC1⟩
            have kB := row_chg hrow hC1 (fun e => e)
            have kcl1 := row_cells kB
            have kfr1 := row_free kB
            have hCf : Chg (fun _ => False) w w1 := hC0.trans hC1 (fun _ h _ => h)
            clear kB hC1
            go_wp2
            refine bodyPost_ret (v := .agg #[.slice none 0 0, .int .i64 (i), .int .i64 (60)]) (by simp [results, Tryd.results32, go_sem, kcl1]) rfl ?_
            refine ⟨((hCf.setCell (fun h => absurd h (by simp)) _).setCell (fun h => absurd h (by simp)) _).setCell (fun h => absurd h (by simp)) _, ?_⟩
            rw [HR.out]
            exact ⟨_, _, by decide, rfl⟩
        case false =>
          rw [if_neg (by rw [b44]; decide)] at he
          clear HE2 b44
          by_cases hl2 : how < 2
          · have q1 : (how : Int) < 2 := by omega
            cases c39 : c == 39
            case true =>
              rw [c39] at h39
              rw [if_pos (by rw [c39]; simp [hl2])] at he
              have HE3 := Lib.hid he
              clear he
              go_wp2
              go_loop [10] (fun kv => ∃ k : Nat, i + 1 ≤ k ∧ k ≤ s.size ∧ kv = .int .i64 k ∧ Hid (idx 39 (s.data.toList.drop (i + 1)) = (idx 39 (s.data.toList.drop k)).map (· + (k - (i + 1))))) (fun kv => s.size - (intOf kv).toNat)
              case atStart => exact ⟨i + 1, by omega, by omega, by go_num, Lib.hid (by rw [Nat.sub_self]; cases idx 39 (s.data.toList.drop (i + 1)) <;> rfl)⟩
              case round =>
                obtain ⟨k, hk1, hk2, rfl, HI⟩ := hrel
                by_cases hlt : k < s.size
                · have HD := Lib.hid (byte_drop s k hlt)
                  have z1 : (0 : Int) ≤ (k : Int) := by omega
                  have z2 : (k : Int) < (s.size : Int) := by omega
                  have z3 : IntKind.i64.wrap ((k : Int) + 1) = (k : Int) + 1 := IntWalk.i64_in _ (by have := HH.out.1; omega)
                  have z4 : ((s[k].toNat : Int) == 39) = (s[k] == 39) := byte_eqn s[k] 39 (by decide)
                  cases k39 : s[k] == 39
                  case true =>
                    rw [k39] at z4
                    have HR : Hid (R = .ok [lit ((s.data.toList.drop (i + 1)).take (k - (i + 1))) true] (s.data.toList.drop (k + 1))) := Lib.hid (by
                      rw [HE3.out, HI.out, HD.out, idx, if_pos k39]
                      simp only [Option.map_some, Nat.zero_add, List.drop_drop]
                      rw [show i + 1 + (k - (i + 1) + 1) = k + 1 by omega])
                    have HX3 := Lib.hid (extract_bstr s (i + 1) k)
                    have z5 : (i : Int) + 1 ≤ (k : Int) := by omega
                    have z6 : (k : Int) ≤ (s.size : Int) := by omega
                    go_wp2_with fail
                    refine (rlit_calls _ _ _).mono ?_
                    rintro e w1 ⟨rfl, rfl⟩
                    go_wp2
                    refine bodyPost_ret (v := .agg #[.slice (some ⟨W0.heap.size, 0, none⟩) 1 1, .int .i64 ((k : Int) + 1), .int .i64 0]) (by simp [results, Tryd.results32, go_sem, kcl, cell_alloc_old, hlw]) rfl ?_
                    refine read_end (j := k + 1) HR.out ((((hC0.setCell (fun h => absurd h (by simp)) _).setCell (fun h => absurd h (by simp)) _).setCell (fun h => absurd h (by simp)) _).alloc _) ?_ (by omega) rfl rfl (by omega)
                    have := one_text (w := w) (V := (((W0.setCell ⟨w.heap.size, 0, none⟩ (.slice (some ⟨W0.heap.size, 0, none⟩) 1 1)).setCell ⟨w.heap.size, 1, none⟩ (.int .i64 ((k : Int) + 1))).setCell ⟨w.heap.size, 2, none⟩ (.int .i64 0))) (k := 1) (q := true) HX3.out (by simp; omega)
                    simpa [lit] using this
                  case false =>
                    rw [k39] at z4
                    go_wp2
                    go_round
                    case rel => exact ⟨k + 1, by omega, by omega, by go_num, Lib.hid (by
                      rw [HI.out, HD.out, idx, if_neg (by rw [k39]; decide), Option.map_map]
                      congr 1
                      funext x
                      show x + 1 + (k - (i + 1)) = x + (k + 1 - (i + 1))
                      omega)⟩
                    case measure => simp [intOf]; omega
                · have HR : Hid (R = .err ((s.data.toList.drop (i + 1)).length + 1) 60) := Lib.hid (by rw [HE3.out, HI.out, drop_end s k hlt]; rfl)
                  have z2 : decide ((k : Int) < (s.size : Int)) = false := by simp; omega
                  go_wp2_with fail
                  refine (rfault_calls _ _ _).mono ?_
                  rintro e w1 ⟨rfl, hC1⟩
                  have kB := row_chg hrow hC1 (fun e => e)
                  have kcl1 := row_cells kB
                  have kfr1 := row_free kB
                  have hCf : Chg (fun _ => False) w w1 := hC0.trans hC1 (fun _ h _ => h)
                  clear kB hC1
                  go_wp2
                  refine bodyPost_ret (v := .agg #[.slice none 0 0, .int .i64 (i), .int .i64 (60)]) (by simp [results, Tryd.results32, go_sem, kcl1]) rfl ?_
                  refine ⟨((hCf.setCell (fun h => absurd h (by simp)) _).setCell (fun h => absurd h (by simp)) _).setCell (fun h => absurd h (by simp)) _, ?_⟩
                  rw [HR.out]
                  exact ⟨_, _, by decide, rfl⟩
            case false =>
              rw [c39] at h39
              rw [if_neg (by rw [c39]; simp)] at he
              cases c34 : c == 34
              case true =>
                rw [c34] at h34
                rw [if_pos (by rw [c34]; simp [hl2])] at he
                obtain ⟨n', hn'⟩ : ∃ n', n = n' + 1 := ⟨n - 1, by have := HH.out.2.2.2; omega⟩
                subst hn'
                have hpt : ∀ V, Calls Tryd.prog 20 #[.string s, .int .i64 ((i : Int) + 1), .int .i64 2, .int .i64 d] V (ReadPost V s (partsR (n' + 1) 2 d [] (s.data.toList.drop (i + 1)))) := fun V => IHp V s (i + 1) 2 d (by omega) HH.out.1 (by omega) HH.out.2.2.1 (by have := HH.out.2.2.2; omega)
                have hpl : ∀ l r', partsR (n' + 1) 2 d [] (s.data.toList.drop (i + 1)) = .ok l r' → Part.wts l ≤ 20000 := fun l r' h => by
                  have h1 := parts_len _ _ _ _ _ _ _ h
                  rw [drop_len] at h1
                  have := HH.out.1
                  simp only [Part.wts] at h1
                  omega
                simp only at he
                generalize partsR (n' + 1) 2 d [] (s.data.toList.drop (i + 1)) = R2 at *
                have HE3 := Lib.hid he
                clear he
                go_wp2_with fail
                refine (hpt _).mono ?_
                rintro e w6 ⟨hC6, hm⟩
                have hrow6 := row_chg hrow hC6 (fun e => e)
                have hC06 : Chg (fun _ => False) w w6 := hC0.trans hC6 (fun _ h _ => h)
                have hw6 := row_lt hrow6
                clear kcl kfr hC0 hrow hpt
                cases R2 with
                | err x y =>
                  obtain ⟨a1, e1, he1, rfl⟩ := hm
                  have v1 : (e1 != 0) = true := by simpa using he1
                  have v2 : (e1 == 0) = false := by simpa using he1
                  have kcl1 := row_cells hrow6
                  have kfr1 := row_free hrow6
                  have HR : Hid (R = .err x y) := Lib.hid (by rw [HE3.out])
                  go_wp2
                  refine bodyPost_ret (v := .agg #[.slice none 0 0, .int .i64 a1, .int .i64 e1]) (by simp [results, Tryd.results32, go_sem, kcl1, cell_alloc_old, hw6]) rfl ?_
                  refine ⟨(((hC06.setCell (fun h => absurd h (by simp)) _).setCell (fun h => absurd h (by simp)) _).setCell (fun h => absurd h (by simp)) _).alloc _, ?_⟩
                  rw [HR.out]
                  exact ⟨_, _, he1, rfl⟩
                | ok l rr =>
                  obtain ⟨A, cc, j, hj, hrr, rfl, hrep⟩ := hm
                  have hwl := hpl l rr rfl
                  have HRR := Lib.hid hrr
                  have HREP := Lib.hid hrep
                  have hW0 := hC6.size
                  clear hrr hrep hpl hC6
                  go_upto_region 23 with fail
                  have hC7 : Chg (fun _ => False) w (w6.alloc (.cells #[.slice A l.length cc, .int .i64 j, .int .i64 0] 37)) := hC06.alloc _
                  have hY7 := row_new w6 (.cells #[.slice A l.length cc, .int .i64 j, .int .i64 0] 37)
                  have hR7 := row_alloc hrow6 (.cells #[.slice A l.length cc, .int .i64 j, .int .i64 0] 37)
                  have HREP7 := Lib.hid (HREP.out.stay ((Chg.refl (fun _ => False) _).alloc (.cells #[.slice A l.length cc, .int .i64 j, .int .i64 0] 37)) (fun _ _ e => e))
                  generalize w6.alloc (.cells #[.slice A l.length cc, .int .i64 j, .int .i64 0] 37) = W7 at *
                  have kclY := row_cells hY7
                  clear HREP hrow6 hC06
                  by_cases hjl : j < s.size
                  · have HDJ := Lib.hid (byte_drop s j hjl)
                    have v1 : decide ((s.size : Int) ≤ (j : Int)) = false := by simp; omega
                    have v2 : IntKind.i64.wrap ((j : Int) + 1) = (j : Int) + 1 := IntWalk.i64_in _ (by have := HH.out.1; omega)
                    by_cases hje : j = i + 1
                    · have HR : Hid (R = .ok [lit [] true] (s.data.toList.drop (i + 2))) := Lib.hid (by
                        rw [HE3.out, HRR.out, HDJ.out]
                        simp only [drop_len]
                        rw [if_pos (by simp; omega), hje])
                      have v3 : ((j : Int) == (i : Int) + 1) = true := by simp; omega
                      generalize W7 = W0 at *
                      have hC0 := hC7
                      have hrow := hR7
                      have kcl := row_cells hrow
                      have kfr := row_free hrow
                      have hlw := row_lt hrow
                      have hjj := Lib.hid (And.intro hjl hje)
                      clear hje
                      go_wp2_with fail
                      refine (rlit_calls _ _ _).mono ?_
                      rintro e w1 ⟨rfl, rfl⟩
                      go_wp2
                      have hj3 := hjj.out
                      refine bodyPost_ret (v := .agg #[.slice (some ⟨W0.heap.size, 0, none⟩) 1 1, .int .i64 ((i : Int) + 2), .int .i64 0]) (by simp [results, Tryd.results32, go_sem, kcl, cell_alloc_old, hlw]) rfl ?_
                      refine read_end (j := i + 2) HR.out ((((hC0.setCell (fun h => absurd h (by simp)) _).setCell (fun h => absurd h (by simp)) _).setCell (fun h => absurd h (by simp)) _).alloc _) ?_ (by omega) rfl rfl (by omega)
                      have := one_text (w := w) (V := (((W0.setCell ⟨w.heap.size, 0, none⟩ (.slice (some ⟨W0.heap.size, 0, none⟩) 1 1)).setCell ⟨w.heap.size, 1, none⟩ (.int .i64 ((i : Int) + 2))).setCell ⟨w.heap.size, 2, none⟩ (.int .i64 0))) (k := 1) (q := true) (rfl : (⟨#[]⟩ : ByteArray) = bstr []) (by simp; omega)
                      simpa [lit] using this
                    · have HR : Hid (R = .ok (allL [] l) (s.data.toList.drop (j + 1))) := Lib.hid (by
                        have hij : (s.data.toList.drop (j + 1)).length + 1 ≠ (s.data.toList.drop (i + 1)).length := by rw [drop_len, drop_len]; omega
                        rw [HE3.out, HRR.out, HDJ.out]
                        simp only []
                        rw [if_neg (by simpa using hij)])
                      have v3 : ((j : Int) == (i : Int) + 1) = false := by simp; omega
                      have hY0 := kclY 0
                      have hY1 := kclY 1
                      have hR7w := row_lt hR7
                      have hYX : w6.heap.size ≠ w.heap.size := by omega
                      go_upto_region 27 with fail
                      go_region_held3 (fun w' => w'.cell? ⟨w6.heap.size, 0, none⟩ = some (.slice A l.length cc) ∧ w'.cell? ⟨w6.heap.size, 1, none⟩ = some (.int .i64 j))
                        (first
                          | go_keep
                          | (go_split_ands; exact ⟨hC8.cell (by assumption) (fun e => e), hC8.cell (by assumption) (fun e => e)⟩)
                          | (exact ⟨hC8.cell (kclY 0) (fun e => e), hC8.cell (kclY 1) (fun e => e)⟩)
                          | (exact ⟨cell_set3 hYX _ _ _ (hC8.cell (kclY 0) (fun e => e)), cell_set3 hYX _ _ _ (hC8.cell (kclY 1) (fun e => e))⟩))
                        (first
                          | (go_at_call 47; (refine (quoted_calls _ (fun k => W0.heap.size ≤ k) _ l (by omega) (HREP7.out.stay ((Chg.refl (fun _ => False) _).drew) (fun _ _ e => e))).mono ?_); rintro e w8 ⟨u, rfl, hu, hC8⟩; obtain ⟨Au, cu, rfl⟩ := sl_form2 hu; (have hR8 := row_chg (w := W7.drew) hR7 hC8 (fun e => e)); (have kcl8 := row_cells hR8); (have kfr8 := row_free hR8)))
                      all_goals go_wp2
                      all_goals
                        refine bodyPost_ret (v := .agg #[.slice Au (Part.ds (allL [] l)).length cu, .int .i64 ((j : Int) + 1), .int .i64 0]) (by simp [results, Tryd.results32, go_sem, kcl8]) rfl ?_
                        have hC8b : Chg (fun _ => False) w w8 := hC7.drew.trans hC8 (fun _ h _ => h)
                        have h3 : Chg (· = w.heap.size) w8 (((w8.setCell ⟨w.heap.size, 0, none⟩ (.slice Au (Part.ds (allL [] l)).length cu)).setCell ⟨w.heap.size, 1, none⟩ (.int .i64 ((j : Int) + 1))).setCell ⟨w.heap.size, 2, none⟩ (.int .i64 0)) := (((Chg.refl (· = w.heap.size) w8).setCell (fun _ => rfl) _).setCell (fun _ => rfl) _).setCell (fun _ => rfl) _
                        have hR7w : w.heap.size < W7.drew.heap.size := row_lt hR7
                        refine read_end (l := allL [] l) (j := j + 1) HR.out (((hC8b.setCell (fun h => absurd h (by simp)) _).setCell (fun h => absurd h (by simp)) _).setCell (fun h => absurd h (by simp)) _) ((hu.stay h3 (fun k hk e => by omega)).mono (fun k hk _ => by omega)) (by omega) rfl (by rw [Part.ds_length]) (by omega)
                  · have HR : Hid (R = .err ((s.data.toList.drop (i + 1)).length + 1) 60) := Lib.hid (by rw [HE3.out, HRR.out, drop_end s j hjl])
                    have v1 : decide ((s.size : Int) ≤ (j : Int)) = true := by simp; omega
                    have v2 : (s.size : Int) ≤ (j : Int) := by omega
                    have hC0 := hC7
                    have hrow := hR7
                    go_wp2_with fail
                    refine (rfault_calls _ _ _).mono ?_
                    rintro e w1 ⟨rfl, hC1⟩
                    have kB := row_chg hrow hC1 (fun e => e)
                    have kcl1 := row_cells kB
                    have kfr1 := row_free kB
                    have hCf : Chg (fun _ => False) w w1 := hC0.trans hC1 (fun _ h _ => h)
                    clear kB hC1
                    go_wp2
                    refine bodyPost_ret (v := .agg #[.slice none 0 0, .int .i64 (i), .int .i64 (60)]) (by simp [results, Tryd.results32, go_sem, kcl1]) rfl ?_
                    refine ⟨((hCf.setCell (fun h => absurd h (by simp)) _).setCell (fun h => absurd h (by simp)) _).setCell (fun h => absurd h (by simp)) _, ?_⟩
                    rw [HR.out]
                    exact ⟨_, _, by decide, rfl⟩
              case false =>
                rw [c34] at h34
                rw [if_neg (by rw [c34]; simp)] at he
                have HR : Hid (R = .ok [lit [c] false] (s.data.toList.drop (i + 1))) := Lib.hid he
                clear he
                have p5 : (i : Int) ≤ (i : Int) + 1 := by omega
                have p6 : (i : Int) + 1 ≤ (s.size : Int) := by omega
                go_wp2_with fail
                refine (rlit_calls _ _ _).mono ?_
                rintro e w1 ⟨rfl, rfl⟩
                go_wp2
                refine bodyPost_ret (v := .agg #[.slice (some ⟨W0.heap.size, 0, none⟩) 1 1, .int .i64 ((i : Int) + 1), .int .i64 0]) (by simp [results, Tryd.results32, go_sem, kcl, cell_alloc_old, hlw]) rfl ?_
                refine read_end (j := i + 1) HR.out ((((hC0.setCell (fun h => absurd h (by simp)) _).setCell (fun h => absurd h (by simp)) _).setCell (fun h => absurd h (by simp)) _).alloc _) ?_ (by omega) rfl rfl (by omega)
                have := one_text (w := w) (V := (((W0.setCell ⟨w.heap.size, 0, none⟩ (.slice (some ⟨W0.heap.size, 0, none⟩) 1 1)).setCell ⟨w.heap.size, 1, none⟩ (.int .i64 ((i : Int) + 1))).setCell ⟨w.heap.size, 2, none⟩ (.int .i64 0))) (k := 1) (q := false) HX1.out (by simp; omega)
                simpa [lit] using this
          · have q1 : decide ((how : Int) < 2) = false := by simp; omega
            have q2 : ¬ ((how : Int) < 2) := by omega
            rw [if_neg (by simp [hl2]), if_neg (by simp [hl2])] at he
            have HR : Hid (R = .ok [lit [c] false] (s.data.toList.drop (i + 1))) := Lib.hid he
            clear he
            have p5 : (i : Int) ≤ (i : Int) + 1 := by omega
            have p6 : (i : Int) + 1 ≤ (s.size : Int) := by omega
            go_wp2_with fail
            refine (rlit_calls _ _ _).mono ?_
            rintro e w1 ⟨rfl, rfl⟩
            go_wp2
            refine bodyPost_ret (v := .agg #[.slice (some ⟨W0.heap.size, 0, none⟩) 1 1, .int .i64 ((i : Int) + 1), .int .i64 0]) (by simp [results, Tryd.results32, go_sem, kcl, cell_alloc_old, hlw]) rfl ?_
            refine read_end (j := i + 1) HR.out ((((hC0.setCell (fun h => absurd h (by simp)) _).setCell (fun h => absurd h (by simp)) _).setCell (fun h => absurd h (by simp)) _).alloc _) ?_ (by omega) rfl rfl (by omega)
            have := one_text (w := w) (V := (((W0.setCell ⟨w.heap.size, 0, none⟩ (.slice (some ⟨W0.heap.size, 0, none⟩) 1 1)).setCell ⟨w.heap.size, 1, none⟩ (.int .i64 ((i : Int) + 1))).setCell ⟨w.heap.size, 2, none⟩ (.int .i64 0))) (k := 1) (q := false) HX1.out (by simp; omega)
            simpa [lit] using this
end Go.Proofs.YtdfnkmiabmjolaaDoor
namespace Go.Proofs.YtdfnkmiabmjolaaDoor
open Go.RowKit
set_option linter.unusedVariables false
set_option linter.unusedSimpArgs false

set_option maxRecDepth 100000 in
set_option maxHeartbeats 40000000 in
theorem rparts_step (n : Nat) (IH : ∀ m, m ≤ n → RNextSaid m) : RPartsSaid (n + 1) := by
  intro w s i how d hi hs hh hd hf
  generalize hR : partsR (n + 1) how d [] (s.data.toList.drop i) = R
  have HR0 := Lib.hid hR
  clear hR
  have HH := Lib.hid (And.intro hs (And.intro hh hd))
  go_enter Tryd.func20, Tryd.ntmps20
  go_wp2
  have hC0 : Chg (fun _ => False) w (w.alloc (.cells #[.slice none 0 0, .int .i64 0, .int .i64 0] 37)) := (Chg.refl _ w).alloc _
  have hrow0 := row_new w (.cells #[.slice none 0 0, .int .i64 0, .int .i64 0] 37)
  generalize w.alloc (.cells #[.slice none 0 0, .int .i64 0, .int .i64 0] 37) = W0 at *
  go_loopg [1, 9] (s.size - i) (fun rk iv lv wr => ∃ (j m : Nat) (l : List Part), j + rk = s.size ∧ iv = .int .i64 j ∧ 4 * (s.size - j) + 3 ≤ m ∧ m ≤ n + 1 ∧ Part.wts l + 2 * (s.size - j) ≤ 20000 ∧ Hid (R = partsR m how d l (s.data.toList.drop j)) ∧
    Rep wr (fun k => w.heap.size < k) (.sl 32 5 (Part.ds l)) [lv] ∧ wr.heap[w.heap.size]? = some (.cells #[.slice none 0 0, .int .i64 0, .int .i64 0] 37 (0, 0)) ∧ Chg (fun _ => False) w wr)
  case atStart => exact ⟨i, n + 1, [], by omega, rfl, hf, Nat.le_refl _, by simp only [Part.wts]; omega, Lib.hid HR0.out.symm, ⟨none, 0, [], rfl, Nat.le_refl _, by simp [maxLen], by simp [Rd], rfl⟩, hrow0, hC0⟩
  case round =>
    clear hrow0 hC0 HR0
    obtain ⟨j, m, l, hj, rfl, hm, hmn, hwt, HR1, hrep, hrow, hC⟩ := hrel
    generalize wr = W at *
    obtain ⟨A, c0, rfl⟩ := sl_form2 hrep
    rw [Part.ds_length] at hrep ⊢
    by_cases hlt : j < s.size
    · obtain ⟨m', rfl⟩ : ∃ m', m = m' + 1 := ⟨m - 1, by omega⟩
      have HRs : Hid (stopR how s[j] = true → R = .ok l (s.data.toList.drop j)) := Lib.hid (fun h => by rw [HR1.out, byte_drop s j hlt, partsR, if_pos h])
      have HRn : Hid (stopR how s[j] = false → ∀ x r', nextR m' how d s[j] (s.data.toList.drop (j + 1)) = .ok x r' → R = partsR m' how d (joinL l x) r') := Lib.hid (fun h x r' h2 => by rw [HR1.out, byte_drop s j hlt, partsR, if_neg (by rw [h]; decide), h2])
      have HRe : Hid (stopR how s[j] = false → ∀ a e, nextR m' how d s[j] (s.data.toList.drop (j + 1)) = .err a e → R = .err a e) := Lib.hid (fun h a e h2 => by rw [HR1.out, byte_drop s j hlt, partsR, if_neg (by rw [h]; decide), h2])
      have hnx := fun V => IH m' (by omega) V s j how d hlt HH.out.1 HH.out.2.1 HH.out.2.2 (by omega)
      have hnl := nextR_len m' how d s[j] (s.data.toList.drop (j + 1))
      rw [drop_len] at hnl
      generalize nextR m' how d s[j] (s.data.toList.drop (j + 1)) = R2 at *
      have hj0 : (0 : Int) ≤ (j : Int) := by omega
      have hj1 : (j : Int) < (s.size : Int) := by omega
      have q1 : decide ((j : Int) < (s.size : Int)) = true := by simp; omega
      go_upto_region 4 with fail
      go_cut [40] (fun fv wx => fv = .bool (stopR how s[j]) ∧ wx = W)
      case first =>
        have hh2 := HH.out.2.1
        have h125 : ((s[j].toNat : Int) == 125) = (s[j] == 125) := byte_eqn s[j] 125 (by decide)
        have h34 : ((s[j].toNat : Int) == 34) = (s[j] == 34) := byte_eqn s[j] 34 (by decide)
        have hmt := fun V => rmeta_calls s[j] V
        clear HRs HRn HRe hnx hnl HR1 HH
        rcases (by omega : how = 0 ∨ how = 1 ∨ how = 2) with rfl | rfl | rfl
        · have HS : Hid (stopR 0 s[j] = metaB s[j]) := Lib.hid rfl
          generalize metaB s[j] = b at *
          cases b
          all_goals
            go_wp2_with (go_at_call 31; refine (hmt _).mono ?_; rintro e w' ⟨rfl, rfl⟩)
            go_meet
            exact ⟨by rw [HS.out], rfl⟩
        · have HS : Hid (stopR 1 s[j] = (s[j] == 125)) := Lib.hid rfl
          generalize (s[j] == 125) = b at *
          cases b
          all_goals
            go_wp2
            go_meet
            exact ⟨by rw [HS.out], rfl⟩
        · have HS : Hid (stopR 2 s[j] = (s[j] == 34)) := Lib.hid rfl
          generalize (s[j] == 34) = b at *
          cases b
          all_goals
            go_wp2
            go_meet
            exact ⟨by rw [HS.out], rfl⟩
      case rest =>
        obtain ⟨hfv, hw⟩ := hcut
        subst hfv
        rw [hw]
        clear hw
        cases hst : stopR how s[j]
        case true =>
          have HR := Lib.hid (HRs.out hst)
          have kcl := row_cells hrow
          have kfr := row_free hrow
          go_wp2
          refine bodyPost_ret (v := .agg #[.slice A l.length c0, .int .i64 j, .int .i64 0]) (by simp [results, Tryd.results20, go_sem, kcl]) rfl ?_
          have h3 : Chg (· = w.heap.size) W (((W.setCell ⟨w.heap.size, 0, none⟩ (.slice A l.length c0)).setCell ⟨w.heap.size, 1, none⟩ (.int .i64 j)).setCell ⟨w.heap.size, 2, none⟩ (.int .i64 0)) := (((Chg.refl (· = w.heap.size) W).setCell (fun _ => rfl) _).setCell (fun _ => rfl) _).setCell (fun _ => rfl) _
          exact read_end (j := j) HR.out (((hC.setCell (fun h => absurd h (by simp)) _).setCell (fun h => absurd h (by simp)) _).setCell (fun h => absurd h (by simp)) _) ((hrep.stay h3 (fun k hk e => by omega)).mono (fun k hk _ => by omega)) (by omega) rfl rfl rfl
        case false =>
          have HRn2 := Lib.hid (HRn.out hst)
          have HRe2 := Lib.hid (HRe.out hst)
          clear HRn HRe HRs
          go_wp2_with fail
          refine (hnx W).mono ?_
          rintro e w6 ⟨hC6, hm6⟩
          have hrow6 := row_chg hrow hC6 (fun e => e)
          have hC06 : Chg (fun _ => False) w w6 := hC.trans hC6 (fun _ h _ => h)
          have hw6 := row_lt hrow6
          have hwW := row_lt hrow
          have hrep6 := hrep.stay hC6 (fun _ _ e => e)
          clear hrep hrow hC hnx
          cases R2 with
          | err x y =>
            obtain ⟨a1, e1, he1, rfl⟩ := hm6
            have v1 : (e1 != 0) = true := by simpa using he1
            have v2 : (e1 == 0) = false := by simpa using he1
            have kcl1 := row_cells hrow6
            have kfr1 := row_free hrow6
            have HR : Hid (R = .err x y) := Lib.hid (HRe2.out x y rfl)
            clear hrep6
            go_wp2
            refine bodyPost_ret (v := .agg #[.slice none 0 0, .int .i64 a1, .int .i64 e1]) (by simp [results, Tryd.results20, go_sem, kcl1, cell_alloc_old, hw6]) rfl ?_
            refine ⟨(((hC06.setCell (fun h => absurd h (by simp)) _).setCell (fun h => absurd h (by simp)) _).setCell (fun h => absurd h (by simp)) _).alloc _, ?_⟩
            rw [HR.out]
            exact ⟨_, _, he1, rfl⟩
          | ok x rr =>
            obtain ⟨A2, cc, j2, hj2, hrr, rfl, hrep2⟩ := hm6
            have hl2 := hnl rr x rfl
            have HR := Lib.hid (HRn2.out x rr rfl)
            rw [hrr] at HR
            have hl3 : rr.length = s.size - j2 := by rw [hrr, drop_len]
            have hwx := joinL_wt x l
            have HWX := Lib.hid (And.intro hl2 (And.intro hl3 hwx))
            clear hrr hl3 hl2 hnl
            have hC7 : Chg (fun _ => False) w (w6.alloc (.cells #[.slice A2 x.length cc, .int .i64 j2, .int .i64 0] 37)) := hC06.alloc _
            have hR7 := row_alloc hrow6 (.cells #[.slice A2 x.length cc, .int .i64 j2, .int .i64 0] 37)
            have hY7 := row_new w6 (.cells #[.slice A2 x.length cc, .int .i64 j2, .int .i64 0] 37)
            have z1 := hrep6.stay ((Chg.refl (fun _ => False) _).alloc (.cells #[.slice A2 x.length cc, .int .i64 j2, .int .i64 0] 37)) (fun _ _ e => e)
            have z2 := (hrep2.stay ((Chg.refl (fun _ => False) _).alloc (.cells #[.slice A2 x.length cc, .int .i64 j2, .int .i64 0] 37)) (fun _ _ e => e)).mono (S' := fun k => w.heap.size < k) (fun k hk _ => by omega)
            have Z1 := Lib.hid z1
            have Z2 := Lib.hid z2
            clear z1 z2 hrep6 hrep2
            go_wp2_with fail
            generalize w6.alloc (.cells #[.slice A2 x.length cc, .int .i64 j2, .int .i64 0] 37) = W7 at *
            have kclY := row_cells hY7
            have h7w := row_lt hR7
            refine (join_calls W7 (fun k => w.heap.size < k) _ _ l x (by have := HWX.out; omega) Z1.out Z2.out).mono ?_
            rintro e w8 ⟨v8, rfl, hv8, hC8⟩
            have hR8 := row_chg hR7 hC8 (fun e => e)
            have hY8 := row_chg hY7 hC8 (fun e => e)
            have kcl8 := row_cells hY8
            have hC9 := hC7.trans hC8 (fun _ h _ => h)
            clear kclY hY7 hR7 hC7
            go_wp2
            go_roundg (s.size - j2)
            case measure => have := HWX.out; omega
            case rel => exact ⟨j2, m', joinL l x, by omega, rfl, by have := HWX.out; omega, by omega, by have := HWX.out; omega, HR, hv8.mono (fun k hk _ => by omega), hR8, hC9⟩
    · have HR : Hid (R = .ok l (s.data.toList.drop j)) := Lib.hid (by
        rw [HR1.out, drop_end s j hlt]
        cases m with
        | zero => omega
        | succ m => rw [partsR])
      have q1 : decide ((j : Int) < (s.size : Int)) = false := by simp; omega
      have kcl := row_cells hrow
      have kfr := row_free hrow
      go_wp2
      refine bodyPost_ret (v := .agg #[.slice A l.length c0, .int .i64 j, .int .i64 0]) (by simp [results, Tryd.results20, go_sem, kcl]) rfl ?_
      have h3 : Chg (· = w.heap.size) W (((W.setCell ⟨w.heap.size, 0, none⟩ (.slice A l.length c0)).setCell ⟨w.heap.size, 1, none⟩ (.int .i64 j)).setCell ⟨w.heap.size, 2, none⟩ (.int .i64 0)) := (((Chg.refl (· = w.heap.size) W).setCell (fun _ => rfl) _).setCell (fun _ => rfl) _).setCell (fun _ => rfl) _
      exact read_end (j := j) HR.out (((hC.setCell (fun h => absurd h (by simp)) _).setCell (fun h => absurd h (by simp)) _).setCell (fun h => absurd h (by simp)) _) ((hrep.stay h3 (fun k hk e => by omega)).mono (fun k hk _ => by omega)) (by omega) rfl rfl rfl
end Go.Proofs.YtdfnkmiabmjolaaDoor
namespace Go.Proofs.YtdfnkmiabmjolaaDoor
open Go.RowKit
set_option linter.unusedVariables false
set_option linter.unusedSimpArgs false

structure RKnot (n : Nat) : Prop where
  parts : RPartsSaid n
  dollar : RDollarSaid n
  braces : BracesSaid n
  next : RNextSaid n
theorem rknot_all : ∀ n, ∀ m, m ≤ n → RKnot m
  | 0, m, h => by
    have : m = 0 := by omega
    subst this
    exact ⟨fun _ _ _ _ _ _ _ _ _ h => by omega, fun _ _ _ _ h _ _ h' => by omega, fun _ _ _ _ h _ _ h' => by omega, fun _ _ _ _ _ h _ _ _ h' => by omega⟩
  | n + 1, m, h => by
    by_cases hm : m ≤ n
    · exact rknot_all n m hm
    · have : m = n + 1 := by omega
      subst this
      have ih := rknot_all n
      have hp := rparts_step n (fun m hm => (ih m hm).next)
      have hd := rdollar_step n (ih n (Nat.le_refl _)).braces
      exact ⟨hp, hd, rbraces_step n (ih n (Nat.le_refl _)).parts, rnext_step (n + 1) hd hp⟩
set_option maxRecDepth 100000 in
set_option maxHeartbeats 8000000 in
theorem rscan_calls (w : World) (s : ByteArray) (hs : s.size ≤ 8192) :
    Calls Tryd.prog 13 #[.string s, .int .i64 0] w (ReadPost w s (scanR s.data.toList)) := by
  have hp : ∀ V, Calls Tryd.prog 20 #[.string s, .int .i64 0, .int .i64 0, .int .i64 0] V (ReadPost V s (scanR s.data.toList)) := fun V =>
    (rknot_all (fuel s.data.toList) _ (Nat.le_refl _)).parts V s 0 0 0 (by omega) hs (by omega) (by omega) (by unfold fuel; rw [len_data]; omega)
  generalize scanR s.data.toList = R at *
  have q1 : decide ((8192 : Int) < (s.size : Int)) = false := by simp; omega
  have q2 : decide ((s.size : Int) < 0) = false := by simp
  go_enter Tryd.func13, Tryd.ntmps13
  go_wp2_with fail
  have hC0 : Chg (fun _ => False) w (w.alloc (.cells #[.slice none 0 0, .int .i64 0, .int .i64 0] 37)) := (Chg.refl _ w).alloc _
  have hrow := row_new w (.cells #[.slice none 0 0, .int .i64 0, .int .i64 0] 37)
  generalize w.alloc (.cells #[.slice none 0 0, .int .i64 0, .int .i64 0] 37) = W0 at *
  have hlw := row_lt hrow
  refine (hp _).mono ?_
  rintro e w1 ⟨hC1, hm⟩
  have kB := row_chg hrow hC1 (fun e => e)
  have kcl1 := row_cells kB
  have kfr1 := row_free kB
  have hCf : Chg (fun _ => False) w w1 := hC0.trans hC1 (fun _ h _ => h)
  cases R with
  | err x y =>
    obtain ⟨a1, e1, he1, rfl⟩ := hm
    go_wp2
    refine bodyPost_ret (v := .agg #[.slice none 0 0, .int .i64 a1, .int .i64 e1]) (by simp [results, Tryd.results13, go_sem, kcl1]) rfl ?_
    exact ⟨((hCf.setCell (fun h => absurd h (by simp)) _).setCell (fun h => absurd h (by simp)) _).setCell (fun h => absurd h (by simp)) _, _, _, he1, rfl⟩
  | ok l rr =>
    obtain ⟨A, cc, j, hj, hrr, rfl, hrep⟩ := hm
    go_wp2
    refine bodyPost_ret (v := .agg #[.slice A l.length cc, .int .i64 j, .int .i64 0]) (by simp [results, Tryd.results13, go_sem, kcl1]) rfl ?_
    have h3 : Chg (· = w.heap.size) w1 (((w1.setCell ⟨w.heap.size, 0, none⟩ (.slice A l.length cc)).setCell ⟨w.heap.size, 1, none⟩ (.int .i64 j)).setCell ⟨w.heap.size, 2, none⟩ (.int .i64 0)) := (((Chg.refl (· = w.heap.size) w1).setCell (fun _ => rfl) _).setCell (fun _ => rfl) _).setCell (fun _ => rfl) _
    exact read_end (j := j) rfl (((hCf.setCell (fun h => absurd h (by simp)) _).setCell (fun h => absurd h (by simp)) _).setCell (fun h => absurd h (by simp)) _) ((hrep.stay h3 (fun k hk e => by omega)).mono (fun k hk _ => by omega)) hj hrr rfl rfl
end Go.Proofs.YtdfnkmiabmjolaaDoor
namespace Go.Proofs.YtdfnkmiabmjolaaDoor
open Go.RowKit
set_option linter.unusedVariables false
set_option linter.unusedSimpArgs false

set_option maxRecDepth 100000 in
set_option maxHeartbeats 4000000 in
theorem rprint_calls (w : World) (S : Nat → Prop) (v : Value) (ps : List Part) (hb : Part.wts ps ≤ 20000) (h : Rep w S (.sl 32 5 (Part.ds ps)) [v]) :
    Calls Tryd.prog 7 #[v] w fun e w' => e = .returned (.tuple #[.string (strOf (printW ps)), .int .i64 (errOf (printW ps))]) ∧ Chg (fun _ => False) w w' := by
  have hT := rtext_calls w S v ps hb h
  obtain ⟨A, c, rfl⟩ := sl_form2 h
  rw [Part.ds_length] at h hT ⊢
  generalize hr : printW ps = r
  unfold printW at hr
  have HR := Lib.hid hr; clear hr
  generalize htx : textP ps = tx at *
  clear htx
  have hsz : (bstr tx).size = tx.length := bstr_size tx
  by_cases hl : tx.length > 8192
  · have hr : Hid (r = none) := Lib.hid (by rw [← HR.out, if_pos hl])
    have q1 : decide ((8192 : Int) < ((bstr tx).size : Int)) = true := by simp; omega
    go_enter Tryd.func7, Tryd.ntmps7
    go_wp2_with fail
    refine Calls.mono hT ?_
    rintro e w1 ⟨rfl, hC1⟩
    clear hT h hsz
    go_wp2
    go_ret2
    exact ⟨by rw [hr.out]; rfl, hC1⟩
  · have q1 : decide ((8192 : Int) < ((bstr tx).size : Int)) = false := by simp; omega
    have HS := fun w => rscan_calls w (bstr tx) (by omega)
    rw [bstr_toList] at HS
    have hE := scan_same tx
    have hr : Hid (r = match scan tx with | .ok l [] => if beqs l ps then some tx else none | _ => none) := Lib.hid (by rw [← HR.out, if_neg hl]; try rfl)
    clear HR
    generalize scanR tx = R at *
    go_enter Tryd.func7, Tryd.ntmps7
    go_wp2_with fail
    refine Calls.mono hT ?_
    rintro e w1 ⟨rfl, hC1⟩
    have HS1 := HS w1
    have h1 := h.stay hC1 (fun _ _ e => e)
    clear HS hT h
    go_wp2_with fail
    refine Calls.mono HS1 ?_
    clear HS1
    rintro e w2 ⟨hC2, hp⟩
    have h2 := h1.stay hC2 (fun _ _ e => e)
    have hC := hC1.trans hC2 (fun _ h _ => h)
    clear hC1 hC2 h1
    cases R with
    | err x y =>
      obtain ⟨l', e', hE'⟩ := hE.err
      obtain ⟨a1, e1, he1, rfl⟩ := hp
      have hr2 : Hid (r = none) := Lib.hid (by rw [hr.out, hE'])
      have q5 : (e1 == 0) = false := by simpa using he1
      have q6 : (e1 != 0) = true := by simpa using he1
      have hC3 : Chg (fun _ => False) w (w2.alloc (.cells #[.slice none 0 0, .int .i64 a1, .int .i64 e1] 37)) := hC.alloc _
      clear hr hE hE' he1
      go_wp2
      go_ret2
      exact ⟨by rw [hr2.out]; rfl, hC3⟩
    | ok l rr =>
      obtain ⟨B, cc, j, hj, hrr, rfl, hrep⟩ := hp
      have hE' := hE.ok
      simp only [id] at hE'
      have hC3 : Chg (fun _ => False) w (w2.alloc (.cells #[.slice B l.length cc, .int .i64 j, .int .i64 0] 37)) := hC.alloc _
      have hC4 : Chg (fun _ => False) w2 (w2.alloc (.cells #[.slice B l.length cc, .int .i64 j, .int .i64 0] 37)) := (Chg.refl _ w2).alloc _
      rw [bstr_toList] at hrr
      by_cases hjj : j = (bstr tx).size
      · have hrn : rr = [] := by rw [hrr, hjj, hsz]; simp
        subst hrn
        subst hjj
        have hS := same_calls _ _ _ _ _ l ps (hrep.stay hC4 (fun _ _ e => e)) (h2.stay hC4 (fun _ _ e => e))
        cases hbq : beqs l ps with
        | true =>
          rw [hbq] at hS
          have hr2 : Hid (r = some tx) := Lib.hid (by rw [hr.out, hE']; simp [hbq])
          clear hr h2 hbq hE hE' hrr hrep hj hl hb q1 hsz
          generalize hbt : bstr tx = tb at *
          have HBT := Lib.hid hbt; clear hbt
          have HS5 := Lib.hid hS; clear hS
          go_wp2_with fail
          refine Calls.mono HS5.out ?_
          rintro e w3 ⟨rfl, m, rfl⟩
          clear HS5
          go_wp2
          go_ret2
          exact ⟨by rw [hr2.out, ← HBT.out]; rfl, hC3.drewN _⟩
        | false =>
          rw [hbq] at hS
          have hr2 : Hid (r = none) := Lib.hid (by rw [hr.out, hE']; simp [hbq])
          clear hr h2 hbq hE hE' hrr hrep hj hl hb q1 hsz
          generalize hbt : bstr tx = tb at *
          have HBT := Lib.hid hbt; clear hbt
          have HS5 := Lib.hid hS; clear hS
          go_wp2_with fail
          refine Calls.mono HS5.out ?_
          rintro e w3 ⟨rfl, m, rfl⟩
          clear HS5
          go_wp2
          go_ret2
          exact ⟨by rw [hr2.out]; rfl, hC3.drewN _⟩
      · have hr2 : Hid (r = none) := Lib.hid (by
          rw [hr.out, hE']
          cases rr with
          | nil =>
            have := congrArg List.length hrr
            simp only [List.length_nil, List.length_drop] at this
            omega
          | cons a t => rfl)
        have q5 : ((j : Int) == ((bstr tx).size : Int)) = false := by rw [beq_eq_false_iff_ne]; omega
        have q6 : ((j : Int) != ((bstr tx).size : Int)) = true := by rw [bne_iff_ne]; omega
        have q7 : (j == (bstr tx).size) = false := by rw [beq_eq_false_iff_ne]; omega
        clear hr hE hE' hrr hj hjj h2 hrep
        go_wp2
        go_ret2
        exact ⟨by rw [hr2.out]; rfl, hC3⟩
end Go.Proofs.YtdfnkmiabmjolaaDoor
namespace Go.Proofs.YtdfnkmiabmjolaaDoor
open Go.RowKit
set_option linter.unusedVariables false
set_option linter.unusedSimpArgs false

set_option maxRecDepth 100000 in
set_option maxHeartbeats 4000000 in
theorem wordPrints_calls (w : World) (S1 S2 : Nat → Prop) (v1 v2 : Value) (ps qs : List Part) (hl1 : Part.lims ps) (hl2 : Part.lims qs) (hm : HM w)
    (h1 : Rep w S1 (.sl 32 5 (Part.ds ps)) [v1]) (h2 : Rep w S2 (.sl 32 5 (Part.ds qs)) [v2]) :
    Calls Tryd.prog 3 #[v1, v2] w fun e w' => e = .returned (.bool true) ∧ Chg (fun _ => False) w w' := by
  have hS1 := size_calls w S1 v1 ps hl1 h1
  have hS2 := fun m => size_calls (w.drewN m) S2 v2 qs hl2 (h2.stay ((Chg.refl (fun _ => False) _).drewN m) (fun _ _ e => e))
  have he1 := sizeW_exact 41 ps
  have he2 := sizeW_exact 41 qs
  obtain ⟨A1, c1, rfl⟩ := sl_form2 h1
  obtain ⟨A2, c2, rfl⟩ := sl_form2 h2
  simp only [Part.ds_length] at h1 h2 hS1 hS2 ⊢
  generalize sizeW 41 ps = n1 at *
  generalize sizeW 41 qs = n2 at *
  by_cases g1 : 2000 < n1
  · have q1 : decide ((2000 : Int) < (n1 : Int)) = true := by simp; omega
    clear hS2 he1 he2 h1 h2 hl1 hl2 hm
    go_enter Tryd.func3, Tryd.ntmps3
    go_wp2_with fail
    refine Calls.mono hS1 ?_
    rintro e w1 ⟨rfl, m1, rfl⟩
    clear hS1
    go_wp2_with fail
    refine Calls.mono (awake_calls _) ?_
    rintro e w9 ⟨rfl, hC9⟩
    go_wp2
    go_ret
    exact ⟨rfl, ((Chg.refl (fun _ => False) w).drewN m1).trans hC9 (fun _ h _ => h)⟩
  · have q1 : decide ((2000 : Int) < (n1 : Int)) = false := by simp; omega
    have hw1 := he1 (by omega)
    by_cases g2 : 2000 < n2
    · have q2 : decide ((2000 : Int) < (n2 : Int)) = true := by simp; omega
      clear he1 he2 h1 h2 hl1 hl2 hm hw1
      go_enter Tryd.func3, Tryd.ntmps3
      go_wp2_with fail
      refine Calls.mono hS1 ?_
      rintro e w1 ⟨rfl, m1, rfl⟩
      clear hS1
      go_wp2_with fail
      refine Calls.mono (hS2 m1) ?_
      rintro e w1 ⟨rfl, m2, rfl⟩
      clear hS2
      go_wp2_with fail
      refine Calls.mono (awake_calls _) ?_
      rintro e w9 ⟨rfl, hC9⟩
      go_wp2
      go_ret
      exact ⟨rfl, ((Chg.refl (fun _ => False) w).drewN (m1 + m2)).trans hC9 (fun _ h _ => h)⟩
    · have q2 : decide ((2000 : Int) < (n2 : Int)) = false := by simp; omega
      have hb : Part.wts ps ≤ 20000 := by omega
      clear he1 he2 hl1 hl2 hw1
      generalize hso : strOf (printW ps) = so
      generalize heo : errOf (printW ps) = eo
      have HP : Hid (∀ w', Chg (fun _ => False) w w' → Calls Tryd.prog 6 #[.slice A1 ps.length c1] w' fun e w'' => e = .returned (.tuple #[.string so, .int .i64 eo]) ∧ Chg (fun _ => False) w' w'') :=
        Lib.hid (fun w' hc => by rw [← hso, ← heo]; exact print_calls w' S1 _ ps hb (hm.stay hc (fun e => e)) (h1.stay hc (fun _ _ e => e)))
      have HR : Hid (∀ w', Chg (fun _ => False) w w' → Calls Tryd.prog 7 #[.slice A1 ps.length c1] w' fun e w'' => e = .returned (.tuple #[.string so, .int .i64 eo]) ∧ Chg (fun _ => False) w' w'') :=
        Lib.hid (fun w' hc => by rw [← hso, ← heo]; exact rprint_calls w' S1 _ ps hb (h1.stay hc (fun _ _ e => e)))
      have HS12 : Hid (∀ w', Chg (fun _ => False) w w' → Calls Tryd.prog 8 #[.slice A1 ps.length c1, .slice A2 qs.length c2] w' fun e w'' => e = .returned (.bool (beqs ps qs)) ∧ Chg (fun _ => False) w' w'') :=
        Lib.hid (fun w' hc => wsame_calls w' S1 S2 _ _ ps qs (h1.stay hc (fun _ _ e => e)) (h2.stay hc (fun _ _ e => e)))
      have HR12 : Hid (∀ w', Chg (fun _ => False) w w' → Calls Tryd.prog 9 #[.slice A1 ps.length c1, .slice A2 qs.length c2] w' fun e w'' => e = .returned (.bool (beqs ps qs)) ∧ Chg (fun _ => False) w' w'') :=
        Lib.hid (fun w' hc => (same_calls w' S1 S2 _ _ ps qs (h1.stay hc (fun _ _ e => e)) (h2.stay hc (fun _ _ e => e))).mono (fun _ _ hh => ⟨hh.1, by obtain ⟨m, rfl⟩ := hh.2; exact (Chg.refl _ _).drewN m⟩))
      have HS11 : Hid (∀ w', Chg (fun _ => False) w w' → Calls Tryd.prog 8 #[.slice A1 ps.length c1, .slice A1 ps.length c1] w' fun e w'' => e = .returned (.bool true) ∧ Chg (fun _ => False) w' w'') :=
        Lib.hid (fun w' hc => by rw [← beqs_refl ps]; exact wsame_calls w' S1 S1 _ _ ps ps (h1.stay hc (fun _ _ e => e)) (h1.stay hc (fun _ _ e => e)))
      generalize beqs ps qs = bq at *
      clear hso heo h1 h2 hm
      have hC0 := Chg.refl (fun _ => False) w
      go_enter Tryd.func3, Tryd.ntmps3
      go_wp2_with fail
      refine Calls.mono hS1 ?_
      rintro e w1 ⟨rfl, m1, rfl⟩
      clear hS1
      go_wp2_with fail
      refine Calls.mono (hS2 m1) ?_
      rintro e w1 ⟨rfl, m2, rfl⟩
      clear hS2
      have hC2 : Chg (fun _ => False) w ((w.drewN m1).drewN m2) := ((Chg.refl (fun _ => False) w).drewN m1).drewN m2
      generalize (w.drewN m1).drewN m2 = W2 at *
      clear g1 g2 hC0
      go_wp2_with fail
      refine Calls.mono (HP.out _ hC2) ?_
      rintro e w3 ⟨rfl, hC⟩
      have hC3 := hC2.trans hC (fun _ h _ => h)
      clear hC hC2
      go_wp2_with fail
      refine Calls.mono (HR.out _ hC3) ?_
      rintro e w4 ⟨rfl, hC⟩
      have hC4 := hC3.trans hC (fun _ h _ => h)
      clear hC hC3
      go_wp2_with fail
      refine Calls.mono (HS12.out _ hC4) ?_
      rintro e w5 ⟨rfl, hC⟩
      have hC5 := hC4.trans hC (fun _ h _ => h)
      clear hC hC4
      go_wp2_with fail
      refine Calls.mono (HR12.out _ hC5) ?_
      rintro e w6 ⟨rfl, hC⟩
      have hC6 := hC5.trans hC (fun _ h _ => h)
      clear hC hC5
      go_wp2_with fail
      refine Calls.mono (HS11.out _ hC6) ?_
      rintro e w7 ⟨rfl, hC⟩
      have hC7 := hC6.trans hC (fun _ h _ => h)
      clear hC hC6
      go_wp2_with fail
      refine Calls.mono (awake_calls _) ?_
      rintro e w9 ⟨rfl, hC9⟩
      go_wp2
      go_ret
      exact ⟨rfl, (hC7).trans hC9 (fun _ h _ => h)⟩
end Go.Proofs.YtdfnkmiabmjolaaDoor
