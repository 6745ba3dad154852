/- Walks of package word: what a dollar begins: braces, arithmetic, commands. -/
import Derived.Test.YtdfnkmiabmjolaaW9
namespace Go.Proofs.Ytdfnkmiabmjolaa
open Go.RowKit
set_option linter.unusedVariables false
set_option linter.unusedSimpArgs false

section
variable (w : World) (g : Nat) (s : ByteArray) (a d : Nat) (q : Bool) (h : ScanAt w g s a d) (ha : a < s.size) (hs : s.size ≤ 8192) (n : Nat)
include h ha hs

set_option maxRecDepth 100000 in
set_option maxHeartbeats 4000000 in
theorem dollar_param (hd : d ≤ 16) (hf : 4 * (s.size - a) ≤ n) (IH : ParamSaid n) (ha' : a + 1 < s.size) (hn : named (s.data.toList.drop (a + 1)) = 0) (hc : (digit s[a + 1] || special s[a + 1]) = false) (h1 : (s[a + 1] == 123) = true) : Calls Try.prog 40 #[.pointer (some ⟨g, 0, none⟩), .bool q] w (ScanPost w g s d (dollarF (n + 1) d q (s.data.toList.drop (a + 1))) (fun _ => False) (PartVal w)) := by
  have hE : dollarF (n + 1) d q (s.data.toList.drop (a + 1)) = paramF n d q (s.data.toList.drop (a + 2)) := by
    rw [byte_drop s _ ha'] at hn ⊢
    rw [dollarF, dollarG.eq_def, if_neg (by omega), if_neg (by omega)]
    simp only [hc, h1, if_true, Bool.false_eq_true, if_false]
  have _u := ha; clear _u
  have HE := Lib.hid hE; clear hE
  have HN := Lib.hid hn; clear hn
  have H1 := Lib.hid h1; clear h1
  obtain ⟨h0, h1, h2, f1, _, hgl⟩ := h.cells
  have HT0 := Lib.hid (Lib.extract_to_end s (a + 1))
  have e1 : (0 : Int) ≤ (a : Int) + 1 := by omega
  have e2 : (a : Int) + 1 ≤ (s.size : Int) := by omega
  have hsz : (s.extract (a + 1) s.size).size ≤ 8192 := by simp [ByteArray.size_extract]; omega
  have HSZ := Lib.hid (extract_size s (a + 1) (by omega))
  generalize dollarF (n + 1) d q (s.data.toList.drop (a + 1)) = R at *
  go_enter Try.func40, Try.ntmps40
  go_wp2_with fail
  generalize s.extract (a + 1) s.size = t at *
  generalize hk : named t.data.toList = k at *
  have HK := Lib.hid hk; clear hk
  have hk0 : k = 0 := by have h1 : named t.data.toList = 0 := by rw [HT0.out]; exact HN.out
                         rw [← HK.out]; exact h1
  subst hk0
  have hk3 := HSZ.out
  have ht0 : 0 < t.size := by omega
  clear hk3
  have he := isEmpty_pos t ht0
  have hc0 : t[0] = s[a + 1] := extract_head s (a + 1) ha' t HT0.out ht0
  have hc1 : t.data.toList = s[a + 1] :: s.data.toList.drop (a + 2) := by rw [HT0.out, byte_drop s (a + 1) ha']
  generalize s[a + 1] = c at *
  have HC1 := Lib.hid hc1; clear hc1
  have hdg : digit c = digitB c.toNat := rfl
  rw [hdg] at hc
  have hd : digitB c.toNat = false := by revert hc; cases digitB c.toNat <;> simp
  have hsp : special c = false := by revert hc; cases special c <;> simp
  clear hc hdg
  have hp1 : Lib.hasPrefix t.data.toList [123] = true := by rw [HC1.out, prefix_one]; exact H1.out
  go_wp2_with (first | (go_at_call 30; refine (named_calls _ _ (by omega)).mono ?_; rintro e w' ⟨rfl, rfl⟩; rw [HK.out]) | (go_at_call 48; refine (Try.strings_HasPrefix _ _ _).mono ?_; rintro e w' ⟨rfl, rfl⟩) | (go_at_call 16; refine (digit_calls _ _).mono ?_; rintro e w' ⟨rfl, rfl⟩) | (go_at_call 47; refine (special_calls _ _).mono ?_; rintro e w' ⟨rfl, rfl⟩))
  refine (IH _ g s a d q (row_alloc h _) (by omega) hs (by assumption) hf).mono ?_
  intro e w1 hpost
  rw [← HE.out] at hpost
  cases R with
  | err left code =>
    obtain ⟨k, hk, hl, rfl, hC⟩ := hpost
    exact ⟨rfl, k, hk, hl, rfl, (((Chg.refl _ _).alloc _).trans hC (fun _ h _ => h))⟩
  | ok p rest =>
    obtain ⟨v, k, rfl, hk, hr, ⟨cs, rfl, hrep⟩, hA, hC⟩ := hpost
    obtain ⟨kd, qd, td, od, wd⟩ := p
    obtain ⟨A, c', rfl, hwv, _, _⟩ := part_rep2 hrep
    have hne : g ≠ w.heap.size := by omega
    have kB := row_chg (row_new w (.cells #[.int .i64 0, .bool false, .string ⟨#[]⟩, .string ⟨#[]⟩, .slice none 0 0] 35)) hC (fun e => by rcases e with e | e; exact hne e.symm; exact e)
    have kcl := row_cells kB
    have kfr := row_free kB
    have hbl := row_lt kB
    clear kB
    have hC0 : Chg (fun j => j = g ∨ False) w w1 := ((Chg.refl (fun j => j = g ∨ False) w).alloc _).trans hC (fun _ h _ => h)
    have HREP := Lib.hid hrep; clear hrep
    have HA := Lib.hid hA; clear hA
    go_wp2
    refine bodyPost_ret (v := .agg #[.int .i64 kd, .bool qd, .string (bstr td), .string (bstr od), .slice A wd.length c']) (by simp [results, Try.results40, go_sem, kcl]) rfl ⟨_, k, rfl, hk, hr, ⟨_, rfl, ?_⟩, ?_, ?_⟩
    · refine (HREP.out.stay (((((((Chg.refl (fun j => j = w.heap.size) _).setCell (fun _ => rfl) _).setCell (fun _ => rfl) _).setCell (fun _ => rfl) _).setCell (fun _ => rfl) _).setCell (fun _ => rfl) _)) (fun j hj e => ?_)).mono (fun j hj _ => ?_)
      · simp at hj; omega
      · simp at hj; omega
    · exact row_far (row_far (row_far (row_far (row_far HA.out hne _) hne _) hne _) hne _) hne _
    · exact ((((hC0.setCell (fun h => absurd h (by simp)) _).setCell (fun h => absurd h (by simp)) _).setCell (fun h => absurd h (by simp)) _).setCell (fun h => absurd h (by simp)) _).setCell (fun h => absurd h (by simp)) _

set_option maxRecDepth 100000 in
set_option maxHeartbeats 4000000 in
theorem dollar_arith (ha' : a + 1 < s.size) (hn : named (s.data.toList.drop (a + 1)) = 0) (hc : (digit s[a + 1] || special s[a + 1]) = false) (h1 : (s[a + 1] == 40) = true) (h2 : ((s.data.toList.drop (a + 2)).head? == some 40) = true) : Calls Try.prog 40 #[.pointer (some ⟨g, 0, none⟩), .bool q] w (ScanPost w g s d (dollarF (n + 1) d q (s.data.toList.drop (a + 1))) (fun _ => False) (PartVal w)) := by
  have h123 : (s[a + 1] == 123) = false := by rw [show s[a + 1] = 40 by simpa using h1]; rfl
  have ha3 : a + 2 < s.size := by
    by_cases hh : a + 2 < s.size
    · exact hh
    · rw [drop_end s _ hh] at h2; cases h2
  have hE : dollarF (n + 1) d q (s.data.toList.drop (a + 1)) = (match arithF (s.size - a) 0 [] (s.data.toList.drop (a + 3)) with | .ok t r' => .ok (.mk 4 q t [] []) r' | .err a e => .err a e) := by
    rw [byte_drop s _ ha'] at hn ⊢
    rw [dollarF, dollarG.eq_def, if_neg (by omega), if_neg (by omega)]
    simp only [hc, h123, h1, h2, if_true, Bool.false_eq_true, if_false, drop_len, List.drop_drop, show a + 1 + 1 = a + 2 from rfl, show a + 2 + 1 = a + 3 from rfl]
    rw [show s.size - (a + 2) + 2 = s.size - a by omega]
    cases arithF (s.size - a) 0 [] (s.data.toList.drop (a + 3)) <;> rfl
  have _u := ha; clear _u
  have HE := Lib.hid hE; clear hE
  have HN := Lib.hid hn; clear hn
  have H1 := Lib.hid h1; clear h1
  have H2 := Lib.hid h2; clear h2
  have H3 := Lib.hid h123; clear h123
  obtain ⟨h0, h1, h2, f1, _, hgl⟩ := h.cells
  have HT0 := Lib.hid (Lib.extract_to_end s (a + 1))
  have e1 : (0 : Int) ≤ (a : Int) + 1 := by omega
  have e2 : (a : Int) + 1 ≤ (s.size : Int) := by omega
  have hsz : (s.extract (a + 1) s.size).size ≤ 8192 := by simp [ByteArray.size_extract]; omega
  have HSZ := Lib.hid (extract_size s (a + 1) (by omega))
  generalize dollarF (n + 1) d q (s.data.toList.drop (a + 1)) = R at *
  go_enter Try.func40, Try.ntmps40
  go_wp2_with fail
  generalize s.extract (a + 1) s.size = t at *
  generalize hk : named t.data.toList = k at *
  have HK := Lib.hid hk; clear hk
  have hk0 : k = 0 := by have h1 : named t.data.toList = 0 := by rw [HT0.out]; exact HN.out
                         rw [← HK.out]; exact h1
  subst hk0
  have hk3 := HSZ.out
  have ht0 : 0 < t.size := by omega
  clear hk3
  have he := isEmpty_pos t ht0
  have hc0 : t[0] = s[a + 1] := extract_head s (a + 1) ha' t HT0.out ht0
  have hc1 : t.data.toList = s[a + 1] :: s.data.toList.drop (a + 2) := by rw [HT0.out, byte_drop s (a + 1) ha']
  generalize s[a + 1] = c at *
  have HC1 := Lib.hid hc1; clear hc1
  have hdg : digit c = digitB c.toNat := rfl
  rw [hdg] at hc
  have hd : digitB c.toNat = false := by revert hc; cases digitB c.toNat <;> simp
  have hsp : special c = false := by revert hc; cases special c <;> simp
  clear hc hdg
  have hp1 : Lib.hasPrefix t.data.toList [123] = false := by rw [HC1.out, prefix_one]; exact H3.out
  have hp2 : Lib.hasPrefix t.data.toList [40, 40] = true := by
    rw [HC1.out, byte_drop s _ ha3, prefix_two, H1.out]
    have := H2.out
    rw [byte_drop s _ ha3] at this
    simpa using this
  go_wp2_with (first | (go_at_call 30; refine (named_calls _ _ (by omega)).mono ?_; rintro e w' ⟨rfl, rfl⟩; rw [HK.out]) | (go_at_call 48; refine (Try.strings_HasPrefix _ _ _).mono ?_; rintro e w' ⟨rfl, rfl⟩) | (go_at_call 16; refine (digit_calls _ _).mono ?_; rintro e w' ⟨rfl, rfl⟩) | (go_at_call 47; refine (special_calls _ _).mono ?_; rintro e w' ⟨rfl, rfl⟩))
  refine (arith_calls g s a d _ (row_alloc h _) (by omega) hs).mono ?_
  intro e w1 hpost
  generalize arithF (s.size - a) 0 [] (s.data.toList.drop (a + 3)) = RA at *
  cases RA with
  | err left code =>
    obtain ⟨k, hk, hl, rfl, hC⟩ := hpost
    refine ⟨rfl, ?_⟩
    rw [HE.out]
    exact ⟨k, hk, hl, rfl, (((Chg.refl _ _).alloc _).trans hC (fun _ h _ => h))⟩
  | ok tx rest =>
    obtain ⟨v, k, rfl, hk, hr, rfl, hA, hC⟩ := hpost
    have HE' : Hid (R = .ok (.mk 4 q tx [] []) rest) := HE
    clear HE
    have hne : g ≠ w.heap.size := by omega
    have kB := row_chg (row_new w (.cells #[.int .i64 0, .bool false, .string ⟨#[]⟩, .string ⟨#[]⟩, .slice none 0 0] 35)) hC (fun e => by rcases e with e | e; exact hne e.symm; exact e)
    have kcl := row_cells kB
    have kfr := row_free kB
    have hbl := row_lt kB
    clear kB
    have hC0 : Chg (fun j => j = g ∨ False) w w1 := ((Chg.refl (fun j => j = g ∨ False) w).alloc _).trans hC (fun _ h _ => h)
    have HA := Lib.hid hA; clear hA
    go_wp2
    refine bodyPost_ret (v := .agg #[.int .i64 4, .bool q, .string (bstr tx), .string ⟨#[]⟩, .slice none 0 0]) (by simp [results, Try.results40, go_sem, kcl]) rfl ?_
    rw [HE'.out]
    refine ⟨_, k, rfl, hk, hr, ⟨_, rfl, part_nil _ _ _ _ _ _ rfl⟩, ?_, ?_⟩
    · exact row_far (row_far (row_far (row_far (row_far HA.out hne _) hne _) hne _) hne _) hne _
    · exact ((((hC0.setCell (fun h => absurd h (by simp)) _).setCell (fun h => absurd h (by simp)) _).setCell (fun h => absurd h (by simp)) _).setCell (fun h => absurd h (by simp)) _).setCell (fun h => absurd h (by simp)) _

set_option maxRecDepth 100000 in
set_option maxHeartbeats 4000000 in
theorem dollar_cmd (ha' : a + 1 < s.size) (hn : named (s.data.toList.drop (a + 1)) = 0) (hc : (digit s[a + 1] || special s[a + 1]) = false) (h1 : (s[a + 1] == 40) = true) (h2 : ((s.data.toList.drop (a + 2)).head? == some 40) = false) : Calls Try.prog 40 #[.pointer (some ⟨g, 0, none⟩), .bool q] w (ScanPost w g s d (dollarF (n + 1) d q (s.data.toList.drop (a + 1))) (fun _ => False) (PartVal w)) := by
  have h123 : (s[a + 1] == 123) = false := by rw [show s[a + 1] = 40 by simpa using h1]; rfl
  have hE : dollarF (n + 1) d q (s.data.toList.drop (a + 1)) = (match inside (s.data.toList.drop (a + 2)) with | none => .err (s.size - a) 60 | some k => .ok (.mk 3 q ((s.data.toList.drop (a + 2)).take k) [] []) (s.data.toList.drop (a + 2 + (k + 1)))) := by
    rw [byte_drop s _ ha'] at hn ⊢
    rw [dollarF, dollarG.eq_def, if_neg (by omega), if_neg (by omega)]
    simp only [hc, h123, h1, h2, if_true, Bool.false_eq_true, if_false, drop_len, List.drop_drop, show a + 1 + 1 = a + 2 from rfl]
    rw [show s.size - (a + 2) + 2 = s.size - a by omega]
    cases inside (s.data.toList.drop (a + 2)) <;> rfl
  have _u := ha; clear _u
  have HE := Lib.hid hE; clear hE
  have HN := Lib.hid hn; clear hn
  have H1 := Lib.hid h1; clear h1
  have H2 := Lib.hid h2; clear h2
  have H3 := Lib.hid h123; clear h123
  obtain ⟨h0, h1, h2, f1, _, hgl⟩ := h.cells
  have HT0 := Lib.hid (Lib.extract_to_end s (a + 1))
  have e1 : (0 : Int) ≤ (a : Int) + 1 := by omega
  have e2 : (a : Int) + 1 ≤ (s.size : Int) := by omega
  have hsz : (s.extract (a + 1) s.size).size ≤ 8192 := by simp [ByteArray.size_extract]; omega
  have HSZ := Lib.hid (extract_size s (a + 1) (by omega))
  generalize dollarF (n + 1) d q (s.data.toList.drop (a + 1)) = R at *
  go_enter Try.func40, Try.ntmps40
  go_wp2_with fail
  generalize s.extract (a + 1) s.size = t at *
  generalize hk : named t.data.toList = k at *
  have HK := Lib.hid hk; clear hk
  have hk0 : k = 0 := by have h1 : named t.data.toList = 0 := by rw [HT0.out]; exact HN.out
                         rw [← HK.out]; exact h1
  subst hk0
  have hk3 := HSZ.out
  have ht0 : 0 < t.size := by omega
  clear hk3
  have he := isEmpty_pos t ht0
  have hc0 : t[0] = s[a + 1] := extract_head s (a + 1) ha' t HT0.out ht0
  have hc1 : t.data.toList = s[a + 1] :: s.data.toList.drop (a + 2) := by rw [HT0.out, byte_drop s (a + 1) ha']
  generalize s[a + 1] = c at *
  have HC1 := Lib.hid hc1; clear hc1
  have hdg : digit c = digitB c.toNat := rfl
  rw [hdg] at hc
  have hd : digitB c.toNat = false := by revert hc; cases digitB c.toNat <;> simp
  have hsp : special c = false := by revert hc; cases special c <;> simp
  clear hc hdg
  have hp1 : Lib.hasPrefix t.data.toList [123] = false := by rw [HC1.out, prefix_one]; exact H3.out
  have hp3 : Lib.hasPrefix t.data.toList [40] = true := by rw [HC1.out, prefix_one]; exact H1.out
  have hp2 : Lib.hasPrefix t.data.toList [40, 40] = false := by
    rw [HC1.out]
    have := H2.out
    cases hl : s.data.toList.drop (a + 2) with
    | nil => exact prefix_two_one ..
    | cons e l =>
      rw [hl] at this
      rw [prefix_two, H1.out]
      simpa using this
  go_wp2_with (first | (go_at_call 30; refine (named_calls _ _ (by omega)).mono ?_; rintro e w' ⟨rfl, rfl⟩; rw [HK.out]) | (go_at_call 48; refine (Try.strings_HasPrefix _ _ _).mono ?_; rintro e w' ⟨rfl, rfl⟩) | (go_at_call 16; refine (digit_calls _ _).mono ?_; rintro e w' ⟨rfl, rfl⟩) | (go_at_call 47; refine (special_calls _ _).mono ?_; rintro e w' ⟨rfl, rfl⟩))
  have e3 : (0 : Int) ≤ (a : Int) + 2 := by omega
  have e4 : (a : Int) + 2 ≤ (s.size : Int) := by omega
  have hsz2 : (s.extract (a + 2) s.size).size ≤ 8192 := by simp [ByteArray.size_extract]; omega
  have HT2 := Lib.hid (Lib.extract_to_end s (a + 2))
  have hin : insideI ((s.extract (a + 2) s.size).size + 1) 0 0 (s.extract (a + 2) s.size).data.toList = (match inside (s.data.toList.drop (a + 2)) with | none => -1 | some k => (k : Int)) := by
    rw [← HT2.out, inside, len_data, insideI]
    cases insideF ((s.extract (a + 2) s.size).size + 1) 0 (s.extract (a + 2) s.size).data.toList <;> simp
  cases hI : inside (s.data.toList.drop (a + 2)) with
  | none =>
    rw [hI] at hin
    have hin' : insideI ((s.extract (a + 2) s.size).size + 1) 0 0 (s.extract (a + 2) s.size).data.toList = -1 := hin
    have HIN := Lib.hid hin'; clear hin hin'
    have HI := Lib.hid hI; clear hI
    go_quiet ((go_at_call 21; exact Calls.quiet_of_same ((inside_calls _ _ (by omega)).mono (fun e w' hh => ⟨hh.1.trans (by rw [HIN.out]), hh.2.symm⟩))))
    go_wp2_with (go_at_call 36; refine (fail_calls _ _ _ _).mono ?_; rintro e w1 ⟨rfl, rfl⟩)
    refine ⟨rfl, ?_⟩
    rw [HE.out, HI.out]
    exact ⟨a, by omega, by omega, rfl, (((Chg.refl _ _).setCell (fun _ => .inl rfl) _).alloc _).drewN _⟩
  | some k =>
    rw [hI] at hin
    have hin' : insideI ((s.extract (a + 2) s.size).size + 1) 0 0 (s.extract (a + 2) s.size).data.toList = (k : Int) := hin
    have HIN := Lib.hid hin'; clear hin hin'
    have hkl := insideF_lt _ _ _ _ hI
    rw [drop_len] at hkl
    have HI := Lib.hid hI; clear hI
    have e5 : (a : Int) + 2 ≤ (a : Int) + 2 + (k : Int) := by omega
    have e6 : (a : Int) + 2 + (k : Int) ≤ (s.size : Int) := by omega
    have HX := Lib.hid (extract_bstr s (a + 2) (a + 2 + k))
    go_quiet ((go_at_call 21; exact Calls.quiet_of_same ((inside_calls _ _ (by omega)).mono (fun e w' hh => ⟨hh.1.trans (by rw [HIN.out]), hh.2.symm⟩))))
    go_wp2
    go_quiet (fail)
    go_wp2
    have hne : g ≠ w.heap.size := by omega
    refine bodyPost_ret (v := .agg #[.int .i64 3, .bool q, .string (s.extract (a + 2) (a + 2 + k)), .string ⟨#[]⟩, .slice none 0 0]) (by simp [results, Try.results40, go_sem]) rfl ?_
    rw [HE.out, HI.out]
    refine ⟨_, a + 2 + (k + 1), rfl, by omega, rfl, ⟨_, rfl, part_nil _ _ _ _ _ _ (by rw [HX.out]; congr 2; omega)⟩, ?_, ?_⟩
    · have k1 : ScanAt (((w.setCell ⟨g, 1, none⟩ (.int .i64 ((a : Int) + 2))).alloc (.cells #[.int .i64 0, .bool false, .string ⟨#[]⟩, .string ⟨#[]⟩, .slice none 0 0] 35)).drewN 0) g s ((a : Int) + 2) d := row_alloc (h.at' _) _
      have k2 := row_far (row_far (row_far (row_far (row_far (k1.at' ((a : Int) + 2 + ((k : Int) + 1))) (p := ⟨w.heap.size, 0, none⟩) hne (.int .i64 3)) (p := ⟨w.heap.size, 1, none⟩) hne (.bool q)) (p := ⟨w.heap.size, 2, none⟩) hne (.string (s.extract (a + 2) (a + 2 + k)))) (p := ⟨w.heap.size, 3, none⟩) hne (.string ⟨#[]⟩)) (p := ⟨w.heap.size, 4, none⟩) hne (.slice none 0 0)
      rw [show ((a : Int) + 2 + ((k : Int) + 1)) = ((a + 2 + (k + 1) : Nat) : Int) by omega] at k2 ⊢
      exact k2
    · exact ((((((((Chg.refl _ _).setCell (fun _ => .inl rfl) _).alloc _).drewN _).setCell (fun _ => .inl rfl) _).setCell (fun h => absurd h (by simp)) _).setCell (fun h => absurd h (by simp)) _).setCell (fun h => absurd h (by simp)) _).setCell (fun h => absurd h (by simp)) _ |>.setCell (fun h => absurd h (by simp)) _
end

theorem dollar_said (n : Nat) (IH : ParamSaid n) : DollarSaid (n + 1) := by
  intro w g s a d q h ha hs hd hf
  by_cases h1 : named (s.data.toList.drop (a + 1)) > 64
  · exact dollar_long w g s a d q h ha hs n h1
  · by_cases h2 : 0 < named (s.data.toList.drop (a + 1))
    · exact dollar_name w g s a d q h ha hs n (by omega) h2
    · have hn : named (s.data.toList.drop (a + 1)) = 0 := by omega
      by_cases ha' : a + 1 < s.size
      · cases hc : (digit s[a + 1] || special s[a + 1])
        · cases h3 : s[a + 1] == 123
          · cases h4 : s[a + 1] == 40
            · exact dollar_else w g s a d q h ha hs n ha' hn hc h3 h4
            · cases h5 : (s.data.toList.drop (a + 2)).head? == some 40
              · exact dollar_cmd w g s a d q h ha hs n ha' hn hc h4 h5
              · exact dollar_arith w g s a d q h ha hs n ha' hn hc h4 h5
          · exact dollar_param w g s a d q h ha hs n hd (by omega) IH ha' hn hc h3
        · exact dollar_char w g s a d q h ha hs n ha' hn hc
      · exact dollar_end w g s a d q h ha hs n ha'
end Go.Proofs.Ytdfnkmiabmjolaa
