/- Walks of package word: a parameter in braces, with an operation or none. -/
import Derived.Test.YtdfnkmiabmjolaaW12
namespace Go.Proofs.Ytdfnkmiabmjolaa
open Go.RowKit
set_option linter.unusedVariables false
set_option linter.unusedSimpArgs false


set_option maxRecDepth 100000 in
set_option maxHeartbeats 4000000 in
theorem param_op1 (n : Nat) (IH : WordSaid n) (w : World) (g : Nat) (s : ByteArray) (a d : Nat) (q : Bool) (h : ScanAt w g s a d) (ha : a + 2 ≤ s.size) (hs : s.size ≤ 8192) (hd : ¬ 16 < d + 1) (hf : 4 * (s.size - a) ≤ n + 1) (i0 : isAt (s.data.toList.drop (a + 2)) 0 35 = false) :
    Calls Try.prog 49 #[.pointer (some ⟨g, 0, none⟩), .bool q] w (ScanPost w g s d (paramF (n + 1) d q (s.data.toList.drop (a + 2))) (fun _ => False) (PartVal w)) := by
  generalize hR : paramF (n + 1) d q (s.data.toList.drop (a + 2)) = R
  have hlen : lenB (s.data.toList.drop (a + 2)) = false := by rw [lenB_is, drop_len]; simp [i0]
  rw [paramF, if_neg hd, hlen, if_neg (by simp), drop_len, show s.size - (a + 2) + 2 = s.size - a by omega] at hR
  have HR := Lib.hid hR; clear hR hlen
  obtain ⟨h0, h1, h2, f1, f2, hgl⟩ := h.cells
  have e1 : decide ((16 : Int) < (d : Int) + 1) = false := by simp; omega
  have kP := ParAt.start h q (a + 2) (d + 1)
  skip
  go_enter Try.func49, Try.ntmps49
  go_wp2
  simp only [Int.natCast_add, Int.cast_ofNat_Int] at kP
  revert kP
  generalize (((w.setCell ⟨g, 2, none⟩ (.int .i64 ((d : Int) + 1))).setCell ⟨g, 1, none⟩ (.int .i64 ((a : Int) + 2))).alloc (.cells #[.int .i64 0, .bool false, .string ⟨#[]⟩, .string ⟨#[]⟩, .slice none 0 0] 35)).alloc (.cells #[.int .i64 2, .bool q, .string ⟨#[]⟩, .string ⟨#[]⟩, .slice none 0 0] 35) = wr
  intro kP
  clear h0 h1 h2 f1 f2 hgl h
  have hA : ScanAt wr g s ((a + 2 : Nat) : Int) ((d : Int) + 1) := kP.scan
  obtain ⟨h0, h1, h2, f1, f2, hgl⟩ := kP.scan.cells
  have kcl := row_cells kP.part
  have kfr := row_free kP.part
  have kcl0 := row_cells kP.res
  have kfr0 := row_free kP.res
  have hsz := row_lt kP.part
  have hgo := kP.old
  have hn1 : ¬ w.heap.size + 1 = g := by omega
  have hn2 : ¬ g = w.heap.size + 1 := by omega
  have hn3 : ¬ w.heap.size = g := by omega
  have hn4 : ¬ g = w.heap.size := by omega
  have KP := Lib.hid kP; clear kP
  go_quiet ((go_at_call 57; exact (is_hash g s (a + 2) _ _ (hA.drewN _) ha hs _ i0).quiet_of))
  go_wp2
  have kP : ParAt w (wr.drewN nq) g s (a + 2) (d + 1) q ⟨#[]⟩ ⟨#[]⟩ (.slice none 0 0) := KP.out.drewN nq
  clear h0 h1 h2 f1 f2 hgl kcl kfr kcl0 kfr0 hsz hgo hn1 hn2 hn3 hn4 KP
  revert kP
  generalize wr.drewN nq = wr2
  intro kP
  clear hA wr
  clear i0
  obtain ⟨b, hbe⟩ : ∃ b, b = a + 2 := ⟨_, rfl⟩
  rw [← hbe] at kP HR
  have hb0 : b ≤ s.size := by omega
  have hba : a + 2 ≤ b := by omega
  clear hbe
  obtain ⟨h0, h1, h2, f1, f2, hgl⟩ := kP.scan.cells
  have kcl := row_cells kP.part
  have kfr := row_free kP.part
  have kcl0 := row_cells kP.res
  have kfr0 := row_free kP.res
  have hsz := row_lt kP.part
  have hgo := kP.old
  have hn1 : ¬ w.heap.size + 1 = g := by omega
  have hn2 : ¬ g = w.heap.size + 1 := by omega
  have hn3 : ¬ w.heap.size = g := by omega
  have hn4 : ¬ g = w.heap.size := by omega
  have KP := Lib.hid kP; clear kP
  generalize hk : parameter (s.data.toList.drop b) = k at HR
  have hkle : b + k ≤ s.size := by have := parameter_le (s.data.toList.drop b); rw [hk, drop_len] at this; omega
  have HK := Lib.hid hk
  have HTP : Hid (parameter (s.extract b s.size).data.toList = k) := Lib.hid (by rw [Lib.extract_to_end]; exact hk)
  clear hk
  have p0 : (0 : Int) ≤ (b : Int) := by omega
  have p1 : (b : Int) ≤ (s.size : Int) := by omega
  have htz : (s.extract b s.size).size ≤ 8192 := by simp [ByteArray.size_extract]; omega
  go_quiet ((go_at_call 58; exact (par_q _ _ _ htz HTP.out).quiet_of_same))
  revert nq; intro nq1
  clear htz p1
  have hgood : (k == 0 || decide (k > 64)) = true ∨ (0 < k ∧ k ≤ 64) := by
    by_cases hh : 0 < k ∧ k ≤ 64
    · exact .inr hh
    · left; simp; omega
  rcases hgood with hbad | ⟨hk0, hk64⟩
  · have HRE : Hid (R = .err (s.size - b) 61) := Lib.hid (by rw [← HR.out, paramG, HK.out, if_pos hbad, drop_len])
    clear HR
    cases hk0 : k == 0
    case true =>
      obtain rfl : k = 0 := by simpa using hk0
      go_wp2_with (go_at_call 36; refine (fail_calls _ _ _ _).mono ?_; rintro e w1 ⟨rfl, rfl⟩)
      refine ⟨rfl, ?_⟩
      rw [HRE.out]
      exact ⟨b, by omega, rfl, rfl, KP.out.chg.drewN _⟩
    case false =>
      have hk1 : ((k : Int) == 0) = false := by simp at hk0 ⊢; omega
      have hk64 : decide ((64 : Int) < (k : Int)) = true := by rw [hk0] at hbad; simp at hbad ⊢; omega
      clear hk0 hbad
      go_wp2_with (go_at_call 36; refine (fail_calls _ _ _ _).mono ?_; rintro e w1 ⟨rfl, rfl⟩)
      refine ⟨rfl, ?_⟩
      rw [HRE.out]
      exact ⟨b, by omega, rfl, rfl, KP.out.chg.drewN _⟩
  · have HF : Hid (finish (s.size - a) q ((s.data.toList.drop b).take k) (opM (s.data.toList.drop (b + k))) (if opM (s.data.toList.drop (b + k)) == [] then .ok [] (s.data.toList.drop (b + k)) else wordF n (d + 1) true q [] (s.data.toList.drop (b + k + (opM (s.data.toList.drop (b + k))).length))) = R) := Lib.hid (by
      rw [← HR.out, paramG, HK.out, if_neg (show ¬ (k == 0 || decide (k > 64)) = true by simp; omega)]
      simp only [Bool.false_or, Bool.false_eq_true, if_false, List.drop_drop])
    have hk1 : ((k : Int) == 0) = false := by simp; omega
    have hk2 : decide ((64 : Int) < (k : Int)) = false := by simp; omega
    have p1 : (b : Int) ≤ (b : Int) + (k : Int) := by omega
    have p3 : (0 : Int) ≤ (k : Int) := by omega
    have p4 : IntKind.i64.wrap ((b : Int) + (k : Int)) = (b : Int) + (k : Int) := IntWalk.i64_in _ (by omega)
    have p5 : ((b : Int) + (k : Int)).toNat = b + k := by omega
    have p2 : (b : Int) + (k : Int) ≤ (s.size : Int) := by omega
    have hxt := extract_bstr s b (b + k)
    rw [show b + k - b = k by omega] at hxt
    have HXT := Lib.hid hxt; clear hxt
    go_wp2
    refine still_tail2 16 (by kernel_rfl) (by kernel_rfl) ?_
    simp only [List.take_succ_cons, List.take_zero, List.drop_succ_cons, List.drop_zero]
    repeat still_step
    refine wpStill_nil ?_
    go_wp2
    have kP : ParAt w (((wr2.drewN (nq1 + 1)).setCell ⟨w.heap.size + 1, 2, none⟩ (.string (s.extract b (b + k)))).setCell ⟨g, 1, none⟩ (.int .i64 ((b : Int) + (k : Int)))) g s (b + k) (d + 1) q (s.extract b (b + k)) ⟨#[]⟩ (.slice none 0 0) := ((KP.out.drewN (nq1 + 1)).text (s.extract b (b + k))).at' (b + k)
    clear h0 h1 h2 f1 f2 hgl kcl kfr kcl0 kfr0 hsz hgo hn1 hn2 hn3 hn4 KP
    revert kP
    generalize ((wr2.drewN (nq1 + 1)).setCell ⟨w.heap.size + 1, 2, none⟩ (.string (s.extract b (b + k)))).setCell ⟨g, 1, none⟩ (.int .i64 ((b : Int) + (k : Int))) = wr3
    intro kP
    clear p0 p1 p2 p3 p4 p5 hk1 hk2 HTP HK HR e1 wr2
    have hTl : ((s.data.toList.drop b).take k).length ≤ 64 := by simp; omega
    revert hTl
    revert kP
    revert HXT
    revert HF
    generalize s.extract b (b + k) = tx
    generalize (s.data.toList.drop b).take k = T
    obtain ⟨c, hc⟩ : ∃ c, c = b + k := ⟨_, rfl⟩
    rw [← hc] at hkle ⊢
    intro HF HXT kP hTl
    have hac : a + 3 ≤ c := by omega
    clear hc hba hb0 hk0 hk64
    obtain ⟨h0, h1, h2, f1, f2, hgl⟩ := kP.scan.cells
    have kcl := row_cells kP.part
    have kfr := row_free kP.part
    have kcl0 := row_cells kP.res
    have kfr0 := row_free kP.res
    have hsz := row_lt kP.part
    have hgo := kP.old
    have hn1 : ¬ w.heap.size + 1 = g := by omega
    have hn2 : ¬ g = w.heap.size + 1 := by omega
    have hn3 : ¬ w.heap.size = g := by omega
    have hn4 : ¬ g = w.heap.size := by omega
    have KP := Lib.hid kP; clear kP
    by_cases hcs : c < s.size
    · have t1 : decide ((c : Int) < (s.size : Int)) = true := by simp; omega
      have t0 : (0 : Int) ≤ (c : Int) := by omega
      have t2 : (c : Int) ≤ (s.size : Int) := by omega
      go_quiet (fail)
      have hO : opM (s.extract c s.size).data.toList = opM (s.data.toList.drop c) := by rw [Lib.extract_to_end]
      have hOl : (opM (s.data.toList.drop c)).length ≤ s.size - c := by have := opL_prefix ops (s.data.toList.drop c); rwa [drop_len] at this
      revert HF hO hOl
      generalize opM (s.data.toList.drop c) = O
      intro HF hO hOl
      have HO := Lib.hid hO; clear hO
      go_wp2
      go_region_held3 (fun w' => w'.cell? ⟨g, 0, none⟩ = some (.string s) ∧ w'.cell? ⟨g, 1, none⟩ = some (.int .i64 c))
        (first
          | go_keep
          | (go_split_ands; exact ⟨hC1.cell (by assumption) (fun e => e), hC1.cell (by assumption) (fun e => e)⟩))
        (first | (go_at_call 59; refine (op_calls _ _).mono ?_; rintro e w1 ⟨rfl, hC1⟩; have kP5 := ParAt.step0 (KP.out.drewN _) hC1; have kcl5 := row_cells kP5.part; have kfr5 := row_free kP5.part; have KP5 := Lib.hid kP5; clear kP5))
      have hO' : opM (List.take (s.size - c) (s.data.toList.drop c)) = O := by rw [List.take_of_length_le (by rw [drop_len]; omega), ← HO.out, Lib.extract_to_end]
      simp only [hO']
      have kP : ParAt w (w1.setCell ⟨w.heap.size + 1, 3, none⟩ (.string (bstr O))) g s (c) (d + 1) q tx (bstr O) (.slice none 0 0) := ParAt.op' KP5.out (bstr O)
      clear h0 h1 h2 f1 f2 hgl kcl kfr kcl0 kfr0 hsz hgo hn1 hn2 hn3 hn4 KP
      revert kP
      generalize w1.setCell ⟨w.heap.size + 1, 3, none⟩ (.string (bstr O)) = wr4
      intro kP
      clear kcl5 kfr5 KP5 hC1 wr3 HO hO' t1 t2
      have hos : (bstr O).size = O.length := by rw [← len_data, bstr_toList]
      revert hos
      revert kP
      generalize hob : bstr O = ob
      intro kP hos
      have HOB := Lib.hid hob.symm; clear hob
      obtain ⟨h0, h1, h2, f1, f2, hgl⟩ := kP.scan.cells
      have kcl := row_cells kP.part
      have kfr := row_free kP.part
      have kcl0 := row_cells kP.res
      have kfr0 := row_free kP.res
      have hsz := row_lt kP.part
      have hgo := kP.old
      have hn1 : ¬ w.heap.size + 1 = g := by omega
      have hn2 : ¬ g = w.heap.size + 1 := by omega
      have hn3 : ¬ w.heap.size = g := by omega
      have hn4 : ¬ g = w.heap.size := by omega
      have KP := Lib.hid kP; clear kP
      have t1 : IntKind.i64.wrap ((c : Int) + (ob.size : Int)) = (c : Int) + (ob.size : Int) := IntWalk.i64_in _ (by omega)
      go_wp2
      refine still_tail2 10 (by kernel_rfl) (by kernel_rfl) ?_
      simp only [List.take_succ_cons, List.take_zero, List.drop_succ_cons, List.drop_zero]
      repeat still_step
      refine wpStill_nil ?_
      by_cases hO : O = []
      · have hoe : ob.toList.isEmpty = true := by rw [ByteArray.toList_eq, HOB.out, bstr_toList, hO]; rfl
        obtain ⟨l, hl, HF1⟩ : ∃ l, l = ([] : List Part) ∧ Hid (finish (s.size - a) q T O (.ok l (s.data.toList.drop (c + O.length))) = R) := ⟨[], rfl, Lib.hid (by rw [← HF.out, if_pos (by rw [hO]; rfl), hO]; rfl)⟩
        clear HF
        have HF := HF1; clear HF1
        have hcl2 : c + O.length ≤ s.size := by omega
        clear hO
        go_wp2
        have kP : ParAt w ((wr4.setCell ⟨g, 1, none⟩ (.int .i64 ((c : Int) + (O.length : Int)))).drew) g s (c + O.length) (d + 1) q tx ob (.slice none 0 0) := (KP.out.at' (c + O.length)).drewN 1
        clear h0 h1 h2 f1 f2 hgl kcl kfr kcl0 kfr0 hsz hgo hn1 hn2 hn3 hn4 KP
        revert kP
        generalize (wr4.setCell ⟨g, 1, none⟩ (.int .i64 ((c : Int) + (O.length : Int)))).drew = wr5
        intro kP
        have hac2 : a + 3 ≤ c + O.length := by omega
        clear hoe t0 t1 hcs hac hkle
        revert hac2; revert hcl2; revert kP; revert HF
        generalize c + O.length = c2
        intro HF kP hcl2 hac2
        have HV : Rep wr5 (fun j => w.heap.size + 2 ≤ j) (.sl 35 5 (Part.ds l)) [.slice none 0 0] := by rw [hl]; exact (Own.nil _ _ _ _).rep
        have hwl : Part.wts l ≤ 20000 := by rw [hl]; simp [Part.wts]
        clear hl
        obtain ⟨h0, h1, h2, f1, f2, hgl⟩ := kP.scan.cells
        have kcl := row_cells kP.part
        have kfr := row_free kP.part
        have kcl0 := row_cells kP.res
        have kfr0 := row_free kP.res
        have hsz := row_lt kP.part
        have hgo := kP.old
        have hn1 : ¬ w.heap.size + 1 = g := by omega
        have hn2 : ¬ g = w.heap.size + 1 := by omega
        have hn3 : ¬ w.heap.size = g := by omega
        have hn4 : ¬ g = w.heap.size := by omega
        have KP := Lib.hid kP; clear kP
        have t0 : (0 : Int) ≤ (c2 : Int) := by omega
        go_quiet (fail)
        by_cases hend : c2 = s.size
        · have t1 : ((c2 : Int) == (s.size : Int)) = true := by simp; omega
          go_wp2_with (go_at_call 36; refine (fail_calls _ _ _ _).mono ?_; rintro e w1 ⟨rfl, rfl⟩)
          refine ⟨rfl, ?_⟩
          rw [← HF.out, drop_end s c2 (by omega)]
          exact ⟨a, by omega, rfl, rfl, ((KP.out.chg.drewN _).mono (fun _ h _ => h))⟩
        · have t1 : ((c2 : Int) == (s.size : Int)) = false := by simp; omega
          have hclt : c2 < s.size := by omega
          have hHB : isAt (s.data.toList.drop c2) 0 125 = (s[c2] == 125) := by rw [byte_drop s c2 hclt]; rfl
          have HFE : Hid (R = if s[c2] == 125 then .ok (allB (.mk 2 q T O l) q) (s.data.toList.drop (c2 + 1)) else .err (s.size - c2) 61) := Lib.hid (by
            rw [← HF.out, byte_drop s c2 hclt]
            simp only [finish, drop_len]
            split
            · rfl
            · rw [show s.size - (c2 + 1) + 1 = s.size - c2 by omega])
          clear HF
          have hA := KP.out.scan
          go_wp2_with fail
          cases hbr : s[c2] == 125
          case false =>
            rw [hbr] at hHB
            refine Calls.mono (is_brace g s c2 _ _ (hA.drewN _) (by omega) hs _ hHB) ?_
            rintro e w' ⟨rfl, m, rfl⟩
            go_wp2_with (go_at_call 36; refine (fail_calls _ _ _ _).mono ?_; rintro e w1 ⟨rfl, rfl⟩)
            refine ⟨rfl, ?_⟩
            rw [HFE.out, hbr]
            exact ⟨c2, by omega, rfl, rfl, KP.out.chg.drewN _⟩
          case true =>
            rw [hbr] at hHB
            refine Calls.mono (is_brace g s c2 _ _ (hA.drewN _) (by omega) hs _ hHB) ?_
            rintro e w' ⟨rfl, m, rfl⟩
            go_wp2_with fail
            have hrep : Rep wr5 (fun j => w.heap.size + 2 ≤ j) (Part.d (.mk 2 q T O l)) [.int .i64 2, .bool q, .string tx, .string ob, (.slice none 0 0)] := part_rep.2 ⟨_, by rw [HXT.out, HOB.out], HV⟩
            refine (all_calls _ (fun j => w.heap.size + 2 ≤ j) (.mk 2 q T O l) q [.int .i64 2, .bool q, .string tx, .string ob, (.slice none 0 0)] (by simp only [Part.wt]; omega) ?_).mono ?_
            · exact hrep.stay ((((Chg.refl (· = g) _).drewN _).setCell (fun _ => rfl) _).setCell (fun _ => rfl) _) (fun j h e => by omega)
            · rintro e w4 ⟨cs', rfl, hr', hC'⟩
              have kP4 : ParAt w w4 g s (c2 + 1) d q tx ob (.slice none 0 0) := ParAt.step0 (((KP.out.drewN _).at' (c2 + 1)).deep' d) hC'
              have hz : wr5.heap.size ≤ w4.heap.size := by simpa using hC'.size
              have HR1 : Hid (R = .ok (allB (.mk 2 q T O l) q) (s.data.toList.drop (c2 + 1))) := Lib.hid (by rw [HFE.out, if_pos hbr])
              clear HFE
              revert hr' HR1
              generalize allB (.mk 2 q T O l) q = pp
              obtain ⟨kd, qd, td, od, wd⟩ := pp
              intro hr' HR1
              obtain ⟨A', c', rfl, hwv, _, _⟩ := part_rep2 hr'
              have HREP := Lib.hid hr'; clear hr'
              clear h0 h1 h2 f1 f2 hgl kcl kfr kcl0 kfr0 KP hHB hbr hA
              have kcl0 := row_cells kP4.res
              have kfr0 := row_free kP4.res
              have hlt0 := row_lt kP4.res
              have KP := Lib.hid kP4; clear kP4
              go_wp2
              refine bodyPost_ret (v := .agg #[.int .i64 kd, .bool qd, .string (bstr td), .string (bstr od), .slice A' wd.length c']) (by simp [results, Try.results49, go_sem, kcl0]) rfl ?_
              rw [HR1.out]
              refine ⟨_, c2 + 1, rfl, hclt, rfl, ⟨_, rfl, ?_⟩, ?_, ?_⟩
              · refine (HREP.out.stay (((((((Chg.refl (fun j => j = w.heap.size) _).setCell (fun _ => rfl) _).setCell (fun _ => rfl) _).setCell (fun _ => rfl) _).setCell (fun _ => rfl) _).setCell (fun _ => rfl) _)) (fun j hj e => ?_)).mono (fun j hj _ => ?_)
                · simp at hj; omega
                · simp at hj; omega
              · exact row_far (row_far (row_far (row_far (row_far KP.out.scan hn4 _) hn4 _) hn4 _) hn4 _) hn4 _
              · exact ((((KP.out.chg.setCell (fun h => absurd h (by simp)) _).setCell (fun h => absurd h (by simp)) _).setCell (fun h => absurd h (by simp)) _).setCell (fun h => absurd h (by simp)) _).setCell (fun h => absurd h (by simp)) _
      · have hoe : ob.toList.isEmpty = false := by
          rw [ByteArray.toList_eq, HOB.out, bstr_toList]
          cases O with
          | nil => exact absurd rfl hO
          | cons x y => rfl
        have hOp : 0 < O.length := by
          cases O with
          | nil => exact absurd rfl hO
          | cons x y => simp
        have HF1 : Hid (∀ RW, wordF n (d + 1) true q [] (s.data.toList.drop (c + O.length)) = RW → finish (s.size - a) q T O RW = R) := Lib.hid (by
          rintro RW rfl
          rw [← HF.out, if_neg (by simpa using hO)])
        clear HF
        have HL := Lib.hid ((scan_len n).word (d + 1) true q [] (s.data.toList.drop (c + O.length)))
        go_wp2_with fail
        have hA4 : ScanAt ((wr4.setCell ⟨g, 1, none⟩ (.int .i64 ((c : Int) + (O.length : Int)))).drew) g s ((c + O.length : Nat) : Int) ((d + 1 : Nat) : Int) := (KP.out.at' (c + O.length)).scan
        refine (IH _ g s (c + O.length) (d + 1) true q hA4 (by omega) hs (by omega) (by omega)).mono ?_
        intro e w5 hpost
        generalize hRW : wordF n (d + 1) true q [] (s.data.toList.drop (c + O.length)) = RW at hpost HL
        have HF2 := Lib.hid (HF1.out RW hRW); clear HF1 hRW
        cases RW with
        | err left code =>
          obtain ⟨k5, hk5, hl5, rfl, hC5⟩ := hpost
          refine ⟨rfl, ?_⟩
          rw [← HF2.out]
          exact ⟨k5, hk5, hl5, rfl, ((KP.out.at' (c + O.length)).drewN 1).chg.trans hC5 (fun _ h _ => h)⟩
        | ok l rest =>
          obtain ⟨v5, k5, rfl, hk5, rfl, hO5, hA5, hC5⟩ := hpost
          have hL := HL.out _ _ rfl
          rw [drop_len, drop_len] at hL
          have hwl : Part.wts l ≤ 20000 := by simp only [Part.wts] at hL; omega
          have hac5 : a + 3 ≤ k5 := by omega
          have kP := ((KP.out.at' (c + O.length)).drewN 1).step hA5 hC5
          obtain ⟨A5, c5, rfl, _, hm5⟩ := Own.form hO5
          have hsz' : w.heap.size + 1 < (wr4.setCell ⟨g, 1, none⟩ (.int .i64 ((c : Int) + (O.length : Int)))).drew.heap.size := by simp; omega
          have HV5 : Rep w5 (fun j => w.heap.size + 2 ≤ j) (.sl 35 5 (Part.ds l)) [.slice A5 (Part.ds l).length c5] := (Own.rep hO5).mono (fun j h _ => h.elim (fun h => h.elim) (fun h => by omega))
          have HF := Lib.hid HF2.out
          clear HF2 HL hL hO5 hA5 hC5 hsz' hA4 hoe hOp hO t0 t1 hcs hac hkle KP h0 h1 h2 f1 f2 hgl kcl kfr kcl0 kfr0 hsz hgo hn1 hn2 hn3 hn4
          obtain ⟨h0, h1, h2, f1, f2, hgl⟩ := kP.scan.cells
          have kcl := row_cells kP.part
          have kfr := row_free kP.part
          have kcl0 := row_cells kP.res
          have kfr0 := row_free kP.res
          have hsz := row_lt kP.part
          have hgo := kP.old
          have hn1 : ¬ w.heap.size + 1 = g := by omega
          have hn2 : ¬ g = w.heap.size + 1 := by omega
          have hn3 : ¬ w.heap.size = g := by omega
          have hn4 : ¬ g = w.heap.size := by omega
          have KP := Lib.hid kP; clear kP
          go_wp2
          have HV6 := HV5.stay ((Chg.refl (fun j => j = w.heap.size + 1) _).setCell (p := ⟨w.heap.size + 1, 4, none⟩) (fun _ => rfl) (.slice A5 (Part.ds l).length c5)) (fun j h e => by omega)
          clear HV5
          revert HV6
          have kP : ParAt w (w5.setCell ⟨w.heap.size + 1, 4, none⟩ (.slice A5 (Part.ds l).length c5)) g s (k5) (d + 1) q tx ob (.slice A5 (Part.ds l).length c5) := KP.out.word (.slice A5 (Part.ds l).length c5)
          clear h0 h1 h2 f1 f2 hgl kcl kfr kcl0 kfr0 hsz hgo hn1 hn2 hn3 hn4 KP
          revert kP
          generalize w5.setCell ⟨w.heap.size + 1, 4, none⟩ (.slice A5 (Part.ds l).length c5) = wr6
          intro kP
          intro HV
          obtain ⟨h0, h1, h2, f1, f2, hgl⟩ := kP.scan.cells
          have kcl := row_cells kP.part
          have kfr := row_free kP.part
          have kcl0 := row_cells kP.res
          have kfr0 := row_free kP.res
          have hsz := row_lt kP.part
          have hgo := kP.old
          have hn1 : ¬ w.heap.size + 1 = g := by omega
          have hn2 : ¬ g = w.heap.size + 1 := by omega
          have hn3 : ¬ w.heap.size = g := by omega
          have hn4 : ¬ g = w.heap.size := by omega
          have KP := Lib.hid kP; clear kP
          have t0 : (0 : Int) ≤ (k5 : Int) := by omega
          go_quiet (fail)
          by_cases hend : k5 = s.size
          · have t1 : ((k5 : Int) == (s.size : Int)) = true := by simp; omega
            go_wp2_with (go_at_call 36; refine (fail_calls _ _ _ _).mono ?_; rintro e w1 ⟨rfl, rfl⟩)
            refine ⟨rfl, ?_⟩
            rw [← HF.out, drop_end s k5 (by omega)]
            exact ⟨a, by omega, rfl, rfl, ((KP.out.chg.drewN _).mono (fun _ h _ => h))⟩
          · have t1 : ((k5 : Int) == (s.size : Int)) = false := by simp; omega
            have hclt : k5 < s.size := by omega
            have hHB : isAt (s.data.toList.drop k5) 0 125 = (s[k5] == 125) := by rw [byte_drop s k5 hclt]; rfl
            have HFE : Hid (R = if s[k5] == 125 then .ok (allB (.mk 2 q T O l) q) (s.data.toList.drop (k5 + 1)) else .err (s.size - k5) 61) := Lib.hid (by
              rw [← HF.out, byte_drop s k5 hclt]
              simp only [finish, drop_len]
              split
              · rfl
              · rw [show s.size - (k5 + 1) + 1 = s.size - k5 by omega])
            clear HF
            have hA := KP.out.scan
            go_wp2_with fail
            cases hbr : s[k5] == 125
            case false =>
              rw [hbr] at hHB
              refine Calls.mono (is_brace g s k5 _ _ (hA.drewN _) (by omega) hs _ hHB) ?_
              rintro e w' ⟨rfl, m, rfl⟩
              go_wp2_with (go_at_call 36; refine (fail_calls _ _ _ _).mono ?_; rintro e w1 ⟨rfl, rfl⟩)
              refine ⟨rfl, ?_⟩
              rw [HFE.out, hbr]
              exact ⟨k5, by omega, rfl, rfl, KP.out.chg.drewN _⟩
            case true =>
              rw [hbr] at hHB
              refine Calls.mono (is_brace g s k5 _ _ (hA.drewN _) (by omega) hs _ hHB) ?_
              rintro e w' ⟨rfl, m, rfl⟩
              go_wp2_with fail
              have hrep : Rep wr6 (fun j => w.heap.size + 2 ≤ j) (Part.d (.mk 2 q T O l)) [.int .i64 2, .bool q, .string tx, .string ob, (.slice A5 (Part.ds l).length c5)] := part_rep.2 ⟨_, by rw [HXT.out, HOB.out], HV⟩
              refine (all_calls _ (fun j => w.heap.size + 2 ≤ j) (.mk 2 q T O l) q [.int .i64 2, .bool q, .string tx, .string ob, (.slice A5 (Part.ds l).length c5)] (by simp only [Part.wt]; omega) ?_).mono ?_
              · exact hrep.stay ((((Chg.refl (· = g) _).drewN _).setCell (fun _ => rfl) _).setCell (fun _ => rfl) _) (fun j h e => by omega)
              · rintro e w4 ⟨cs', rfl, hr', hC'⟩
                have kP4 : ParAt w w4 g s (k5 + 1) d q tx ob (.slice A5 (Part.ds l).length c5) := ParAt.step0 (((KP.out.drewN _).at' (k5 + 1)).deep' d) hC'
                have hz : wr6.heap.size ≤ w4.heap.size := by simpa using hC'.size
                have HR1 : Hid (R = .ok (allB (.mk 2 q T O l) q) (s.data.toList.drop (k5 + 1))) := Lib.hid (by rw [HFE.out, if_pos hbr])
                clear HFE
                revert hr' HR1
                generalize allB (.mk 2 q T O l) q = pp
                obtain ⟨kd, qd, td, od, wd⟩ := pp
                intro hr' HR1
                obtain ⟨A', c', rfl, hwv, _, _⟩ := part_rep2 hr'
                have HREP := Lib.hid hr'; clear hr'
                clear h0 h1 h2 f1 f2 hgl kcl kfr kcl0 kfr0 KP hHB hbr hA
                have kcl0 := row_cells kP4.res
                have kfr0 := row_free kP4.res
                have hlt0 := row_lt kP4.res
                have KP := Lib.hid kP4; clear kP4
                go_wp2
                refine bodyPost_ret (v := .agg #[.int .i64 kd, .bool qd, .string (bstr td), .string (bstr od), .slice A' wd.length c']) (by simp [results, Try.results49, go_sem, kcl0]) rfl ?_
                rw [HR1.out]
                refine ⟨_, k5 + 1, rfl, hclt, rfl, ⟨_, rfl, ?_⟩, ?_, ?_⟩
                · refine (HREP.out.stay (((((((Chg.refl (fun j => j = w.heap.size) _).setCell (fun _ => rfl) _).setCell (fun _ => rfl) _).setCell (fun _ => rfl) _).setCell (fun _ => rfl) _).setCell (fun _ => rfl) _)) (fun j hj e => ?_)).mono (fun j hj _ => ?_)
                  · simp at hj; omega
                  · simp at hj; omega
                · exact row_far (row_far (row_far (row_far (row_far KP.out.scan hn4 _) hn4 _) hn4 _) hn4 _) hn4 _
                · exact ((((KP.out.chg.setCell (fun h => absurd h (by simp)) _).setCell (fun h => absurd h (by simp)) _).setCell (fun h => absurd h (by simp)) _).setCell (fun h => absurd h (by simp)) _).setCell (fun h => absurd h (by simp)) _
    · have t1 : decide ((c : Int) < (s.size : Int)) = false := by simp; omega
      obtain ⟨O, l, hO, hl, HF1⟩ : ∃ O l, O = ([] : Bytes) ∧ l = ([] : List Part) ∧ Hid (finish (s.size - a) q T O (.ok l (s.data.toList.drop c)) = R) := ⟨[], [], rfl, rfl, Lib.hid (by rw [← HF.out, drop_end s c hcs]; rfl)⟩
      clear HF
      have HF := HF1; clear HF1
      have hOl : O.length ≤ 64 := by rw [hO]; decide
      have HOB : Hid (⟨#[]⟩ = bstr O) := Lib.hid (by rw [hO]; rfl)
      clear hO
      have HV : Rep wr3 (fun j => w.heap.size + 2 ≤ j) (.sl 35 5 (Part.ds l)) [.slice none 0 0] := by rw [hl]; exact (Own.nil _ _ _ _).rep
      have hwl : Part.wts l ≤ 20000 := by rw [hl]; simp [Part.wts]
      clear hl
      go_quiet (fail)
      go_wp2
      have t0 : (0 : Int) ≤ (c : Int) := by omega
      go_quiet (fail)
      have t1 : ((c : Int) == (s.size : Int)) = true := by simp; omega
      go_wp2_with (go_at_call 36; refine (fail_calls _ _ _ _).mono ?_; rintro e w1 ⟨rfl, rfl⟩)
      refine ⟨rfl, ?_⟩
      rw [← HF.out, drop_end s c (by omega)]
      exact ⟨a, by omega, rfl, rfl, ((KP.out.chg.drewN _).mono (fun _ h _ => h))⟩
set_option maxRecDepth 100000 in
set_option maxHeartbeats 4000000 in
theorem param_op2 (n : Nat) (IH : WordSaid n) (w : World) (g : Nat) (s : ByteArray) (a d : Nat) (q : Bool) (h : ScanAt w g s a d) (ha : a + 2 ≤ s.size) (hs : s.size ≤ 8192) (hd : ¬ 16 < d + 1) (hf : 4 * (s.size - a) ≤ n + 1) (i0 : isAt (s.data.toList.drop (a + 2)) 0 35 = true) (hnl : ¬ a + 3 < s.size) :
    Calls Try.prog 49 #[.pointer (some ⟨g, 0, none⟩), .bool q] w (ScanPost w g s d (paramF (n + 1) d q (s.data.toList.drop (a + 2))) (fun _ => False) (PartVal w)) := by
  generalize hR : paramF (n + 1) d q (s.data.toList.drop (a + 2)) = R
  have hlen : lenB (s.data.toList.drop (a + 2)) = false := by rw [lenB_is, drop_len]; simp [i0]; omega
  rw [paramF, if_neg hd, hlen, if_neg (by simp), drop_len, show s.size - (a + 2) + 2 = s.size - a by omega] at hR
  have HR := Lib.hid hR; clear hR hlen
  obtain ⟨h0, h1, h2, f1, f2, hgl⟩ := h.cells
  have e1 : decide ((16 : Int) < (d : Int) + 1) = false := by simp; omega
  have kP := ParAt.start h q (a + 2) (d + 1)
  have i2 : decide ((a : Int) + 2 + 1 < (s.size : Int)) = false := by simp; omega
  go_enter Try.func49, Try.ntmps49
  go_wp2
  simp only [Int.natCast_add, Int.cast_ofNat_Int] at kP
  revert kP
  generalize (((w.setCell ⟨g, 2, none⟩ (.int .i64 ((d : Int) + 1))).setCell ⟨g, 1, none⟩ (.int .i64 ((a : Int) + 2))).alloc (.cells #[.int .i64 0, .bool false, .string ⟨#[]⟩, .string ⟨#[]⟩, .slice none 0 0] 35)).alloc (.cells #[.int .i64 2, .bool q, .string ⟨#[]⟩, .string ⟨#[]⟩, .slice none 0 0] 35) = wr
  intro kP
  clear h0 h1 h2 f1 f2 hgl h
  have hA : ScanAt wr g s ((a + 2 : Nat) : Int) ((d : Int) + 1) := kP.scan
  obtain ⟨h0, h1, h2, f1, f2, hgl⟩ := kP.scan.cells
  have kcl := row_cells kP.part
  have kfr := row_free kP.part
  have kcl0 := row_cells kP.res
  have kfr0 := row_free kP.res
  have hsz := row_lt kP.part
  have hgo := kP.old
  have hn1 : ¬ w.heap.size + 1 = g := by omega
  have hn2 : ¬ g = w.heap.size + 1 := by omega
  have hn3 : ¬ w.heap.size = g := by omega
  have hn4 : ¬ g = w.heap.size := by omega
  have KP := Lib.hid kP; clear kP
  go_quiet ((go_at_call 57; exact (is_hash g s (a + 2) _ _ (hA.drewN _) ha hs _ i0).quiet_of))
  go_wp2
  have kP : ParAt w (wr.drewN nq) g s (a + 2) (d + 1) q ⟨#[]⟩ ⟨#[]⟩ (.slice none 0 0) := KP.out.drewN nq
  clear h0 h1 h2 f1 f2 hgl kcl kfr kcl0 kfr0 hsz hgo hn1 hn2 hn3 hn4 KP
  revert kP
  generalize wr.drewN nq = wr2
  intro kP
  clear hA wr
  clear i0 i2 hnl
  obtain ⟨b, hbe⟩ : ∃ b, b = a + 2 := ⟨_, rfl⟩
  rw [← hbe] at kP HR
  have hb0 : b ≤ s.size := by omega
  have hba : a + 2 ≤ b := by omega
  clear hbe
  obtain ⟨h0, h1, h2, f1, f2, hgl⟩ := kP.scan.cells
  have kcl := row_cells kP.part
  have kfr := row_free kP.part
  have kcl0 := row_cells kP.res
  have kfr0 := row_free kP.res
  have hsz := row_lt kP.part
  have hgo := kP.old
  have hn1 : ¬ w.heap.size + 1 = g := by omega
  have hn2 : ¬ g = w.heap.size + 1 := by omega
  have hn3 : ¬ w.heap.size = g := by omega
  have hn4 : ¬ g = w.heap.size := by omega
  have KP := Lib.hid kP; clear kP
  generalize hk : parameter (s.data.toList.drop b) = k at HR
  have hkle : b + k ≤ s.size := by have := parameter_le (s.data.toList.drop b); rw [hk, drop_len] at this; omega
  have HK := Lib.hid hk
  have HTP : Hid (parameter (s.extract b s.size).data.toList = k) := Lib.hid (by rw [Lib.extract_to_end]; exact hk)
  clear hk
  have p0 : (0 : Int) ≤ (b : Int) := by omega
  have p1 : (b : Int) ≤ (s.size : Int) := by omega
  have htz : (s.extract b s.size).size ≤ 8192 := by simp [ByteArray.size_extract]; omega
  go_quiet ((go_at_call 58; exact (par_q _ _ _ htz HTP.out).quiet_of_same))
  revert nq; intro nq1
  clear htz p1
  have hgood : (k == 0 || decide (k > 64)) = true ∨ (0 < k ∧ k ≤ 64) := by
    by_cases hh : 0 < k ∧ k ≤ 64
    · exact .inr hh
    · left; simp; omega
  rcases hgood with hbad | ⟨hk0, hk64⟩
  · have HRE : Hid (R = .err (s.size - b) 61) := Lib.hid (by rw [← HR.out, paramG, HK.out, if_pos hbad, drop_len])
    clear HR
    cases hk0 : k == 0
    case true =>
      obtain rfl : k = 0 := by simpa using hk0
      go_wp2_with (go_at_call 36; refine (fail_calls _ _ _ _).mono ?_; rintro e w1 ⟨rfl, rfl⟩)
      refine ⟨rfl, ?_⟩
      rw [HRE.out]
      exact ⟨b, by omega, rfl, rfl, KP.out.chg.drewN _⟩
    case false =>
      have hk1 : ((k : Int) == 0) = false := by simp at hk0 ⊢; omega
      have hk64 : decide ((64 : Int) < (k : Int)) = true := by rw [hk0] at hbad; simp at hbad ⊢; omega
      clear hk0 hbad
      go_wp2_with (go_at_call 36; refine (fail_calls _ _ _ _).mono ?_; rintro e w1 ⟨rfl, rfl⟩)
      refine ⟨rfl, ?_⟩
      rw [HRE.out]
      exact ⟨b, by omega, rfl, rfl, KP.out.chg.drewN _⟩
  · have HF : Hid (finish (s.size - a) q ((s.data.toList.drop b).take k) (opM (s.data.toList.drop (b + k))) (if opM (s.data.toList.drop (b + k)) == [] then .ok [] (s.data.toList.drop (b + k)) else wordF n (d + 1) true q [] (s.data.toList.drop (b + k + (opM (s.data.toList.drop (b + k))).length))) = R) := Lib.hid (by
      rw [← HR.out, paramG, HK.out, if_neg (show ¬ (k == 0 || decide (k > 64)) = true by simp; omega)]
      simp only [Bool.false_or, Bool.false_eq_true, if_false, List.drop_drop])
    have hk1 : ((k : Int) == 0) = false := by simp; omega
    have hk2 : decide ((64 : Int) < (k : Int)) = false := by simp; omega
    have p1 : (b : Int) ≤ (b : Int) + (k : Int) := by omega
    have p3 : (0 : Int) ≤ (k : Int) := by omega
    have p4 : IntKind.i64.wrap ((b : Int) + (k : Int)) = (b : Int) + (k : Int) := IntWalk.i64_in _ (by omega)
    have p5 : ((b : Int) + (k : Int)).toNat = b + k := by omega
    have p2 : (b : Int) + (k : Int) ≤ (s.size : Int) := by omega
    have hxt := extract_bstr s b (b + k)
    rw [show b + k - b = k by omega] at hxt
    have HXT := Lib.hid hxt; clear hxt
    go_wp2
    refine still_tail2 16 (by kernel_rfl) (by kernel_rfl) ?_
    simp only [List.take_succ_cons, List.take_zero, List.drop_succ_cons, List.drop_zero]
    repeat still_step
    refine wpStill_nil ?_
    go_wp2
    have kP : ParAt w (((wr2.drewN (nq1 + 1)).setCell ⟨w.heap.size + 1, 2, none⟩ (.string (s.extract b (b + k)))).setCell ⟨g, 1, none⟩ (.int .i64 ((b : Int) + (k : Int)))) g s (b + k) (d + 1) q (s.extract b (b + k)) ⟨#[]⟩ (.slice none 0 0) := ((KP.out.drewN (nq1 + 1)).text (s.extract b (b + k))).at' (b + k)
    clear h0 h1 h2 f1 f2 hgl kcl kfr kcl0 kfr0 hsz hgo hn1 hn2 hn3 hn4 KP
    revert kP
    generalize ((wr2.drewN (nq1 + 1)).setCell ⟨w.heap.size + 1, 2, none⟩ (.string (s.extract b (b + k)))).setCell ⟨g, 1, none⟩ (.int .i64 ((b : Int) + (k : Int))) = wr3
    intro kP
    clear p0 p1 p2 p3 p4 p5 hk1 hk2 HTP HK HR e1 wr2
    have hTl : ((s.data.toList.drop b).take k).length ≤ 64 := by simp; omega
    revert hTl
    revert kP
    revert HXT
    revert HF
    generalize s.extract b (b + k) = tx
    generalize (s.data.toList.drop b).take k = T
    obtain ⟨c, hc⟩ : ∃ c, c = b + k := ⟨_, rfl⟩
    rw [← hc] at hkle ⊢
    intro HF HXT kP hTl
    have hac : a + 3 ≤ c := by omega
    clear hc hba hb0 hk0 hk64
    obtain ⟨h0, h1, h2, f1, f2, hgl⟩ := kP.scan.cells
    have kcl := row_cells kP.part
    have kfr := row_free kP.part
    have kcl0 := row_cells kP.res
    have kfr0 := row_free kP.res
    have hsz := row_lt kP.part
    have hgo := kP.old
    have hn1 : ¬ w.heap.size + 1 = g := by omega
    have hn2 : ¬ g = w.heap.size + 1 := by omega
    have hn3 : ¬ w.heap.size = g := by omega
    have hn4 : ¬ g = w.heap.size := by omega
    have KP := Lib.hid kP; clear kP
    by_cases hcs : c < s.size
    · have t1 : decide ((c : Int) < (s.size : Int)) = true := by simp; omega
      have t0 : (0 : Int) ≤ (c : Int) := by omega
      have t2 : (c : Int) ≤ (s.size : Int) := by omega
      go_quiet (fail)
      have hO : opM (s.extract c s.size).data.toList = opM (s.data.toList.drop c) := by rw [Lib.extract_to_end]
      have hOl : (opM (s.data.toList.drop c)).length ≤ s.size - c := by have := opL_prefix ops (s.data.toList.drop c); rwa [drop_len] at this
      revert HF hO hOl
      generalize opM (s.data.toList.drop c) = O
      intro HF hO hOl
      have HO := Lib.hid hO; clear hO
      go_wp2
      go_region_held3 (fun w' => w'.cell? ⟨g, 0, none⟩ = some (.string s) ∧ w'.cell? ⟨g, 1, none⟩ = some (.int .i64 c))
        (first
          | go_keep
          | (go_split_ands; exact ⟨hC1.cell (by assumption) (fun e => e), hC1.cell (by assumption) (fun e => e)⟩))
        (first | (go_at_call 59; refine (op_calls _ _).mono ?_; rintro e w1 ⟨rfl, hC1⟩; have kP5 := ParAt.step0 (KP.out.drewN _) hC1; have kcl5 := row_cells kP5.part; have kfr5 := row_free kP5.part; have KP5 := Lib.hid kP5; clear kP5))
      have hO' : opM (List.take (s.size - c) (s.data.toList.drop c)) = O := by rw [List.take_of_length_le (by rw [drop_len]; omega), ← HO.out, Lib.extract_to_end]
      simp only [hO']
      have kP : ParAt w (w1.setCell ⟨w.heap.size + 1, 3, none⟩ (.string (bstr O))) g s (c) (d + 1) q tx (bstr O) (.slice none 0 0) := ParAt.op' KP5.out (bstr O)
      clear h0 h1 h2 f1 f2 hgl kcl kfr kcl0 kfr0 hsz hgo hn1 hn2 hn3 hn4 KP
      revert kP
      generalize w1.setCell ⟨w.heap.size + 1, 3, none⟩ (.string (bstr O)) = wr4
      intro kP
      clear kcl5 kfr5 KP5 hC1 wr3 HO hO' t1 t2
      have hos : (bstr O).size = O.length := by rw [← len_data, bstr_toList]
      revert hos
      revert kP
      generalize hob : bstr O = ob
      intro kP hos
      have HOB := Lib.hid hob.symm; clear hob
      obtain ⟨h0, h1, h2, f1, f2, hgl⟩ := kP.scan.cells
      have kcl := row_cells kP.part
      have kfr := row_free kP.part
      have kcl0 := row_cells kP.res
      have kfr0 := row_free kP.res
      have hsz := row_lt kP.part
      have hgo := kP.old
      have hn1 : ¬ w.heap.size + 1 = g := by omega
      have hn2 : ¬ g = w.heap.size + 1 := by omega
      have hn3 : ¬ w.heap.size = g := by omega
      have hn4 : ¬ g = w.heap.size := by omega
      have KP := Lib.hid kP; clear kP
      have t1 : IntKind.i64.wrap ((c : Int) + (ob.size : Int)) = (c : Int) + (ob.size : Int) := IntWalk.i64_in _ (by omega)
      go_wp2
      refine still_tail2 10 (by kernel_rfl) (by kernel_rfl) ?_
      simp only [List.take_succ_cons, List.take_zero, List.drop_succ_cons, List.drop_zero]
      repeat still_step
      refine wpStill_nil ?_
      by_cases hO : O = []
      · have hoe : ob.toList.isEmpty = true := by rw [ByteArray.toList_eq, HOB.out, bstr_toList, hO]; rfl
        obtain ⟨l, hl, HF1⟩ : ∃ l, l = ([] : List Part) ∧ Hid (finish (s.size - a) q T O (.ok l (s.data.toList.drop (c + O.length))) = R) := ⟨[], rfl, Lib.hid (by rw [← HF.out, if_pos (by rw [hO]; rfl), hO]; rfl)⟩
        clear HF
        have HF := HF1; clear HF1
        have hcl2 : c + O.length ≤ s.size := by omega
        clear hO
        go_wp2
        have kP : ParAt w ((wr4.setCell ⟨g, 1, none⟩ (.int .i64 ((c : Int) + (O.length : Int)))).drew) g s (c + O.length) (d + 1) q tx ob (.slice none 0 0) := (KP.out.at' (c + O.length)).drewN 1
        clear h0 h1 h2 f1 f2 hgl kcl kfr kcl0 kfr0 hsz hgo hn1 hn2 hn3 hn4 KP
        revert kP
        generalize (wr4.setCell ⟨g, 1, none⟩ (.int .i64 ((c : Int) + (O.length : Int)))).drew = wr5
        intro kP
        have hac2 : a + 3 ≤ c + O.length := by omega
        clear hoe t0 t1 hcs hac hkle
        revert hac2; revert hcl2; revert kP; revert HF
        generalize c + O.length = c2
        intro HF kP hcl2 hac2
        have HV : Rep wr5 (fun j => w.heap.size + 2 ≤ j) (.sl 35 5 (Part.ds l)) [.slice none 0 0] := by rw [hl]; exact (Own.nil _ _ _ _).rep
        have hwl : Part.wts l ≤ 20000 := by rw [hl]; simp [Part.wts]
        clear hl
        obtain ⟨h0, h1, h2, f1, f2, hgl⟩ := kP.scan.cells
        have kcl := row_cells kP.part
        have kfr := row_free kP.part
        have kcl0 := row_cells kP.res
        have kfr0 := row_free kP.res
        have hsz := row_lt kP.part
        have hgo := kP.old
        have hn1 : ¬ w.heap.size + 1 = g := by omega
        have hn2 : ¬ g = w.heap.size + 1 := by omega
        have hn3 : ¬ w.heap.size = g := by omega
        have hn4 : ¬ g = w.heap.size := by omega
        have KP := Lib.hid kP; clear kP
        have t0 : (0 : Int) ≤ (c2 : Int) := by omega
        go_quiet (fail)
        by_cases hend : c2 = s.size
        · have t1 : ((c2 : Int) == (s.size : Int)) = true := by simp; omega
          go_wp2_with (go_at_call 36; refine (fail_calls _ _ _ _).mono ?_; rintro e w1 ⟨rfl, rfl⟩)
          refine ⟨rfl, ?_⟩
          rw [← HF.out, drop_end s c2 (by omega)]
          exact ⟨a, by omega, rfl, rfl, ((KP.out.chg.drewN _).mono (fun _ h _ => h))⟩
        · have t1 : ((c2 : Int) == (s.size : Int)) = false := by simp; omega
          have hclt : c2 < s.size := by omega
          have hHB : isAt (s.data.toList.drop c2) 0 125 = (s[c2] == 125) := by rw [byte_drop s c2 hclt]; rfl
          have HFE : Hid (R = if s[c2] == 125 then .ok (allB (.mk 2 q T O l) q) (s.data.toList.drop (c2 + 1)) else .err (s.size - c2) 61) := Lib.hid (by
            rw [← HF.out, byte_drop s c2 hclt]
            simp only [finish, drop_len]
            split
            · rfl
            · rw [show s.size - (c2 + 1) + 1 = s.size - c2 by omega])
          clear HF
          have hA := KP.out.scan
          go_wp2_with fail
          cases hbr : s[c2] == 125
          case false =>
            rw [hbr] at hHB
            refine Calls.mono (is_brace g s c2 _ _ (hA.drewN _) (by omega) hs _ hHB) ?_
            rintro e w' ⟨rfl, m, rfl⟩
            go_wp2_with (go_at_call 36; refine (fail_calls _ _ _ _).mono ?_; rintro e w1 ⟨rfl, rfl⟩)
            refine ⟨rfl, ?_⟩
            rw [HFE.out, hbr]
            exact ⟨c2, by omega, rfl, rfl, KP.out.chg.drewN _⟩
          case true =>
            rw [hbr] at hHB
            refine Calls.mono (is_brace g s c2 _ _ (hA.drewN _) (by omega) hs _ hHB) ?_
            rintro e w' ⟨rfl, m, rfl⟩
            go_wp2_with fail
            have hrep : Rep wr5 (fun j => w.heap.size + 2 ≤ j) (Part.d (.mk 2 q T O l)) [.int .i64 2, .bool q, .string tx, .string ob, (.slice none 0 0)] := part_rep.2 ⟨_, by rw [HXT.out, HOB.out], HV⟩
            refine (all_calls _ (fun j => w.heap.size + 2 ≤ j) (.mk 2 q T O l) q [.int .i64 2, .bool q, .string tx, .string ob, (.slice none 0 0)] (by simp only [Part.wt]; omega) ?_).mono ?_
            · exact hrep.stay ((((Chg.refl (· = g) _).drewN _).setCell (fun _ => rfl) _).setCell (fun _ => rfl) _) (fun j h e => by omega)
            · rintro e w4 ⟨cs', rfl, hr', hC'⟩
              have kP4 : ParAt w w4 g s (c2 + 1) d q tx ob (.slice none 0 0) := ParAt.step0 (((KP.out.drewN _).at' (c2 + 1)).deep' d) hC'
              have hz : wr5.heap.size ≤ w4.heap.size := by simpa using hC'.size
              have HR1 : Hid (R = .ok (allB (.mk 2 q T O l) q) (s.data.toList.drop (c2 + 1))) := Lib.hid (by rw [HFE.out, if_pos hbr])
              clear HFE
              revert hr' HR1
              generalize allB (.mk 2 q T O l) q = pp
              obtain ⟨kd, qd, td, od, wd⟩ := pp
              intro hr' HR1
              obtain ⟨A', c', rfl, hwv, _, _⟩ := part_rep2 hr'
              have HREP := Lib.hid hr'; clear hr'
              clear h0 h1 h2 f1 f2 hgl kcl kfr kcl0 kfr0 KP hHB hbr hA
              have kcl0 := row_cells kP4.res
              have kfr0 := row_free kP4.res
              have hlt0 := row_lt kP4.res
              have KP := Lib.hid kP4; clear kP4
              go_wp2
              refine bodyPost_ret (v := .agg #[.int .i64 kd, .bool qd, .string (bstr td), .string (bstr od), .slice A' wd.length c']) (by simp [results, Try.results49, go_sem, kcl0]) rfl ?_
              rw [HR1.out]
              refine ⟨_, c2 + 1, rfl, hclt, rfl, ⟨_, rfl, ?_⟩, ?_, ?_⟩
              · refine (HREP.out.stay (((((((Chg.refl (fun j => j = w.heap.size) _).setCell (fun _ => rfl) _).setCell (fun _ => rfl) _).setCell (fun _ => rfl) _).setCell (fun _ => rfl) _).setCell (fun _ => rfl) _)) (fun j hj e => ?_)).mono (fun j hj _ => ?_)
                · simp at hj; omega
                · simp at hj; omega
              · exact row_far (row_far (row_far (row_far (row_far KP.out.scan hn4 _) hn4 _) hn4 _) hn4 _) hn4 _
              · exact ((((KP.out.chg.setCell (fun h => absurd h (by simp)) _).setCell (fun h => absurd h (by simp)) _).setCell (fun h => absurd h (by simp)) _).setCell (fun h => absurd h (by simp)) _).setCell (fun h => absurd h (by simp)) _
      · have hoe : ob.toList.isEmpty = false := by
          rw [ByteArray.toList_eq, HOB.out, bstr_toList]
          cases O with
          | nil => exact absurd rfl hO
          | cons x y => rfl
        have hOp : 0 < O.length := by
          cases O with
          | nil => exact absurd rfl hO
          | cons x y => simp
        have HF1 : Hid (∀ RW, wordF n (d + 1) true q [] (s.data.toList.drop (c + O.length)) = RW → finish (s.size - a) q T O RW = R) := Lib.hid (by
          rintro RW rfl
          rw [← HF.out, if_neg (by simpa using hO)])
        clear HF
        have HL := Lib.hid ((scan_len n).word (d + 1) true q [] (s.data.toList.drop (c + O.length)))
        go_wp2_with fail
        have hA4 : ScanAt ((wr4.setCell ⟨g, 1, none⟩ (.int .i64 ((c : Int) + (O.length : Int)))).drew) g s ((c + O.length : Nat) : Int) ((d + 1 : Nat) : Int) := (KP.out.at' (c + O.length)).scan
        refine (IH _ g s (c + O.length) (d + 1) true q hA4 (by omega) hs (by omega) (by omega)).mono ?_
        intro e w5 hpost
        generalize hRW : wordF n (d + 1) true q [] (s.data.toList.drop (c + O.length)) = RW at hpost HL
        have HF2 := Lib.hid (HF1.out RW hRW); clear HF1 hRW
        cases RW with
        | err left code =>
          obtain ⟨k5, hk5, hl5, rfl, hC5⟩ := hpost
          refine ⟨rfl, ?_⟩
          rw [← HF2.out]
          exact ⟨k5, hk5, hl5, rfl, ((KP.out.at' (c + O.length)).drewN 1).chg.trans hC5 (fun _ h _ => h)⟩
        | ok l rest =>
          obtain ⟨v5, k5, rfl, hk5, rfl, hO5, hA5, hC5⟩ := hpost
          have hL := HL.out _ _ rfl
          rw [drop_len, drop_len] at hL
          have hwl : Part.wts l ≤ 20000 := by simp only [Part.wts] at hL; omega
          have hac5 : a + 3 ≤ k5 := by omega
          have kP := ((KP.out.at' (c + O.length)).drewN 1).step hA5 hC5
          obtain ⟨A5, c5, rfl, _, hm5⟩ := Own.form hO5
          have hsz' : w.heap.size + 1 < (wr4.setCell ⟨g, 1, none⟩ (.int .i64 ((c : Int) + (O.length : Int)))).drew.heap.size := by simp; omega
          have HV5 : Rep w5 (fun j => w.heap.size + 2 ≤ j) (.sl 35 5 (Part.ds l)) [.slice A5 (Part.ds l).length c5] := (Own.rep hO5).mono (fun j h _ => h.elim (fun h => h.elim) (fun h => by omega))
          have HF := Lib.hid HF2.out
          clear HF2 HL hL hO5 hA5 hC5 hsz' hA4 hoe hOp hO t0 t1 hcs hac hkle KP h0 h1 h2 f1 f2 hgl kcl kfr kcl0 kfr0 hsz hgo hn1 hn2 hn3 hn4
          obtain ⟨h0, h1, h2, f1, f2, hgl⟩ := kP.scan.cells
          have kcl := row_cells kP.part
          have kfr := row_free kP.part
          have kcl0 := row_cells kP.res
          have kfr0 := row_free kP.res
          have hsz := row_lt kP.part
          have hgo := kP.old
          have hn1 : ¬ w.heap.size + 1 = g := by omega
          have hn2 : ¬ g = w.heap.size + 1 := by omega
          have hn3 : ¬ w.heap.size = g := by omega
          have hn4 : ¬ g = w.heap.size := by omega
          have KP := Lib.hid kP; clear kP
          go_wp2
          have HV6 := HV5.stay ((Chg.refl (fun j => j = w.heap.size + 1) _).setCell (p := ⟨w.heap.size + 1, 4, none⟩) (fun _ => rfl) (.slice A5 (Part.ds l).length c5)) (fun j h e => by omega)
          clear HV5
          revert HV6
          have kP : ParAt w (w5.setCell ⟨w.heap.size + 1, 4, none⟩ (.slice A5 (Part.ds l).length c5)) g s (k5) (d + 1) q tx ob (.slice A5 (Part.ds l).length c5) := KP.out.word (.slice A5 (Part.ds l).length c5)
          clear h0 h1 h2 f1 f2 hgl kcl kfr kcl0 kfr0 hsz hgo hn1 hn2 hn3 hn4 KP
          revert kP
          generalize w5.setCell ⟨w.heap.size + 1, 4, none⟩ (.slice A5 (Part.ds l).length c5) = wr6
          intro kP
          intro HV
          obtain ⟨h0, h1, h2, f1, f2, hgl⟩ := kP.scan.cells
          have kcl := row_cells kP.part
          have kfr := row_free kP.part
          have kcl0 := row_cells kP.res
          have kfr0 := row_free kP.res
          have hsz := row_lt kP.part
          have hgo := kP.old
          have hn1 : ¬ w.heap.size + 1 = g := by omega
          have hn2 : ¬ g = w.heap.size + 1 := by omega
          have hn3 : ¬ w.heap.size = g := by omega
          have hn4 : ¬ g = w.heap.size := by omega
          have KP := Lib.hid kP; clear kP
          have t0 : (0 : Int) ≤ (k5 : Int) := by omega
          go_quiet (fail)
          by_cases hend : k5 = s.size
          · have t1 : ((k5 : Int) == (s.size : Int)) = true := by simp; omega
            go_wp2_with (go_at_call 36; refine (fail_calls _ _ _ _).mono ?_; rintro e w1 ⟨rfl, rfl⟩)
            refine ⟨rfl, ?_⟩
            rw [← HF.out, drop_end s k5 (by omega)]
            exact ⟨a, by omega, rfl, rfl, ((KP.out.chg.drewN _).mono (fun _ h _ => h))⟩
          · have t1 : ((k5 : Int) == (s.size : Int)) = false := by simp; omega
            have hclt : k5 < s.size := by omega
            have hHB : isAt (s.data.toList.drop k5) 0 125 = (s[k5] == 125) := by rw [byte_drop s k5 hclt]; rfl
            have HFE : Hid (R = if s[k5] == 125 then .ok (allB (.mk 2 q T O l) q) (s.data.toList.drop (k5 + 1)) else .err (s.size - k5) 61) := Lib.hid (by
              rw [← HF.out, byte_drop s k5 hclt]
              simp only [finish, drop_len]
              split
              · rfl
              · rw [show s.size - (k5 + 1) + 1 = s.size - k5 by omega])
            clear HF
            have hA := KP.out.scan
            go_wp2_with fail
            cases hbr : s[k5] == 125
            case false =>
              rw [hbr] at hHB
              refine Calls.mono (is_brace g s k5 _ _ (hA.drewN _) (by omega) hs _ hHB) ?_
              rintro e w' ⟨rfl, m, rfl⟩
              go_wp2_with (go_at_call 36; refine (fail_calls _ _ _ _).mono ?_; rintro e w1 ⟨rfl, rfl⟩)
              refine ⟨rfl, ?_⟩
              rw [HFE.out, hbr]
              exact ⟨k5, by omega, rfl, rfl, KP.out.chg.drewN _⟩
            case true =>
              rw [hbr] at hHB
              refine Calls.mono (is_brace g s k5 _ _ (hA.drewN _) (by omega) hs _ hHB) ?_
              rintro e w' ⟨rfl, m, rfl⟩
              go_wp2_with fail
              have hrep : Rep wr6 (fun j => w.heap.size + 2 ≤ j) (Part.d (.mk 2 q T O l)) [.int .i64 2, .bool q, .string tx, .string ob, (.slice A5 (Part.ds l).length c5)] := part_rep.2 ⟨_, by rw [HXT.out, HOB.out], HV⟩
              refine (all_calls _ (fun j => w.heap.size + 2 ≤ j) (.mk 2 q T O l) q [.int .i64 2, .bool q, .string tx, .string ob, (.slice A5 (Part.ds l).length c5)] (by simp only [Part.wt]; omega) ?_).mono ?_
              · exact hrep.stay ((((Chg.refl (· = g) _).drewN _).setCell (fun _ => rfl) _).setCell (fun _ => rfl) _) (fun j h e => by omega)
              · rintro e w4 ⟨cs', rfl, hr', hC'⟩
                have kP4 : ParAt w w4 g s (k5 + 1) d q tx ob (.slice A5 (Part.ds l).length c5) := ParAt.step0 (((KP.out.drewN _).at' (k5 + 1)).deep' d) hC'
                have hz : wr6.heap.size ≤ w4.heap.size := by simpa using hC'.size
                have HR1 : Hid (R = .ok (allB (.mk 2 q T O l) q) (s.data.toList.drop (k5 + 1))) := Lib.hid (by rw [HFE.out, if_pos hbr])
                clear HFE
                revert hr' HR1
                generalize allB (.mk 2 q T O l) q = pp
                obtain ⟨kd, qd, td, od, wd⟩ := pp
                intro hr' HR1
                obtain ⟨A', c', rfl, hwv, _, _⟩ := part_rep2 hr'
                have HREP := Lib.hid hr'; clear hr'
                clear h0 h1 h2 f1 f2 hgl kcl kfr kcl0 kfr0 KP hHB hbr hA
                have kcl0 := row_cells kP4.res
                have kfr0 := row_free kP4.res
                have hlt0 := row_lt kP4.res
                have KP := Lib.hid kP4; clear kP4
                go_wp2
                refine bodyPost_ret (v := .agg #[.int .i64 kd, .bool qd, .string (bstr td), .string (bstr od), .slice A' wd.length c']) (by simp [results, Try.results49, go_sem, kcl0]) rfl ?_
                rw [HR1.out]
                refine ⟨_, k5 + 1, rfl, hclt, rfl, ⟨_, rfl, ?_⟩, ?_, ?_⟩
                · refine (HREP.out.stay (((((((Chg.refl (fun j => j = w.heap.size) _).setCell (fun _ => rfl) _).setCell (fun _ => rfl) _).setCell (fun _ => rfl) _).setCell (fun _ => rfl) _).setCell (fun _ => rfl) _)) (fun j hj e => ?_)).mono (fun j hj _ => ?_)
                  · simp at hj; omega
                  · simp at hj; omega
                · exact row_far (row_far (row_far (row_far (row_far KP.out.scan hn4 _) hn4 _) hn4 _) hn4 _) hn4 _
                · exact ((((KP.out.chg.setCell (fun h => absurd h (by simp)) _).setCell (fun h => absurd h (by simp)) _).setCell (fun h => absurd h (by simp)) _).setCell (fun h => absurd h (by simp)) _).setCell (fun h => absurd h (by simp)) _
    · have t1 : decide ((c : Int) < (s.size : Int)) = false := by simp; omega
      obtain ⟨O, l, hO, hl, HF1⟩ : ∃ O l, O = ([] : Bytes) ∧ l = ([] : List Part) ∧ Hid (finish (s.size - a) q T O (.ok l (s.data.toList.drop c)) = R) := ⟨[], [], rfl, rfl, Lib.hid (by rw [← HF.out, drop_end s c hcs]; rfl)⟩
      clear HF
      have HF := HF1; clear HF1
      have hOl : O.length ≤ 64 := by rw [hO]; decide
      have HOB : Hid (⟨#[]⟩ = bstr O) := Lib.hid (by rw [hO]; rfl)
      clear hO
      have HV : Rep wr3 (fun j => w.heap.size + 2 ≤ j) (.sl 35 5 (Part.ds l)) [.slice none 0 0] := by rw [hl]; exact (Own.nil _ _ _ _).rep
      have hwl : Part.wts l ≤ 20000 := by rw [hl]; simp [Part.wts]
      clear hl
      go_quiet (fail)
      go_wp2
      have t0 : (0 : Int) ≤ (c : Int) := by omega
      go_quiet (fail)
      have t1 : ((c : Int) == (s.size : Int)) = true := by simp; omega
      go_wp2_with (go_at_call 36; refine (fail_calls _ _ _ _).mono ?_; rintro e w1 ⟨rfl, rfl⟩)
      refine ⟨rfl, ?_⟩
      rw [← HF.out, drop_end s c (by omega)]
      exact ⟨a, by omega, rfl, rfl, ((KP.out.chg.drewN _).mono (fun _ h _ => h))⟩
set_option maxRecDepth 100000 in
set_option maxHeartbeats 4000000 in
theorem param_op3 (n : Nat) (IH : WordSaid n) (w : World) (g : Nat) (s : ByteArray) (a d : Nat) (q : Bool) (h : ScanAt w g s a d) (ha : a + 2 ≤ s.size) (hs : s.size ≤ 8192) (hd : ¬ 16 < d + 1) (hf : 4 * (s.size - a) ≤ n + 1) (i0 : isAt (s.data.toList.drop (a + 2)) 0 35 = true) (hl : a + 3 < s.size) (i1 : isAt (s.data.toList.drop (a + 2)) 1 125 = true) :
    Calls Try.prog 49 #[.pointer (some ⟨g, 0, none⟩), .bool q] w (ScanPost w g s d (paramF (n + 1) d q (s.data.toList.drop (a + 2))) (fun _ => False) (PartVal w)) := by
  generalize hR : paramF (n + 1) d q (s.data.toList.drop (a + 2)) = R
  have hlen : lenB (s.data.toList.drop (a + 2)) = false := by rw [lenB_is, drop_len]; simp [i0, i1]
  rw [paramF, if_neg hd, hlen, if_neg (by simp), drop_len, show s.size - (a + 2) + 2 = s.size - a by omega] at hR
  have HR := Lib.hid hR; clear hR hlen
  obtain ⟨h0, h1, h2, f1, f2, hgl⟩ := h.cells
  have e1 : decide ((16 : Int) < (d : Int) + 1) = false := by simp; omega
  have kP := ParAt.start h q (a + 2) (d + 1)
  have i23 : (a : Int) + 2 + 1 < (s.size : Int) ∧ (a : Int) + 3 < (s.size : Int) := (by omega); obtain ⟨i2, i3⟩ := i23
  go_enter Try.func49, Try.ntmps49
  go_wp2
  simp only [Int.natCast_add, Int.cast_ofNat_Int] at kP
  revert kP
  generalize (((w.setCell ⟨g, 2, none⟩ (.int .i64 ((d : Int) + 1))).setCell ⟨g, 1, none⟩ (.int .i64 ((a : Int) + 2))).alloc (.cells #[.int .i64 0, .bool false, .string ⟨#[]⟩, .string ⟨#[]⟩, .slice none 0 0] 35)).alloc (.cells #[.int .i64 2, .bool q, .string ⟨#[]⟩, .string ⟨#[]⟩, .slice none 0 0] 35) = wr
  intro kP
  clear h0 h1 h2 f1 f2 hgl h
  have hA : ScanAt wr g s ((a + 2 : Nat) : Int) ((d : Int) + 1) := kP.scan
  obtain ⟨h0, h1, h2, f1, f2, hgl⟩ := kP.scan.cells
  have kcl := row_cells kP.part
  have kfr := row_free kP.part
  have kcl0 := row_cells kP.res
  have kfr0 := row_free kP.res
  have hsz := row_lt kP.part
  have hgo := kP.old
  have hn1 : ¬ w.heap.size + 1 = g := by omega
  have hn2 : ¬ g = w.heap.size + 1 := by omega
  have hn3 : ¬ w.heap.size = g := by omega
  have hn4 : ¬ g = w.heap.size := by omega
  have KP := Lib.hid kP; clear kP
  go_quiet ((go_at_call 57; first | with_reducible exact (is_hash g s (a + 2) _ _ (hA.drewN _) ha hs _ i0).quiet_of | with_reducible exact (is_brace1 g s (a + 2) _ _ (hA.drewN _) ha hs _ i1).quiet_of))
  go_wp2
  have kP : ParAt w (wr.drewN nq) g s (a + 2) (d + 1) q ⟨#[]⟩ ⟨#[]⟩ (.slice none 0 0) := KP.out.drewN nq
  clear h0 h1 h2 f1 f2 hgl kcl kfr kcl0 kfr0 hsz hgo hn1 hn2 hn3 hn4 KP
  revert kP
  generalize wr.drewN nq = wr2
  intro kP
  clear hA wr
  clear i0 i1 i2 i3 hl
  obtain ⟨b, hbe⟩ : ∃ b, b = a + 2 := ⟨_, rfl⟩
  rw [← hbe] at kP HR
  have hb0 : b ≤ s.size := by omega
  have hba : a + 2 ≤ b := by omega
  clear hbe
  obtain ⟨h0, h1, h2, f1, f2, hgl⟩ := kP.scan.cells
  have kcl := row_cells kP.part
  have kfr := row_free kP.part
  have kcl0 := row_cells kP.res
  have kfr0 := row_free kP.res
  have hsz := row_lt kP.part
  have hgo := kP.old
  have hn1 : ¬ w.heap.size + 1 = g := by omega
  have hn2 : ¬ g = w.heap.size + 1 := by omega
  have hn3 : ¬ w.heap.size = g := by omega
  have hn4 : ¬ g = w.heap.size := by omega
  have KP := Lib.hid kP; clear kP
  generalize hk : parameter (s.data.toList.drop b) = k at HR
  have hkle : b + k ≤ s.size := by have := parameter_le (s.data.toList.drop b); rw [hk, drop_len] at this; omega
  have HK := Lib.hid hk
  have HTP : Hid (parameter (s.extract b s.size).data.toList = k) := Lib.hid (by rw [Lib.extract_to_end]; exact hk)
  clear hk
  have p0 : (0 : Int) ≤ (b : Int) := by omega
  have p1 : (b : Int) ≤ (s.size : Int) := by omega
  have htz : (s.extract b s.size).size ≤ 8192 := by simp [ByteArray.size_extract]; omega
  go_quiet ((go_at_call 58; exact (par_q _ _ _ htz HTP.out).quiet_of_same))
  revert nq; intro nq1
  clear htz p1
  have hgood : (k == 0 || decide (k > 64)) = true ∨ (0 < k ∧ k ≤ 64) := by
    by_cases hh : 0 < k ∧ k ≤ 64
    · exact .inr hh
    · left; simp; omega
  rcases hgood with hbad | ⟨hk0, hk64⟩
  · have HRE : Hid (R = .err (s.size - b) 61) := Lib.hid (by rw [← HR.out, paramG, HK.out, if_pos hbad, drop_len])
    clear HR
    cases hk0 : k == 0
    case true =>
      obtain rfl : k = 0 := by simpa using hk0
      go_wp2_with (go_at_call 36; refine (fail_calls _ _ _ _).mono ?_; rintro e w1 ⟨rfl, rfl⟩)
      refine ⟨rfl, ?_⟩
      rw [HRE.out]
      exact ⟨b, by omega, rfl, rfl, KP.out.chg.drewN _⟩
    case false =>
      have hk1 : ((k : Int) == 0) = false := by simp at hk0 ⊢; omega
      have hk64 : decide ((64 : Int) < (k : Int)) = true := by rw [hk0] at hbad; simp at hbad ⊢; omega
      clear hk0 hbad
      go_wp2_with (go_at_call 36; refine (fail_calls _ _ _ _).mono ?_; rintro e w1 ⟨rfl, rfl⟩)
      refine ⟨rfl, ?_⟩
      rw [HRE.out]
      exact ⟨b, by omega, rfl, rfl, KP.out.chg.drewN _⟩
  · have HF : Hid (finish (s.size - a) q ((s.data.toList.drop b).take k) (opM (s.data.toList.drop (b + k))) (if opM (s.data.toList.drop (b + k)) == [] then .ok [] (s.data.toList.drop (b + k)) else wordF n (d + 1) true q [] (s.data.toList.drop (b + k + (opM (s.data.toList.drop (b + k))).length))) = R) := Lib.hid (by
      rw [← HR.out, paramG, HK.out, if_neg (show ¬ (k == 0 || decide (k > 64)) = true by simp; omega)]
      simp only [Bool.false_or, Bool.false_eq_true, if_false, List.drop_drop])
    have hk1 : ((k : Int) == 0) = false := by simp; omega
    have hk2 : decide ((64 : Int) < (k : Int)) = false := by simp; omega
    have p1 : (b : Int) ≤ (b : Int) + (k : Int) := by omega
    have p3 : (0 : Int) ≤ (k : Int) := by omega
    have p4 : IntKind.i64.wrap ((b : Int) + (k : Int)) = (b : Int) + (k : Int) := IntWalk.i64_in _ (by omega)
    have p5 : ((b : Int) + (k : Int)).toNat = b + k := by omega
    have p2 : (b : Int) + (k : Int) ≤ (s.size : Int) := by omega
    have hxt := extract_bstr s b (b + k)
    rw [show b + k - b = k by omega] at hxt
    have HXT := Lib.hid hxt; clear hxt
    go_wp2
    refine still_tail2 16 (by kernel_rfl) (by kernel_rfl) ?_
    simp only [List.take_succ_cons, List.take_zero, List.drop_succ_cons, List.drop_zero]
    repeat still_step
    refine wpStill_nil ?_
    go_wp2
    have kP : ParAt w (((wr2.drewN (nq1 + 1)).setCell ⟨w.heap.size + 1, 2, none⟩ (.string (s.extract b (b + k)))).setCell ⟨g, 1, none⟩ (.int .i64 ((b : Int) + (k : Int)))) g s (b + k) (d + 1) q (s.extract b (b + k)) ⟨#[]⟩ (.slice none 0 0) := ((KP.out.drewN (nq1 + 1)).text (s.extract b (b + k))).at' (b + k)
    clear h0 h1 h2 f1 f2 hgl kcl kfr kcl0 kfr0 hsz hgo hn1 hn2 hn3 hn4 KP
    revert kP
    generalize ((wr2.drewN (nq1 + 1)).setCell ⟨w.heap.size + 1, 2, none⟩ (.string (s.extract b (b + k)))).setCell ⟨g, 1, none⟩ (.int .i64 ((b : Int) + (k : Int))) = wr3
    intro kP
    clear p0 p1 p2 p3 p4 p5 hk1 hk2 HTP HK HR e1 wr2
    have hTl : ((s.data.toList.drop b).take k).length ≤ 64 := by simp; omega
    revert hTl
    revert kP
    revert HXT
    revert HF
    generalize s.extract b (b + k) = tx
    generalize (s.data.toList.drop b).take k = T
    obtain ⟨c, hc⟩ : ∃ c, c = b + k := ⟨_, rfl⟩
    rw [← hc] at hkle ⊢
    intro HF HXT kP hTl
    have hac : a + 3 ≤ c := by omega
    clear hc hba hb0 hk0 hk64
    obtain ⟨h0, h1, h2, f1, f2, hgl⟩ := kP.scan.cells
    have kcl := row_cells kP.part
    have kfr := row_free kP.part
    have kcl0 := row_cells kP.res
    have kfr0 := row_free kP.res
    have hsz := row_lt kP.part
    have hgo := kP.old
    have hn1 : ¬ w.heap.size + 1 = g := by omega
    have hn2 : ¬ g = w.heap.size + 1 := by omega
    have hn3 : ¬ w.heap.size = g := by omega
    have hn4 : ¬ g = w.heap.size := by omega
    have KP := Lib.hid kP; clear kP
    by_cases hcs : c < s.size
    · have t1 : decide ((c : Int) < (s.size : Int)) = true := by simp; omega
      have t0 : (0 : Int) ≤ (c : Int) := by omega
      have t2 : (c : Int) ≤ (s.size : Int) := by omega
      go_quiet (fail)
      have hO : opM (s.extract c s.size).data.toList = opM (s.data.toList.drop c) := by rw [Lib.extract_to_end]
      have hOl : (opM (s.data.toList.drop c)).length ≤ s.size - c := by have := opL_prefix ops (s.data.toList.drop c); rwa [drop_len] at this
      revert HF hO hOl
      generalize opM (s.data.toList.drop c) = O
      intro HF hO hOl
      have HO := Lib.hid hO; clear hO
      go_wp2
      go_region_held3 (fun w' => w'.cell? ⟨g, 0, none⟩ = some (.string s) ∧ w'.cell? ⟨g, 1, none⟩ = some (.int .i64 c))
        (first
          | go_keep
          | (go_split_ands; exact ⟨hC1.cell (by assumption) (fun e => e), hC1.cell (by assumption) (fun e => e)⟩))
        (first | (go_at_call 59; refine (op_calls _ _).mono ?_; rintro e w1 ⟨rfl, hC1⟩; have kP5 := ParAt.step0 (KP.out.drewN _) hC1; have kcl5 := row_cells kP5.part; have kfr5 := row_free kP5.part; have KP5 := Lib.hid kP5; clear kP5))
      have hO' : opM (List.take (s.size - c) (s.data.toList.drop c)) = O := by rw [List.take_of_length_le (by rw [drop_len]; omega), ← HO.out, Lib.extract_to_end]
      simp only [hO']
      have kP : ParAt w (w1.setCell ⟨w.heap.size + 1, 3, none⟩ (.string (bstr O))) g s (c) (d + 1) q tx (bstr O) (.slice none 0 0) := ParAt.op' KP5.out (bstr O)
      clear h0 h1 h2 f1 f2 hgl kcl kfr kcl0 kfr0 hsz hgo hn1 hn2 hn3 hn4 KP
      revert kP
      generalize w1.setCell ⟨w.heap.size + 1, 3, none⟩ (.string (bstr O)) = wr4
      intro kP
      clear kcl5 kfr5 KP5 hC1 wr3 HO hO' t1 t2
      have hos : (bstr O).size = O.length := by rw [← len_data, bstr_toList]
      revert hos
      revert kP
      generalize hob : bstr O = ob
      intro kP hos
      have HOB := Lib.hid hob.symm; clear hob
      obtain ⟨h0, h1, h2, f1, f2, hgl⟩ := kP.scan.cells
      have kcl := row_cells kP.part
      have kfr := row_free kP.part
      have kcl0 := row_cells kP.res
      have kfr0 := row_free kP.res
      have hsz := row_lt kP.part
      have hgo := kP.old
      have hn1 : ¬ w.heap.size + 1 = g := by omega
      have hn2 : ¬ g = w.heap.size + 1 := by omega
      have hn3 : ¬ w.heap.size = g := by omega
      have hn4 : ¬ g = w.heap.size := by omega
      have KP := Lib.hid kP; clear kP
      have t1 : IntKind.i64.wrap ((c : Int) + (ob.size : Int)) = (c : Int) + (ob.size : Int) := IntWalk.i64_in _ (by omega)
      go_wp2
      refine still_tail2 10 (by kernel_rfl) (by kernel_rfl) ?_
      simp only [List.take_succ_cons, List.take_zero, List.drop_succ_cons, List.drop_zero]
      repeat still_step
      refine wpStill_nil ?_
      by_cases hO : O = []
      · have hoe : ob.toList.isEmpty = true := by rw [ByteArray.toList_eq, HOB.out, bstr_toList, hO]; rfl
        obtain ⟨l, hl, HF1⟩ : ∃ l, l = ([] : List Part) ∧ Hid (finish (s.size - a) q T O (.ok l (s.data.toList.drop (c + O.length))) = R) := ⟨[], rfl, Lib.hid (by rw [← HF.out, if_pos (by rw [hO]; rfl), hO]; rfl)⟩
        clear HF
        have HF := HF1; clear HF1
        have hcl2 : c + O.length ≤ s.size := by omega
        clear hO
        go_wp2
        have kP : ParAt w ((wr4.setCell ⟨g, 1, none⟩ (.int .i64 ((c : Int) + (O.length : Int)))).drew) g s (c + O.length) (d + 1) q tx ob (.slice none 0 0) := (KP.out.at' (c + O.length)).drewN 1
        clear h0 h1 h2 f1 f2 hgl kcl kfr kcl0 kfr0 hsz hgo hn1 hn2 hn3 hn4 KP
        revert kP
        generalize (wr4.setCell ⟨g, 1, none⟩ (.int .i64 ((c : Int) + (O.length : Int)))).drew = wr5
        intro kP
        have hac2 : a + 3 ≤ c + O.length := by omega
        clear hoe t0 t1 hcs hac hkle
        revert hac2; revert hcl2; revert kP; revert HF
        generalize c + O.length = c2
        intro HF kP hcl2 hac2
        have HV : Rep wr5 (fun j => w.heap.size + 2 ≤ j) (.sl 35 5 (Part.ds l)) [.slice none 0 0] := by rw [hl]; exact (Own.nil _ _ _ _).rep
        have hwl : Part.wts l ≤ 20000 := by rw [hl]; simp [Part.wts]
        clear hl
        obtain ⟨h0, h1, h2, f1, f2, hgl⟩ := kP.scan.cells
        have kcl := row_cells kP.part
        have kfr := row_free kP.part
        have kcl0 := row_cells kP.res
        have kfr0 := row_free kP.res
        have hsz := row_lt kP.part
        have hgo := kP.old
        have hn1 : ¬ w.heap.size + 1 = g := by omega
        have hn2 : ¬ g = w.heap.size + 1 := by omega
        have hn3 : ¬ w.heap.size = g := by omega
        have hn4 : ¬ g = w.heap.size := by omega
        have KP := Lib.hid kP; clear kP
        have t0 : (0 : Int) ≤ (c2 : Int) := by omega
        go_quiet (fail)
        by_cases hend : c2 = s.size
        · have t1 : ((c2 : Int) == (s.size : Int)) = true := by simp; omega
          go_wp2_with (go_at_call 36; refine (fail_calls _ _ _ _).mono ?_; rintro e w1 ⟨rfl, rfl⟩)
          refine ⟨rfl, ?_⟩
          rw [← HF.out, drop_end s c2 (by omega)]
          exact ⟨a, by omega, rfl, rfl, ((KP.out.chg.drewN _).mono (fun _ h _ => h))⟩
        · have t1 : ((c2 : Int) == (s.size : Int)) = false := by simp; omega
          have hclt : c2 < s.size := by omega
          have hHB : isAt (s.data.toList.drop c2) 0 125 = (s[c2] == 125) := by rw [byte_drop s c2 hclt]; rfl
          have HFE : Hid (R = if s[c2] == 125 then .ok (allB (.mk 2 q T O l) q) (s.data.toList.drop (c2 + 1)) else .err (s.size - c2) 61) := Lib.hid (by
            rw [← HF.out, byte_drop s c2 hclt]
            simp only [finish, drop_len]
            split
            · rfl
            · rw [show s.size - (c2 + 1) + 1 = s.size - c2 by omega])
          clear HF
          have hA := KP.out.scan
          go_wp2_with fail
          cases hbr : s[c2] == 125
          case false =>
            rw [hbr] at hHB
            refine Calls.mono (is_brace g s c2 _ _ (hA.drewN _) (by omega) hs _ hHB) ?_
            rintro e w' ⟨rfl, m, rfl⟩
            go_wp2_with (go_at_call 36; refine (fail_calls _ _ _ _).mono ?_; rintro e w1 ⟨rfl, rfl⟩)
            refine ⟨rfl, ?_⟩
            rw [HFE.out, hbr]
            exact ⟨c2, by omega, rfl, rfl, KP.out.chg.drewN _⟩
          case true =>
            rw [hbr] at hHB
            refine Calls.mono (is_brace g s c2 _ _ (hA.drewN _) (by omega) hs _ hHB) ?_
            rintro e w' ⟨rfl, m, rfl⟩
            go_wp2_with fail
            have hrep : Rep wr5 (fun j => w.heap.size + 2 ≤ j) (Part.d (.mk 2 q T O l)) [.int .i64 2, .bool q, .string tx, .string ob, (.slice none 0 0)] := part_rep.2 ⟨_, by rw [HXT.out, HOB.out], HV⟩
            refine (all_calls _ (fun j => w.heap.size + 2 ≤ j) (.mk 2 q T O l) q [.int .i64 2, .bool q, .string tx, .string ob, (.slice none 0 0)] (by simp only [Part.wt]; omega) ?_).mono ?_
            · exact hrep.stay ((((Chg.refl (· = g) _).drewN _).setCell (fun _ => rfl) _).setCell (fun _ => rfl) _) (fun j h e => by omega)
            · rintro e w4 ⟨cs', rfl, hr', hC'⟩
              have kP4 : ParAt w w4 g s (c2 + 1) d q tx ob (.slice none 0 0) := ParAt.step0 (((KP.out.drewN _).at' (c2 + 1)).deep' d) hC'
              have hz : wr5.heap.size ≤ w4.heap.size := by simpa using hC'.size
              have HR1 : Hid (R = .ok (allB (.mk 2 q T O l) q) (s.data.toList.drop (c2 + 1))) := Lib.hid (by rw [HFE.out, if_pos hbr])
              clear HFE
              revert hr' HR1
              generalize allB (.mk 2 q T O l) q = pp
              obtain ⟨kd, qd, td, od, wd⟩ := pp
              intro hr' HR1
              obtain ⟨A', c', rfl, hwv, _, _⟩ := part_rep2 hr'
              have HREP := Lib.hid hr'; clear hr'
              clear h0 h1 h2 f1 f2 hgl kcl kfr kcl0 kfr0 KP hHB hbr hA
              have kcl0 := row_cells kP4.res
              have kfr0 := row_free kP4.res
              have hlt0 := row_lt kP4.res
              have KP := Lib.hid kP4; clear kP4
              go_wp2
              refine bodyPost_ret (v := .agg #[.int .i64 kd, .bool qd, .string (bstr td), .string (bstr od), .slice A' wd.length c']) (by simp [results, Try.results49, go_sem, kcl0]) rfl ?_
              rw [HR1.out]
              refine ⟨_, c2 + 1, rfl, hclt, rfl, ⟨_, rfl, ?_⟩, ?_, ?_⟩
              · refine (HREP.out.stay (((((((Chg.refl (fun j => j = w.heap.size) _).setCell (fun _ => rfl) _).setCell (fun _ => rfl) _).setCell (fun _ => rfl) _).setCell (fun _ => rfl) _).setCell (fun _ => rfl) _)) (fun j hj e => ?_)).mono (fun j hj _ => ?_)
                · simp at hj; omega
                · simp at hj; omega
              · exact row_far (row_far (row_far (row_far (row_far KP.out.scan hn4 _) hn4 _) hn4 _) hn4 _) hn4 _
              · exact ((((KP.out.chg.setCell (fun h => absurd h (by simp)) _).setCell (fun h => absurd h (by simp)) _).setCell (fun h => absurd h (by simp)) _).setCell (fun h => absurd h (by simp)) _).setCell (fun h => absurd h (by simp)) _
      · have hoe : ob.toList.isEmpty = false := by
          rw [ByteArray.toList_eq, HOB.out, bstr_toList]
          cases O with
          | nil => exact absurd rfl hO
          | cons x y => rfl
        have hOp : 0 < O.length := by
          cases O with
          | nil => exact absurd rfl hO
          | cons x y => simp
        have HF1 : Hid (∀ RW, wordF n (d + 1) true q [] (s.data.toList.drop (c + O.length)) = RW → finish (s.size - a) q T O RW = R) := Lib.hid (by
          rintro RW rfl
          rw [← HF.out, if_neg (by simpa using hO)])
        clear HF
        have HL := Lib.hid ((scan_len n).word (d + 1) true q [] (s.data.toList.drop (c + O.length)))
        go_wp2_with fail
        have hA4 : ScanAt ((wr4.setCell ⟨g, 1, none⟩ (.int .i64 ((c : Int) + (O.length : Int)))).drew) g s ((c + O.length : Nat) : Int) ((d + 1 : Nat) : Int) := (KP.out.at' (c + O.length)).scan
        refine (IH _ g s (c + O.length) (d + 1) true q hA4 (by omega) hs (by omega) (by omega)).mono ?_
        intro e w5 hpost
        generalize hRW : wordF n (d + 1) true q [] (s.data.toList.drop (c + O.length)) = RW at hpost HL
        have HF2 := Lib.hid (HF1.out RW hRW); clear HF1 hRW
        cases RW with
        | err left code =>
          obtain ⟨k5, hk5, hl5, rfl, hC5⟩ := hpost
          refine ⟨rfl, ?_⟩
          rw [← HF2.out]
          exact ⟨k5, hk5, hl5, rfl, ((KP.out.at' (c + O.length)).drewN 1).chg.trans hC5 (fun _ h _ => h)⟩
        | ok l rest =>
          obtain ⟨v5, k5, rfl, hk5, rfl, hO5, hA5, hC5⟩ := hpost
          have hL := HL.out _ _ rfl
          rw [drop_len, drop_len] at hL
          have hwl : Part.wts l ≤ 20000 := by simp only [Part.wts] at hL; omega
          have hac5 : a + 3 ≤ k5 := by omega
          have kP := ((KP.out.at' (c + O.length)).drewN 1).step hA5 hC5
          obtain ⟨A5, c5, rfl, _, hm5⟩ := Own.form hO5
          have hsz' : w.heap.size + 1 < (wr4.setCell ⟨g, 1, none⟩ (.int .i64 ((c : Int) + (O.length : Int)))).drew.heap.size := by simp; omega
          have HV5 : Rep w5 (fun j => w.heap.size + 2 ≤ j) (.sl 35 5 (Part.ds l)) [.slice A5 (Part.ds l).length c5] := (Own.rep hO5).mono (fun j h _ => h.elim (fun h => h.elim) (fun h => by omega))
          have HF := Lib.hid HF2.out
          clear HF2 HL hL hO5 hA5 hC5 hsz' hA4 hoe hOp hO t0 t1 hcs hac hkle KP h0 h1 h2 f1 f2 hgl kcl kfr kcl0 kfr0 hsz hgo hn1 hn2 hn3 hn4
          obtain ⟨h0, h1, h2, f1, f2, hgl⟩ := kP.scan.cells
          have kcl := row_cells kP.part
          have kfr := row_free kP.part
          have kcl0 := row_cells kP.res
          have kfr0 := row_free kP.res
          have hsz := row_lt kP.part
          have hgo := kP.old
          have hn1 : ¬ w.heap.size + 1 = g := by omega
          have hn2 : ¬ g = w.heap.size + 1 := by omega
          have hn3 : ¬ w.heap.size = g := by omega
          have hn4 : ¬ g = w.heap.size := by omega
          have KP := Lib.hid kP; clear kP
          go_wp2
          have HV6 := HV5.stay ((Chg.refl (fun j => j = w.heap.size + 1) _).setCell (p := ⟨w.heap.size + 1, 4, none⟩) (fun _ => rfl) (.slice A5 (Part.ds l).length c5)) (fun j h e => by omega)
          clear HV5
          revert HV6
          have kP : ParAt w (w5.setCell ⟨w.heap.size + 1, 4, none⟩ (.slice A5 (Part.ds l).length c5)) g s (k5) (d + 1) q tx ob (.slice A5 (Part.ds l).length c5) := KP.out.word (.slice A5 (Part.ds l).length c5)
          clear h0 h1 h2 f1 f2 hgl kcl kfr kcl0 kfr0 hsz hgo hn1 hn2 hn3 hn4 KP
          revert kP
          generalize w5.setCell ⟨w.heap.size + 1, 4, none⟩ (.slice A5 (Part.ds l).length c5) = wr6
          intro kP
          intro HV
          obtain ⟨h0, h1, h2, f1, f2, hgl⟩ := kP.scan.cells
          have kcl := row_cells kP.part
          have kfr := row_free kP.part
          have kcl0 := row_cells kP.res
          have kfr0 := row_free kP.res
          have hsz := row_lt kP.part
          have hgo := kP.old
          have hn1 : ¬ w.heap.size + 1 = g := by omega
          have hn2 : ¬ g = w.heap.size + 1 := by omega
          have hn3 : ¬ w.heap.size = g := by omega
          have hn4 : ¬ g = w.heap.size := by omega
          have KP := Lib.hid kP; clear kP
          have t0 : (0 : Int) ≤ (k5 : Int) := by omega
          go_quiet (fail)
          by_cases hend : k5 = s.size
          · have t1 : ((k5 : Int) == (s.size : Int)) = true := by simp; omega
            go_wp2_with (go_at_call 36; refine (fail_calls _ _ _ _).mono ?_; rintro e w1 ⟨rfl, rfl⟩)
            refine ⟨rfl, ?_⟩
            rw [← HF.out, drop_end s k5 (by omega)]
            exact ⟨a, by omega, rfl, rfl, ((KP.out.chg.drewN _).mono (fun _ h _ => h))⟩
          · have t1 : ((k5 : Int) == (s.size : Int)) = false := by simp; omega
            have hclt : k5 < s.size := by omega
            have hHB : isAt (s.data.toList.drop k5) 0 125 = (s[k5] == 125) := by rw [byte_drop s k5 hclt]; rfl
            have HFE : Hid (R = if s[k5] == 125 then .ok (allB (.mk 2 q T O l) q) (s.data.toList.drop (k5 + 1)) else .err (s.size - k5) 61) := Lib.hid (by
              rw [← HF.out, byte_drop s k5 hclt]
              simp only [finish, drop_len]
              split
              · rfl
              · rw [show s.size - (k5 + 1) + 1 = s.size - k5 by omega])
            clear HF
            have hA := KP.out.scan
            go_wp2_with fail
            cases hbr : s[k5] == 125
            case false =>
              rw [hbr] at hHB
              refine Calls.mono (is_brace g s k5 _ _ (hA.drewN _) (by omega) hs _ hHB) ?_
              rintro e w' ⟨rfl, m, rfl⟩
              go_wp2_with (go_at_call 36; refine (fail_calls _ _ _ _).mono ?_; rintro e w1 ⟨rfl, rfl⟩)
              refine ⟨rfl, ?_⟩
              rw [HFE.out, hbr]
              exact ⟨k5, by omega, rfl, rfl, KP.out.chg.drewN _⟩
            case true =>
              rw [hbr] at hHB
              refine Calls.mono (is_brace g s k5 _ _ (hA.drewN _) (by omega) hs _ hHB) ?_
              rintro e w' ⟨rfl, m, rfl⟩
              go_wp2_with fail
              have hrep : Rep wr6 (fun j => w.heap.size + 2 ≤ j) (Part.d (.mk 2 q T O l)) [.int .i64 2, .bool q, .string tx, .string ob, (.slice A5 (Part.ds l).length c5)] := part_rep.2 ⟨_, by rw [HXT.out, HOB.out], HV⟩
              refine (all_calls _ (fun j => w.heap.size + 2 ≤ j) (.mk 2 q T O l) q [.int .i64 2, .bool q, .string tx, .string ob, (.slice A5 (Part.ds l).length c5)] (by simp only [Part.wt]; omega) ?_).mono ?_
              · exact hrep.stay ((((Chg.refl (· = g) _).drewN _).setCell (fun _ => rfl) _).setCell (fun _ => rfl) _) (fun j h e => by omega)
              · rintro e w4 ⟨cs', rfl, hr', hC'⟩
                have kP4 : ParAt w w4 g s (k5 + 1) d q tx ob (.slice A5 (Part.ds l).length c5) := ParAt.step0 (((KP.out.drewN _).at' (k5 + 1)).deep' d) hC'
                have hz : wr6.heap.size ≤ w4.heap.size := by simpa using hC'.size
                have HR1 : Hid (R = .ok (allB (.mk 2 q T O l) q) (s.data.toList.drop (k5 + 1))) := Lib.hid (by rw [HFE.out, if_pos hbr])
                clear HFE
                revert hr' HR1
                generalize allB (.mk 2 q T O l) q = pp
                obtain ⟨kd, qd, td, od, wd⟩ := pp
                intro hr' HR1
                obtain ⟨A', c', rfl, hwv, _, _⟩ := part_rep2 hr'
                have HREP := Lib.hid hr'; clear hr'
                clear h0 h1 h2 f1 f2 hgl kcl kfr kcl0 kfr0 KP hHB hbr hA
                have kcl0 := row_cells kP4.res
                have kfr0 := row_free kP4.res
                have hlt0 := row_lt kP4.res
                have KP := Lib.hid kP4; clear kP4
                go_wp2
                refine bodyPost_ret (v := .agg #[.int .i64 kd, .bool qd, .string (bstr td), .string (bstr od), .slice A' wd.length c']) (by simp [results, Try.results49, go_sem, kcl0]) rfl ?_
                rw [HR1.out]
                refine ⟨_, k5 + 1, rfl, hclt, rfl, ⟨_, rfl, ?_⟩, ?_, ?_⟩
                · refine (HREP.out.stay (((((((Chg.refl (fun j => j = w.heap.size) _).setCell (fun _ => rfl) _).setCell (fun _ => rfl) _).setCell (fun _ => rfl) _).setCell (fun _ => rfl) _).setCell (fun _ => rfl) _)) (fun j hj e => ?_)).mono (fun j hj _ => ?_)
                  · simp at hj; omega
                  · simp at hj; omega
                · exact row_far (row_far (row_far (row_far (row_far KP.out.scan hn4 _) hn4 _) hn4 _) hn4 _) hn4 _
                · exact ((((KP.out.chg.setCell (fun h => absurd h (by simp)) _).setCell (fun h => absurd h (by simp)) _).setCell (fun h => absurd h (by simp)) _).setCell (fun h => absurd h (by simp)) _).setCell (fun h => absurd h (by simp)) _
    · have t1 : decide ((c : Int) < (s.size : Int)) = false := by simp; omega
      obtain ⟨O, l, hO, hl, HF1⟩ : ∃ O l, O = ([] : Bytes) ∧ l = ([] : List Part) ∧ Hid (finish (s.size - a) q T O (.ok l (s.data.toList.drop c)) = R) := ⟨[], [], rfl, rfl, Lib.hid (by rw [← HF.out, drop_end s c hcs]; rfl)⟩
      clear HF
      have HF := HF1; clear HF1
      have hOl : O.length ≤ 64 := by rw [hO]; decide
      have HOB : Hid (⟨#[]⟩ = bstr O) := Lib.hid (by rw [hO]; rfl)
      clear hO
      have HV : Rep wr3 (fun j => w.heap.size + 2 ≤ j) (.sl 35 5 (Part.ds l)) [.slice none 0 0] := by rw [hl]; exact (Own.nil _ _ _ _).rep
      have hwl : Part.wts l ≤ 20000 := by rw [hl]; simp [Part.wts]
      clear hl
      go_quiet (fail)
      go_wp2
      have t0 : (0 : Int) ≤ (c : Int) := by omega
      go_quiet (fail)
      have t1 : ((c : Int) == (s.size : Int)) = true := by simp; omega
      go_wp2_with (go_at_call 36; refine (fail_calls _ _ _ _).mono ?_; rintro e w1 ⟨rfl, rfl⟩)
      refine ⟨rfl, ?_⟩
      rw [← HF.out, drop_end s c (by omega)]
      exact ⟨a, by omega, rfl, rfl, ((KP.out.chg.drewN _).mono (fun _ h _ => h))⟩

theorem param_said (n : Nat) (IH : WordSaid n) : ParamSaid (n + 1) := by
  intro w g s a d q h ha hs hd hf
  by_cases hdeep : 16 < d + 1
  · exact param_deep n w g s a d q h ha hs hd hdeep
  · cases i0 : isAt (s.data.toList.drop (a + 2)) 0 35 with
    | false => exact param_op1 n IH w g s a d q h ha hs hdeep hf i0
    | true =>
      by_cases hl : a + 3 < s.size
      · cases i1 : isAt (s.data.toList.drop (a + 2)) 1 125 with
        | true => exact param_op3 n IH w g s a d q h ha hs hdeep hf i0 hl i1
        | false => exact param_len n IH w g s a d q h ha hs hdeep (by rw [lenB_is, i0, i1, drop_len]; simp; omega)
      · exact param_op2 n IH w g s a d q h ha hs hdeep hf i0 hl
end Go.Proofs.Ytdfnkmiabmjolaa
