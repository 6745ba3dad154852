/- Walks of the reference: fault, lit, Join. Walk of the reference's Join. Walk of the reference's quoted. Walks of the reference: names, parameters and operations at a place. Walks of the reference: the operation at a place; arithmetic. Walk of the reference's dollar, given its braces. -/
import Derived.Test.YtdfnkmiabmjolaaDoorK7
import Derived.BigRegion
namespace Go.Proofs.YtdfnkmiabmjolaaDoor
open Go.RowKit
set_option linter.unusedVariables false
set_option linter.unusedSimpArgs false

theorem rfault_calls (at_ e : Int) (w : World) : Calls Tryd.prog 19 #[.int .i64 at_, .int .i64 e] w fun x w' => x = .returned (.agg #[.slice none 0 0, .int .i64 at_, .int .i64 e]) ∧ Chg (fun _ => False) w w' := by
  go_enter Tryd.func19, Tryd.ntmps19
  go_wp2
  refine bodyPost_ret (v := .agg #[.slice none 0 0, .int .i64 at_, .int .i64 e]) (by simp [results, Tryd.results19, go_sem]) rfl ?_
  exact ⟨rfl, (Chg.refl _ _).alloc _⟩
theorem rlit_calls (s : ByteArray) (q : Bool) (w : World) : Calls Tryd.prog 46 #[.string s, .bool q] w fun x w' => x = .returned (.slice (some ⟨w.heap.size, 0, none⟩) 1 1) ∧ w' = w.alloc (.cells #[.int .i64 1, .bool q, .string s, .string ⟨#[]⟩, .slice none 0 0] 32) := by
  go_enter Tryd.func46, Tryd.ntmps46
  go_wp2
  go_ret
  exact ⟨rfl, rfl⟩
/-- A row of one, that was just laid. -/
theorem one_row {w : World} {S : Nat → Prop} {e sz : Nat} {d : D} {cs : List Value} (h : Rep w S d cs) (hl : cs.length = sz) :
    Rep (w.alloc (.cells cs.toArray e)) (fun k => S k ∨ k = w.heap.size) (.sl e sz [d]) [.slice (some ⟨w.heap.size, 0, none⟩) 1 1] := by
  refine ⟨some ⟨w.heap.size, 0, none⟩, 1, cs, rfl, Nat.le_refl _, by simp [maxLen], ?_, cs, [], by simp, hl, Rep.move (Same.alloc _ _ _) (fun _ h _ => .inl h) _ _ h, rfl⟩
  intro j u hu
  refine ⟨_, _, rfl, .inr rfl, ?_⟩
  rw [Nat.zero_add, row_cells (row_new w _)]
  simpa using hu

theorem joinL_take (a b : List Part) (k : Nat) (p : Part) (h : b[k]? = some p) : joinL a (b.take (k + 1)) = add (joinL a (b.take k)) p := by
  obtain ⟨hlt, rfl⟩ := List.getElem?_eq_some_iff.1 h
  rw [List.take_succ_eq_append_getElem hlt, joinL_app]
  rfl
/-- A row's head, as it is. -/
theorem Own.take {w : World} {S : Nat → Prop} {e sz : Nat} {A : Option Addr} {n c : Nat} {xs : List D} (h : Own w S e sz (.slice A n c) xs) (k : Nat) (hk : k ≤ xs.length) (hA : xs ≠ []) : Own w S e sz (.slice A k c) (xs.take k) := by
  obtain ⟨cs, h1, h2, h3⟩ := h
  have hl := RepE.length h3
  rcases h1.2 with ⟨hv, hn⟩ | ⟨g, cap, cur, hv, hb, hgg, hle, hmax, hsz, htk⟩
  · exact absurd (List.eq_nil_of_length_eq_zero hn) hA
  · simp only [Value.slice.injEq] at hv
    obtain ⟨rfl, rfl, rfl⟩ := hv
    have hkl : k * sz ≤ xs.length * sz := Nat.mul_le_mul_right _ hk
    have hkt : (xs.take k).length = k := by simp; omega
    have hr : ∀ (n : Nat) (ds : List D) (cs : List Value), n ≤ ds.length → RepE w (fun k => S k ∧ some k ≠ (Value.slice (some ⟨g, 0, none⟩) xs.length c).ownBlock) sz ds cs → RepE w (fun k => S k ∧ some k ≠ (Value.slice (some ⟨g, 0, none⟩) xs.length c).ownBlock) sz (ds.take n) (cs.take (n * sz)) := by
      intro n
      induction n with
      | zero => intro ds cs _ _; simp [RepE]
      | succ n ih =>
        intro ds cs hn h
        match ds, h with
        | [], h => simp at hn
        | d :: ds, ⟨c1, c2, e1, e2, e3, e4⟩ =>
          refine ⟨c1, c2.take (n * sz), ?_, e2, e3, ih ds c2 (by simpa using hn) e4⟩
          rw [e1, List.take_append, List.take_of_length_le (by rw [e2, Nat.add_mul]; omega)]
          congr 2
          rw [e2, Nat.add_mul]; omega
    refine ⟨cs.take (k * sz), ⟨by rw [List.length_take, hkt, h1.1]; omega, .inr ⟨g, c, cur, by rw [hkt], hb, hgg, by omega, hmax, hsz, ?_⟩⟩, h2, hr k xs cs hk h3⟩
    rw [List.length_take, ← htk, List.take_take]
    congr 1
    rw [Nat.min_eq_left hk]; omega

/-- A row's last part: its cells, and its word. -/
theorem own_last2 {w : World} {S : Nat → Prop} {v : Value} {i : List Part} {m : Part} (h : Own w S 32 5 v (Part.ds (i ++ [m]))) :
    ∃ g c wv, v = .slice (some ⟨g, 0, none⟩) (i.length + 1) c ∧ i.length + 1 ≤ c ∧ c ≤ maxLen ∧ g < w.heap.size ∧ w.cell? ⟨g, i.length * 5, none⟩ = some (.int .i64 m.kind) ∧ w.cell? ⟨g, i.length * 5 + 1, none⟩ = some (.bool m.quoted) ∧
      w.cell? ⟨g, i.length * 5 + 2, none⟩ = some (.string (bstr m.text)) ∧ w.cell? ⟨g, i.length * 5 + 3, none⟩ = some (.string (bstr m.op)) ∧ w.cell? ⟨g, i.length * 5 + 4, none⟩ = some wv ∧ Rep w (fun k => S k ∧ k ≠ g) (.sl 32 5 (Part.ds m.word)) [wv] := by
  obtain ⟨g, c, cs, rfl, hS, hle, hmax, hc, hf, hlt, hr⟩ := h.cells (by simp [Part.ds_append, Part.ds])
  obtain ⟨c0, hr0, hl0, h0⟩ := RepE.get hr i.length m.d (by simp [Part.ds_append, Part.ds, Part.ds_length])
  obtain ⟨k, q, tx, o, wd⟩ := m
  obtain ⟨wv, rfl, hw⟩ := part_rep.1 hr0
  rw [Part.ds_length] at hle
  refine ⟨g, c, wv, by simp [Part.ds_length], by simpa using hle, hmax, hlt, hc _ _ (h0 0 _ rfl), hc _ _ (h0 1 _ rfl), hc _ _ (h0 2 _ rfl), hc _ _ (h0 3 _ rfl), hc _ _ (h0 4 _ rfl), hw⟩
end Go.Proofs.YtdfnkmiabmjolaaDoor
namespace Go.Proofs.YtdfnkmiabmjolaaDoor
open Go.RowKit
set_option linter.unusedVariables false
set_option linter.unusedSimpArgs false

set_option maxRecDepth 100000 in
set_option maxHeartbeats 40000000 in
theorem join_calls (w : World) (S : Nat → Prop) (va vb : Value) (a b : List Part) (hwt : Part.wts a + Part.wts b ≤ 200000)
    (h1 : Rep w S (.sl 32 5 (Part.ds a)) [va]) (h2 : Rep w S (.sl 32 5 (Part.ds b)) [vb]) :
    Calls Tryd.prog 33 #[va, vb] w fun e w' => ∃ v, e = .returned v ∧ Rep w' (fun k => S k ∨ w.heap.size ≤ k) (.sl 32 5 (Part.ds (joinL a b))) [v] ∧ Chg (fun _ => False) w w' := by
  obtain ⟨A1, c1, rfl⟩ := sl_form2 h1
  obtain ⟨A2, c2, rfl⟩ := sl_form2 h2
  rw [Part.ds_length] at h1 h2 ⊢
  rw [Part.ds_length]
  have hbl := Part.length_le b
  have hal := Part.length_le a
  have HD1 : Hid (Rep (w.alloc (.cells #[] 32)) (fun k => S k ∧ k < w.heap.size) (.sl 32 5 (Part.ds a)) [.slice A1 a.length c1]) :=
    Lib.hid (h1.bound.stay ((Chg.refl (fun _ => False) w).alloc _) (fun _ _ e => e))
  have HO0 : Hid (Own (w.alloc (.cells #[] 32)) (fun k => S k ∨ w.heap.size ≤ k) 32 5 (.slice (some ⟨w.heap.size, 0, none⟩) 0 0) []) :=
    Lib.hid ((own_empty w S 32 5).mono (fun k hk _ => hk.elim .inl (fun e => .inr (by omega))))
  have HL1 : Hid (a.length = (Part.ds a).length) := Lib.hid (by rw [Part.ds_length])
  have HB1 : Hid ((([] : List D).length + (Part.ds a).length) * 72 ≤ 140737488355328) := Lib.hid (by rw [← HL1.out]; simp; omega)
  have HB := Lib.hid h2.bound
  clear h1 h2
  go_enter Tryd.func33, Tryd.ntmps33
  go_wp2_with (at_builtin; (refine own_append_src (fun k => S k ∨ w.heap.size ≤ k) (fun k => S k ∧ k < w.heap.size) (by rfl) (.tmp 9) (.tmp 10) _ 32 _ 5 72 rfl Tryd.underlying22 info_Part rfl (by decide) (by decide) (.slice (some ⟨w.heap.size, 0, none⟩) 0 0) [] (Part.ds a) A1 a.length c1 HL1.out rfl rfl HD1.out (fun k hk _ => ⟨.inl hk.1, fun e => by cases e; exact Nat.lt_irrefl _ hk.2⟩) HO0.out HB1.out ?_); intro v1 w4 hv1 hC4 hat1)
  have hC0 : Chg (fun _ => False) w w4 := ((Chg.refl (fun _ => False) w).alloc (.cells #[] 32)).trans hC4 (fun k hk hl => by cases hk; exact absurd hl (Nat.lt_irrefl _))
  have hnb0 : ∀ k, v1.ownBlock = some k → w.heap.size ≤ k := by
    intro k hk
    rcases hat1 with h | ⟨b, h, hb⟩
    · rw [h] at hk; cases hk; exact Nat.le_refl _
    · rw [h] at hk; cases hk; rw [World.size_alloc] at hb; omega
  have hv2 := hv1.mono (S' := fun k => S k ∨ w.heap.size ≤ k) (fun k hk _ => by
  (try simp only [or_assoc] at hk)
  (try simp only [World.size_alloc, World.heap_drewN] at hk)
  rcases hk with hk | hk | hk
  · exact .inl hk
  · exact .inr hk
  · exact .inr (by first | omega | exact Nat.le_trans (by assumption) hk))
  rw [List.nil_append] at hv2
  clear HD1 HO0 HL1 HB1 hC4 hat1 hv1
  go_wp2
  go_loopg [5, 6] b.length (fun rk ov iv wr => ∃ k : Nat, k + rk = b.length ∧ iv = .int .i64 k ∧ Own wr (fun k => S k ∨ w.heap.size ≤ k) 32 5 ov (Part.ds (joinL a (b.take k))) ∧ Hid (∀ j, ov.ownBlock = some j → w.heap.size ≤ j) ∧ Chg (fun _ => False) w wr)
  case atStart => exact ⟨0, by omega, rfl, by simpa [joinL] using hv2, Lib.hid hnb0, hC0⟩
  case round =>
    clear hv2 hnb0 hC0
    obtain ⟨k, hk, rfl, hO, HNB, hC⟩ := hrel
    generalize wr = W at *
    by_cases hlt : k < b.length
    · obtain ⟨p, hp⟩ : ∃ p, b[k]? = some p := ⟨b[k], List.getElem?_eq_getElem hlt⟩
      have hz := HB.out.stay hC (fun _ _ e => e)
      obtain ⟨b1, o1, c1', cs1, hv1, _, _, hb1, hr1, _, hcs1⟩ := sl_get hz (by omega) k p.d (by rw [Part.ds_map, List.getElem?_map, hp]; rfl)
      simp only [Part.ds_length, Value.slice.injEq] at hv1
      obtain ⟨rfl, _, rfl⟩ := hv1
      have hwp := wt_mem hp
      have hwl := joinL_wt (b.take k) a
      have hwk := wts_take_le b k
      have HJ := Lib.hid (joinL_take a b k p hp)
      generalize hl : joinL a (b.take k) = l at *
      have hll := Part.length_le l
      have r0 : IntKind.i64.wrap ((k : Int) + 1) = (k : Int) + 1 := IntWalk.i64_in _ (by omega)
      obtain ⟨kd, qd, td, od, wd⟩ := p
      obtain ⟨Aw, cw, rfl, _⟩ := part_rep2 hr1
      have g10 := hcs1 0 _ rfl
      have g11 := hcs1 1 _ rfl
      have g12 := hcs1 2 _ rfl
      have g13 := hcs1 3 _ rfl
      have g14 := hcs1 4 _ rfl
      simp only [Nat.add_zero, ← Nat.add_assoc] at g10 g11 g12 g13 g14
      have htl : td.length ≤ 200000 := by simp only [Part.wt] at hwp; omega
      clear hcs1 hz hl
      obtain ⟨A, c, rfl, hlc, hcm⟩ := hO.form
      rw [Part.ds_length] at HNB hlc
      rw [Part.ds_length]
      rw [Part.ds_length] at hO
      unfold maxLen at hcm
      have HO := Lib.hid hO
      have HBY : Hid (((Part.ds l).length + 1) * 72 ≤ 140737488355328) := Lib.hid (by rw [Part.ds_length]; omega)
      rcases snoc_cases l with rfl | ⟨i, m, rfl⟩
      · clear hO
        have HNX : Hid (Part.ds [] ++ [Part.d (.mk kd qd td od wd)] = Part.ds (joinL a (b.take (k + 1)))) := Lib.hid (by rw [HJ.out]; rfl)
        have HBD := Lib.hid hr1
        have hsz : w.heap.size ≤ W.heap.size := hC.size
        have HS0 : Hid (∀ j, j < w.heap.size → some j ≠ (Value.slice (A) (0) c).ownBlock) := Lib.hid (fun j hj e => by have := HNB.out j e.symm; omega)
        clear hr1
        go_wp2
        go_quiet (fail)
        go_wp2_with (at_builtin; (refine own_append (fun k => S k ∨ w.heap.size ≤ k) (fun j => S j ∧ j < w.heap.size) rfl _ _ _ _ _ 5 72 rfl Tryd.underlying22 info_Part rfl (by decide) (by decide) (.slice (A) (0) c) (Part.ds ([])) (Part.d (.mk kd qd td od wd)) _ rfl ?x1h1 ?x1h2 ?x1h3 ?x1h4 ?x1h5 ?x1h6 ?_))
        case x1h1 => simp [Act.eval]
        case x1h2 => exact Rep.move (Same.drewN _ _ _) (fun _ h _ => h) _ _ HBD.out
        case x1h3 => rfl
        case x1h4 => exact fun j hj _ => ⟨.inl hj.1, HS0.out j hj.2⟩
        case x1h5 => exact HO.out.stay ((Chg.refl (fun _ => False) _).drewN _) (fun _ _ e => e)
        case x1h6 => exact HBY.out
        intro v1 w4 hO1 hg1 hat1
        have hO2 := hO1.mono (S' := fun k => S k ∨ w.heap.size ≤ k) (fun k hk _ => by
          (try simp only [or_assoc] at hk)
          (try simp only [World.size_alloc, World.heap_drewN] at hk)
          rcases hk with hk | hk | hk
          · exact .inl hk
          · exact .inr hk
          · exact .inr (by first | omega | exact Nat.le_trans (by assumption) hk))
        rw [show (Part.ds ([]) ++ [Part.d (.mk kd qd td od wd)] : List D) = Part.ds (joinL a (b.take (k + 1))) from HNX.out] at hO2
        have hC4 : Chg (fun _ => False) w w4 := (hC.drewN _).trans (Chg.of_grown hg1) (fun j hj hl => by
          have := HNB.out j hj.symm
          omega)
        have hnb : ∀ j, v1.ownBlock = some j → w.heap.size ≤ j := by
          intro j hj
          rcases hat1 with h | ⟨b0, h, hb⟩
          · exact HNB.out j (h ▸ hj)
          · rw [h] at hj
            cases hj
            first | omega | exact Nat.le_trans (by assumption) hb
        generalize hLX : joinL a (b.take (k + 1)) = LX at *
        go_wp2
        go_roundg (b.length - (k + 1))
        case measure => omega
        case rel => exact ⟨k + 1, by omega, rfl, by rw [hLX]; exact hO2, Lib.hid hnb, hC4⟩
      · have hlm : (i ++ [m]).length = i.length + 1 := by simp
        rw [hlm] at hO HNB hlc HO hll ⊢
        obtain ⟨g, c', wv, hv', _, _, hg, f0, f1, f2, f3, f4, hwv⟩ := own_last2 hO
        simp only [Value.slice.injEq, true_and] at hv'
        obtain ⟨rfl, rfl⟩ := hv'
        obtain ⟨km, qm, tm, om, wm⟩ := m
        simp only [Part.kind, Part.quoted, Part.text, Part.op, Part.word] at f0 f1 f2 f3 f4
        by_cases hm : mergeB (.mk km qm tm om wm) (.mk kd qd td od wd) = true
        · have HNX : Hid (Part.ds i ++ [Part.d (.mk km qm (tm ++ td) om wm)] = Part.ds (joinL a (b.take (k + 1)))) := Lib.hid (by rw [HJ.out, add_last, if_pos hm]; simp [Part.ds_append, Part.ds, merged, Part.kind, Part.quoted, Part.text, Part.op, Part.word])
          simp only [mergeB, Part.kind, Part.quoted, Bool.and_eq_true, beq_iff_eq] at hm
          obtain ⟨⟨rfl, rfl⟩, rfl⟩ := hm
          obtain ⟨Am, cm, rfl⟩ := sl_form2 hwv
          simp only [Part.word] at hwv f4
          rw [Part.ds_length] at hwv f4
          have HWV := Lib.hid hwv
          have hsz : w.heap.size ≤ W.heap.size := hC.size
          have HI : Hid (Own W (fun k => S k ∨ w.heap.size ≤ k) 32 5 (.slice (some ⟨g, 0, none⟩) i.length c) (Part.ds i)) := Lib.hid (by
            have h := hO.take i.length (by simp [Part.ds_length]) (by simp [Part.ds_append, Part.ds])
            rw [Part.ds_append, List.take_append_of_le_length (by rw [Part.ds_length]; exact Nat.le_refl _), ← Part.ds_length i, List.take_length, Part.ds_length i] at h
            exact h)
          have htm : (bstr tm).size ≤ 400000 := by
            rw [bstr_size]
            rw [Part.wts_append] at hwl
            simp only [Part.wts, Part.wt] at hwl
            omega
          have htd : (bstr td).size ≤ 400000 := by rw [bstr_size]; omega
          have h2 : ¬ (9223372036854775807 < (bstr tm).size + (bstr td).size) := by omega
          have h0 : decide ((0 : Int) < (i.length : Int) + 1) = true := by simp
          have hw0 : IntKind.i64.wrap (i.length : Int) = i.length := IntWalk.i64_in _ (by omega)
          have hi0 : (0 : Int) ≤ (i.length : Int) := by omega
          have hi1 : (i.length : Int) < (i.length : Int) + 1 := by omega
          have hi2 : (i.length : Int) ≤ (c : Int) := by omega
          have hi3 : i.length ≤ c := by omega
          have hkk0 : (0 : Int) ≤ (k : Int) := by omega
          have hkk1 : (k : Int) < (b.length : Int) := by omega
          have HTT := Lib.hid (bstr_append tm td)
          have HTT2 : Hid (bstr (tm ++ td) = bstr (tm ++ td)) := Lib.hid rfl
          clear hO hwv hr1 hlm
          generalize bstr tm = xm at *
          generalize bstr td = xd at *
          go_wp2
          go_quiet (fail)
          have hCq : Chg (fun _ => False) W (W.drewN nq) := (Chg.refl _ W).drewN _
          have hCq2 : Chg (fun _ => False) w (W.drewN nq) := hC.drewN _
          replace hsz : w.heap.size ≤ (W.drewN nq).heap.size := hsz
          replace f0 := hCq.cell f0 (fun e => e)
          replace f1 := hCq.cell f1 (fun e => e)
          replace f2 := hCq.cell f2 (fun e => e)
          replace f3 := hCq.cell f3 (fun e => e)
          replace f4 := hCq.cell f4 (fun e => e)
          replace g12 := hCq.cell g12 (fun e => e)
          replace hg : g < (W.drewN nq).heap.size := hg
          replace HWV := Lib.hid (HWV.out.stay hCq (fun _ _ e => e))
          replace HI := Lib.hid (HI.out.stay hCq (fun _ _ e => e))
          clear HO HBY hC g10 g11 g13 g14
          generalize W.drewN nq = W1 at *
          generalize hxo : bstr om = xo at *
          have HXO := Lib.hid hxo
          clear hxo
          go_wp2
          have hCa : Chg (fun _ => False) W1 (W1.alloc (.cells #[.int .i64 1, .bool qm, .string xm, .string xo, .slice Am wm.length cm] 32)) := (Chg.refl _ W1).alloc _
          have hrow := row_new W1 (.cells #[.int .i64 1, .bool qm, .string xm, .string xo, .slice Am wm.length cm] 32)
          generalize W1.alloc (.cells #[.int .i64 1, .bool qm, .string xm, .string xo, .slice Am wm.length cm] 32) = W2 at *
          have kcl := row_cells hrow
          have kfr := row_free hrow
          replace g12 := hCa.cell g12 (fun e => e)
          refine still_tail2 9 (by kernel_rfl) (by kernel_rfl) ?_
          simp only [List.take_succ_cons, List.take_zero, List.drop_succ_cons, List.drop_zero]
          repeat still_step
          refine wpStill_nil ?_
          go_wp2
          have hrow3 := row_set (w := W2.drew) hrow 2 (.string (xm ++ xd))
          have hC3 : Chg (fun _ => False) W1 (W2.setCell ⟨W1.heap.size, 2, none⟩ (.string (xm ++ xd))).drew := (hCa.setCell (fun h => absurd h (Nat.lt_irrefl _)) _).drew
          replace hrow3 : ((W2.setCell ⟨W1.heap.size, 2, none⟩ (.string (xm ++ xd))).drew).heap[W1.heap.size]? = _ := hrow3
          generalize (W2.setCell ⟨W1.heap.size, 2, none⟩ (.string (xm ++ xd))).drew = W3 at *
          rw [HTT.out] at hrow3
          replace hrow3 : W3.heap[W1.heap.size]? = some (.cells #[.int .i64 1, .bool qm, .string (bstr (tm ++ td)), .string xo, .slice Am wm.length cm] 32 (0, 0)) := hrow3
          clear kcl kfr g12 hrow
          have kcl := row_cells hrow3
          have kfr := row_free hrow3
          have HP3 : Hid (Rep W3 (fun j => (S j ∨ w.heap.size ≤ j) ∧ j ≠ g) (Part.d (.mk 1 qm (tm ++ td) om wm)) [.int .i64 1, .bool qm, .string (bstr (tm ++ td)), .string xo, .slice Am wm.length cm]) :=
            Lib.hid (part_rep.2 ⟨_, by rw [HXO.out], HWV.out.stay hC3 (fun _ _ e => e)⟩)
          have HI3 := Lib.hid (HI.out.stay hC3 (fun _ _ e => e))
          have HBZ : Hid (((Part.ds i).length + 1) * 72 ≤ 140737488355328) := Lib.hid (by rw [Part.ds_length]; omega)
          generalize bstr (tm ++ td) = xt at *
          have hXg : ¬ some W1.heap.size = (Value.slice (some ⟨g, 0, none⟩) i.length c).ownBlock := fun e => by
            have : W1.heap.size = g := by cases e; rfl
            omega
          go_region_held3 (fun w' => w'.cell? ⟨W1.heap.size, 0, none⟩ = some (.int .i64 1) ∧ w'.cell? ⟨W1.heap.size, 1, none⟩ = some (.bool qm) ∧ w'.cell? ⟨W1.heap.size, 2, none⟩ = some (.string xt) ∧ w'.cell? ⟨W1.heap.size, 3, none⟩ = some (.string xo) ∧ w'.cell? ⟨W1.heap.size, 4, none⟩ = some (.slice Am wm.length cm))
            (first
              | go_keep
              | (exact ⟨(Chg.of_grown hg1).cell (kcl 0) hXg, (Chg.of_grown hg1).cell (kcl 1) hXg, (Chg.of_grown hg1).cell (kcl 2) hXg, (Chg.of_grown hg1).cell (kcl 3) hXg, (Chg.of_grown hg1).cell (kcl 4) hXg⟩))
            (first
              | ((refine own_append_st W3.drew (fun k => S k ∨ w.heap.size ≤ k) (fun j => (S j ∨ w.heap.size ≤ j) ∧ j ≠ g) ?h8 (.tmp 70) (.tmp 72) _ _ _ 5 72 ?h7 Tryd.underlying22 info_Part rfl (by decide) (by decide) (.slice (some ⟨g, 0, none⟩) i.length c) (Part.ds i) (Part.d (.mk 1 qm (tm ++ td) om wm)) [.int .i64 1, .bool qm, .string xt, .string xo, .slice Am wm.length cm] ?h0 ?h1 ?h2 ?h3 ?h9 ?h4 ?h5 ?h6 ?_); (all_goals first | rfl | (simp [Act.eval]; done) | exact HP3.out.stay ((Chg.refl (fun _ => False) _).drew) (fun _ _ e => e) | exact fun j hj _ => ⟨hj.1, fun e => hj.2 (by cases e; rfl)⟩ | exact HI3.out.stay ((Chg.refl (fun _ => False) _).drew) (fun _ _ e => e) | exact HBZ.out | skip); intro v1 w4 hO1 hg1 hat1))
          have hsz3 : w.heap.size ≤ W3.heap.size := Nat.le_trans hsz hC3.size
          have hO2 := hO1.mono (S' := fun k => S k ∨ w.heap.size ≤ k) (fun k hk _ => by
            (try simp only [or_assoc] at hk)
            (try simp only [World.size_alloc, World.heap_drewN] at hk)
            rcases hk with hk | hk | hk
            · exact .inl hk
            · exact .inr hk
            · exact .inr (by first | omega | exact Nat.le_trans (by assumption) hk))
          rw [show (Part.ds (i) ++ [Part.d (.mk 1 qm (tm ++ td) om wm)] : List D) = Part.ds (joinL a (b.take (k + 1))) from HNX.out] at hO2
          have hC4 : Chg (fun _ => False) w w4 := ((hCq2.trans hC3 (fun _ h _ => h)).drew).trans (Chg.of_grown hg1) (fun j hj hl => by
            have := HNB.out j hj.symm
            omega)
          have hnb : ∀ j, v1.ownBlock = some j → w.heap.size ≤ j := by
            intro j hj
            rcases hat1 with h | ⟨b0, h, hb⟩
            · exact HNB.out j (h ▸ hj)
            · rw [h] at hj
              cases hj
              first | omega | exact Nat.le_trans (by assumption) hb
          generalize hLX : joinL a (b.take (k + 1)) = LX at *
          go_wp2
          go_roundg (b.length - (k + 1))
          case measure => omega
          case rel => exact ⟨k + 1, by omega, rfl, by rw [hLX]; exact hO2, Lib.hid hnb, hC4⟩
        · have HNX : Hid (Part.ds (i ++ [.mk km qm tm om wm]) ++ [Part.d (.mk kd qd td od wd)] = Part.ds (joinL a (b.take (k + 1)))) := Lib.hid (by rw [HJ.out, add_last, if_neg hm]; simp [Part.ds_append, Part.ds])
          simp only [mergeB, Part.kind, Part.quoted] at hm
          clear hO hwv hlm
          have h0 : decide ((0 : Int) < (i.length : Int) + 1) = true := by simp
          cases k1 : kd == 1
          · have HBD := Lib.hid hr1
            have hsz : w.heap.size ≤ W.heap.size := hC.size
            have HS0 : Hid (∀ j, j < w.heap.size → some j ≠ (Value.slice (some ⟨g, 0, none⟩) (i.length + 1) c).ownBlock) := Lib.hid (fun j hj e => by have := HNB.out j e.symm; omega)
            clear hr1
            go_wp2
            go_quiet (fail)
            go_wp2_with (at_builtin; (refine own_append (fun k => S k ∨ w.heap.size ≤ k) (fun j => S j ∧ j < w.heap.size) rfl _ _ _ _ _ 5 72 rfl Tryd.underlying22 info_Part rfl (by decide) (by decide) (.slice (some ⟨g, 0, none⟩) (i.length + 1) c) (Part.ds (i ++ [.mk km qm tm om wm])) (Part.d (.mk kd qd td od wd)) _ rfl ?x2h1 ?x2h2 ?x2h3 ?x2h4 ?x2h5 ?x2h6 ?_))
            case x2h1 => simp [Act.eval]
            case x2h2 => exact Rep.move (Same.drewN _ _ _) (fun _ h _ => h) _ _ HBD.out
            case x2h3 => rfl
            case x2h4 => exact fun j hj _ => ⟨.inl hj.1, HS0.out j hj.2⟩
            case x2h5 => exact HO.out.stay ((Chg.refl (fun _ => False) _).drewN _) (fun _ _ e => e)
            case x2h6 => exact HBY.out
            intro v1 w4 hO1 hg1 hat1
            have hO2 := hO1.mono (S' := fun k => S k ∨ w.heap.size ≤ k) (fun k hk _ => by
              (try simp only [or_assoc] at hk)
              (try simp only [World.size_alloc, World.heap_drewN] at hk)
              rcases hk with hk | hk | hk
              · exact .inl hk
              · exact .inr hk
              · exact .inr (by first | omega | exact Nat.le_trans (by assumption) hk))
            rw [show (Part.ds (i ++ [.mk km qm tm om wm]) ++ [Part.d (.mk kd qd td od wd)] : List D) = Part.ds (joinL a (b.take (k + 1))) from HNX.out] at hO2
            have hC4 : Chg (fun _ => False) w w4 := (hC.drewN _).trans (Chg.of_grown hg1) (fun j hj hl => by
              have := HNB.out j hj.symm
              omega)
            have hnb : ∀ j, v1.ownBlock = some j → w.heap.size ≤ j := by
              intro j hj
              rcases hat1 with h | ⟨b0, h, hb⟩
              · exact HNB.out j (h ▸ hj)
              · rw [h] at hj
                cases hj
                first | omega | exact Nat.le_trans (by assumption) hb
            generalize hLX : joinL a (b.take (k + 1)) = LX at *
            go_wp2
            go_roundg (b.length - (k + 1))
            case measure => omega
            case rel => exact ⟨k + 1, by omega, rfl, by rw [hLX]; exact hO2, Lib.hid hnb, hC4⟩
          · cases k2 : km == 1
            · have HBD := Lib.hid hr1
              have hsz : w.heap.size ≤ W.heap.size := hC.size
              have HS0 : Hid (∀ j, j < w.heap.size → some j ≠ (Value.slice (some ⟨g, 0, none⟩) (i.length + 1) c).ownBlock) := Lib.hid (fun j hj e => by have := HNB.out j e.symm; omega)
              clear hr1
              go_wp2
              go_quiet (fail)
              go_wp2_with (at_builtin; (refine own_append (fun k => S k ∨ w.heap.size ≤ k) (fun j => S j ∧ j < w.heap.size) rfl _ _ _ _ _ 5 72 rfl Tryd.underlying22 info_Part rfl (by decide) (by decide) (.slice (some ⟨g, 0, none⟩) (i.length + 1) c) (Part.ds (i ++ [.mk km qm tm om wm])) (Part.d (.mk kd qd td od wd)) _ rfl ?x3h1 ?x3h2 ?x3h3 ?x3h4 ?x3h5 ?x3h6 ?_))
              case x3h1 => simp [Act.eval]
              case x3h2 => exact Rep.move (Same.drewN _ _ _) (fun _ h _ => h) _ _ HBD.out
              case x3h3 => rfl
              case x3h4 => exact fun j hj _ => ⟨.inl hj.1, HS0.out j hj.2⟩
              case x3h5 => exact HO.out.stay ((Chg.refl (fun _ => False) _).drewN _) (fun _ _ e => e)
              case x3h6 => exact HBY.out
              intro v1 w4 hO1 hg1 hat1
              have hO2 := hO1.mono (S' := fun k => S k ∨ w.heap.size ≤ k) (fun k hk _ => by
                (try simp only [or_assoc] at hk)
                (try simp only [World.size_alloc, World.heap_drewN] at hk)
                rcases hk with hk | hk | hk
                · exact .inl hk
                · exact .inr hk
                · exact .inr (by first | omega | exact Nat.le_trans (by assumption) hk))
              rw [show (Part.ds (i ++ [.mk km qm tm om wm]) ++ [Part.d (.mk kd qd td od wd)] : List D) = Part.ds (joinL a (b.take (k + 1))) from HNX.out] at hO2
              have hC4 : Chg (fun _ => False) w w4 := (hC.drewN _).trans (Chg.of_grown hg1) (fun j hj hl => by
                have := HNB.out j hj.symm
                omega)
              have hnb : ∀ j, v1.ownBlock = some j → w.heap.size ≤ j := by
                intro j hj
                rcases hat1 with h | ⟨b0, h, hb⟩
                · exact HNB.out j (h ▸ hj)
                · rw [h] at hj
                  cases hj
                  first | omega | exact Nat.le_trans (by assumption) hb
              generalize hLX : joinL a (b.take (k + 1)) = LX at *
              go_wp2
              go_roundg (b.length - (k + 1))
              case measure => omega
              case rel => exact ⟨k + 1, by omega, rfl, by rw [hLX]; exact hO2, Lib.hid hnb, hC4⟩
            · have k3 : (qm == qd) = false := by revert hm; rw [k1, k2]; cases (qm == qd) <;> simp
              have HBD := Lib.hid hr1
              have hsz : w.heap.size ≤ W.heap.size := hC.size
              have HS0 : Hid (∀ j, j < w.heap.size → some j ≠ (Value.slice (some ⟨g, 0, none⟩) (i.length + 1) c).ownBlock) := Lib.hid (fun j hj e => by have := HNB.out j e.symm; omega)
              clear hr1
              go_wp2
              go_quiet (fail)
              go_wp2_with (at_builtin; (refine own_append (fun k => S k ∨ w.heap.size ≤ k) (fun j => S j ∧ j < w.heap.size) rfl _ _ _ _ _ 5 72 rfl Tryd.underlying22 info_Part rfl (by decide) (by decide) (.slice (some ⟨g, 0, none⟩) (i.length + 1) c) (Part.ds (i ++ [.mk km qm tm om wm])) (Part.d (.mk kd qd td od wd)) _ rfl ?x4h1 ?x4h2 ?x4h3 ?x4h4 ?x4h5 ?x4h6 ?_))
              case x4h1 => simp [Act.eval]
              case x4h2 => exact Rep.move (Same.drewN _ _ _) (fun _ h _ => h) _ _ HBD.out
              case x4h3 => rfl
              case x4h4 => exact fun j hj _ => ⟨.inl hj.1, HS0.out j hj.2⟩
              case x4h5 => exact HO.out.stay ((Chg.refl (fun _ => False) _).drewN _) (fun _ _ e => e)
              case x4h6 => exact HBY.out
              intro v1 w4 hO1 hg1 hat1
              have hO2 := hO1.mono (S' := fun k => S k ∨ w.heap.size ≤ k) (fun k hk _ => by
                (try simp only [or_assoc] at hk)
                (try simp only [World.size_alloc, World.heap_drewN] at hk)
                rcases hk with hk | hk | hk
                · exact .inl hk
                · exact .inr hk
                · exact .inr (by first | omega | exact Nat.le_trans (by assumption) hk))
              rw [show (Part.ds (i ++ [.mk km qm tm om wm]) ++ [Part.d (.mk kd qd td od wd)] : List D) = Part.ds (joinL a (b.take (k + 1))) from HNX.out] at hO2
              have hC4 : Chg (fun _ => False) w w4 := (hC.drewN _).trans (Chg.of_grown hg1) (fun j hj hl => by
                have := HNB.out j hj.symm
                omega)
              have hnb : ∀ j, v1.ownBlock = some j → w.heap.size ≤ j := by
                intro j hj
                rcases hat1 with h | ⟨b0, h, hb⟩
                · exact HNB.out j (h ▸ hj)
                · rw [h] at hj
                  cases hj
                  first | omega | exact Nat.le_trans (by assumption) hb
              generalize hLX : joinL a (b.take (k + 1)) = LX at *
              go_wp2
              go_roundg (b.length - (k + 1))
              case measure => omega
              case rel => exact ⟨k + 1, by omega, rfl, by rw [hLX]; exact hO2, Lib.hid hnb, hC4⟩
    · have hk' : k = b.length := by omega
      subst hk'
      rw [List.take_length] at hO
      have hR := hO.rep
      go_wp2
      go_ret
      exact ⟨_, rfl, hR, hC⟩
end Go.Proofs.YtdfnkmiabmjolaaDoor
namespace Go.Proofs.YtdfnkmiabmjolaaDoor
open Go.RowKit
set_option linter.unusedVariables false
set_option linter.unusedSimpArgs false

theorem allL_take (A l : List Part) (k : Nat) (p : Part) (h : l[k]? = some p) : allL A (l.take (k + 1)) = add (allL A (l.take k)) (allP p) := by
  rw [allL_map, allL_map, List.map_take, List.map_take, joinL_take A (l.map allP) k (allP p) (by rw [List.getElem?_map, h]; rfl)]
theorem allP_wt' (p : Part) : (allP p).wt ≤ p.wt := allB_wt p true
theorem setCell_chgR (w : World) (X i : Nat) (v : Value) : Chg (· = X) w (w.setCell ⟨X, i, none⟩ v) := (Chg.refl (· = X) w).setCell (fun _ => rfl) v
def QuotedSaid (n : Nat) : Prop := ∀ (w : World) (S : Nat → Prop) (v : Value) (l : List Part), Part.wts l < n → Part.wts l ≤ 100000 → Rep w S (.sl 32 5 (Part.ds l)) [v] →
  Calls Tryd.prog 47 #[v] w fun e w' => ∃ u, e = .returned u ∧ Rep w' (fun k => w.heap.size ≤ k) (.sl 32 5 (Part.ds (allL [] l))) [u] ∧ Chg (fun _ => False) w w'
set_option maxRecDepth 100000 in
set_option maxHeartbeats 40000000 in
theorem quoted_step (n : Nat) (IH : QuotedSaid n) : QuotedSaid (n + 1) := by
  intro w S v l hn hb h
  obtain ⟨A, c, rfl⟩ := sl_form2 h
  rw [Part.ds_length] at h ⊢
  have hll := Part.length_le l
  have HB := Lib.hid h.bound
  clear h
  go_enter Tryd.func47, Tryd.ntmps47
  go_wp2
  go_loopg [3, 4] l.length (fun rk ov iv wr => ∃ k : Nat, k + rk = l.length ∧ iv = .int .i64 k ∧ Rep wr (fun k => w.heap.size ≤ k) (.sl 32 5 (Part.ds (allL [] (l.take k)))) [ov] ∧ Chg (fun _ => False) w wr)
  case atStart => exact ⟨0, by omega, rfl, ⟨none, 0, [], rfl, Nat.le_refl _, by simp [maxLen], by simp [Rd], rfl⟩, Chg.refl _ _⟩
  case round =>
    obtain ⟨k, hk, rfl, hO, hC⟩ := hrel
    generalize wr = W at *
    obtain ⟨Ao, co, rfl⟩ := sl_form2 hO
    rw [Part.ds_length] at hO ⊢
    by_cases hlt : k < l.length
    · obtain ⟨p, hp⟩ : ∃ p, l[k]? = some p := ⟨l[k], List.getElem?_eq_getElem hlt⟩
      have hz := HB.out.stay hC (fun _ _ e => e)
      obtain ⟨b1, o1, c1', cs1, hv1, _, _, _, hr1, _, hcs1⟩ := sl_get hz (by omega) k p.d (by rw [Part.ds_map, List.getElem?_map, hp]; rfl)
      simp only [Part.ds_length, Value.slice.injEq] at hv1
      obtain ⟨rfl, _, rfl⟩ := hv1
      have hwp := wt_mem hp
      have hwl := allL_wt (l.take k)
      have hwk := wts_take_le l k
      have HJ := Lib.hid (allL_take [] l k p hp)
      have hwq := allP_wt' p
      have r0 : IntKind.i64.wrap ((k : Int) + 1) = (k : Int) + 1 := IntWalk.i64_in _ (by omega)
      obtain ⟨kd, qd, td, od, wd⟩ := p
      obtain ⟨Aw, cw, rfl, hwv, _⟩ := part_rep2 hr1
      have hq : (Part.mk kd true td od (allL [] wd)) = allP (.mk kd qd td od wd) := by rw [allP]
      have HQ := Lib.hid hq
      have g10 := hcs1 0 _ rfl
      have g11 := hcs1 1 _ rfl
      have g12 := hcs1 2 _ rfl
      have g13 := hcs1 3 _ rfl
      have g14 := hcs1 4 _ rfl
      simp only [Nat.add_zero, ← Nat.add_assoc] at g10 g11 g12 g13 g14
      have hwd : Part.wts wd < Part.wts l := by simp only [Part.wt] at hwp; omega
      generalize hLK : allL [] (l.take k) = LK at *
      have HXT := Lib.hid (rfl : bstr td = bstr td)
      have hsz : w.heap.size ≤ W.heap.size := hC.size
      clear hcs1 hz hr1 hp hq
      generalize hxt : bstr td = xt at *
      generalize hxo : bstr od = xo at *
      have HX := Lib.hid (And.intro hxt hxo)
      clear hxt hxo
      go_wp2_with fail
      have hCa : Chg (fun _ => False) W (W.alloc (.cells #[.int .i64 kd, .bool true, .string xt, .string xo, .slice Aw wd.length cw] 32)) := (Chg.refl _ W).alloc _
      have hrow := row_new W (.cells #[.int .i64 kd, .bool true, .string xt, .string xo, .slice Aw wd.length cw] 32)
      have hX2 := row_lt hrow
      generalize W.alloc (.cells #[.int .i64 kd, .bool true, .string xt, .string xo, .slice Aw wd.length cw] 32) = W2 at *
      refine Calls.mono (IH W2 _ _ wd (by omega) (by omega) (hwv.stay hCa (fun _ _ e => e))) ?_
      rintro e w3 ⟨u, rfl, hu, hC3⟩
      obtain ⟨Au, cu, rfl⟩ := sl_form2 hu
      rw [Part.ds_length] at hu ⊢
      have hrow3 := row_chg hrow hC3 (fun e => e)
      have hC4 := hC3.size
      have HO3 := Lib.hid ((((hO.bound.stay hCa (fun _ _ e => e)).stay hC3 (fun _ _ e => e)).stay (setCell_chgR w3 W.heap.size 4 (.slice Au (allL [] wd).length cu)) (fun j hj e => by omega)).stay ((Chg.refl (fun _ => False) _).alloc (.cells #[.int .i64 kd, .bool true, .string xt, .string xo, .slice Au (allL [] wd).length cu] 32)) (fun _ _ e => e))
      have HP3 : Hid (Rep (w3.setCell ⟨W.heap.size, 4, none⟩ (.slice Au (allL [] wd).length cu)) (fun j => W2.heap.size ≤ j) (Part.d (.mk kd true td od (allL [] wd))) [.int .i64 kd, .bool true, .string xt, .string xo, .slice Au (allL [] wd).length cu]) :=
        Lib.hid (part_rep.2 ⟨_, by rw [HX.out.1, HX.out.2], hu.stay (setCell_chgR w3 W.heap.size 4 (.slice Au (allL [] wd).length cu)) (fun j hj e => by omega)⟩)
      have HR3 := Lib.hid (one_row (e := 32) HP3.out (sz := 5) rfl)
      have hCw : Chg (fun _ => False) w ((w3.setCell ⟨W.heap.size, 4, none⟩ (.slice Au (allL [] wd).length cu)).alloc (.cells #[.int .i64 kd, .bool true, .string xt, .string xo, .slice Au (allL [] wd).length cu] 32)) :=
        (((hC.trans hCa (fun _ h _ => h)).trans hC3 (fun _ h _ => h)).setCell (fun e => absurd e (by simp; omega)) _).alloc _
      have kcl := row_cells hrow3
      have kfr := row_free hrow3
      clear hrow hrow3 hO hu hwv g10 g11 g12 g13 g14
      go_wp2_with fail
      rw [HQ.out, World.size_setCell] at HR3
      refine Calls.mono (join_calls _ (fun j => w.heap.size ≤ j) _ _ LK [allP (.mk kd qd td od wd)] (by simp only [Part.wts]; omega) (HO3.out.mono (fun _ hj _ => hj.1)) (HR3.out.mono (fun j hj _ => by omega))) ?_
      rintro e w5 ⟨v5, rfl, hv5, hC5⟩
      have hv6 : Rep w5 (fun j => w.heap.size ≤ j) (.sl 32 5 (Part.ds (allL [] (l.take (k + 1))))) [v5] := by
        rw [HJ.out]
        refine hv5.mono (fun j hj _ => ?_)
        rcases hj with hj | hj
        · exact hj
        · rw [World.size_alloc, World.size_setCell] at hj
          omega
      have hCz := hCw.trans hC5 (fun _ h _ => h)
      clear HO3 HP3 HR3 hCw hv5 hC5 kcl kfr
      go_wp2
      go_roundg (l.length - (k + 1))
      case measure => omega
      case rel => exact ⟨k + 1, by omega, rfl, hv6, hCz⟩
    · have hk' : k = l.length := by omega
      subst hk'
      rw [List.take_length] at hO
      go_wp2
      go_ret
      rw [List.take_length]
      exact ⟨_, rfl, hO, hC⟩
theorem quoted_all : ∀ n, QuotedSaid n
  | 0 => fun _ _ _ _ h => absurd h (Nat.not_lt_zero _)
  | n + 1 => quoted_step n (quoted_all n)
theorem quoted_calls (w : World) (S : Nat → Prop) (v : Value) (l : List Part) (hb : Part.wts l ≤ 100000) (h : Rep w S (.sl 32 5 (Part.ds l)) [v]) :
    Calls Tryd.prog 47 #[v] w fun e w' => ∃ u, e = .returned u ∧ Rep w' (fun k => w.heap.size ≤ k) (.sl 32 5 (Part.ds (allL [] l))) [u] ∧ Chg (fun _ => False) w w' :=
  quoted_all (Part.wts l + 1) w S v l (Nat.lt_succ_self _) hb h
end Go.Proofs.YtdfnkmiabmjolaaDoor
namespace Go.Proofs.YtdfnkmiabmjolaaDoor
open Go.RowKit
set_option linter.unusedVariables false
set_option linter.unusedSimpArgs false

theorem rspec_calls (c : UInt8) (w : World) : Calls Tryd.prog 44 #[.string ⟨#[64, 42, 35, 63]⟩, .int .u8 c.toNat] w fun e w' => e = .returned (.bool (special c)) ∧ w = w' := rhas_calls ⟨#[64, 42, 35, 63]⟩ c w (by decide)
theorem rstop_calls (c : UInt8) (w : World) : Calls Tryd.prog 44 #[.string ⟨#[39, 34, 92, 96, 10]⟩, .int .u8 c.toNat] w fun e w' => e = .returned (.bool (arithStop.contains c)) ∧ w = w' := rhas_calls ⟨#[39, 34, 92, 96, 10]⟩ c w (by decide)
theorem rdblq_calls (c : UInt8) (w : World) : Calls Tryd.prog 44 #[.string ⟨#[36, 34, 92, 96, 10]⟩, .int .u8 c.toNat] w fun e w' => e = .returned (.bool (dblq.contains c)) ∧ w = w' := rhas_calls ⟨#[36, 34, 92, 96, 10]⟩ c w (by decide)

theorem named_drop (s : ByteArray) (i : Nat) (h : i < s.size) : named (s.data.toList.drop i) = if letterB s[i].toNat then 1 + ((s.data.toList.drop (i + 1)).takeWhile alnum).length else 0 := by
  rw [byte_drop s i h]
  rfl
set_option maxHeartbeats 4000000 in
theorem rnameat2_calls (s : ByteArray) (i : Nat) (w : World) (hs : s.size ≤ 140737488355328) (hi : i ≤ s.size) : Calls Tryd.prog 60 #[.string s, .int .i64 i] w fun e w' => e = .returned (.int .i64 (named (s.data.toList.drop i))) ∧ w = w' := by
  go_enter Tryd.func60, Tryd.ntmps60
  go_wp2
  go_loop [5] (fun n => ∃ k : Nat, i + k ≤ s.size ∧ n = .int .i64 k ∧ Hid (k = 0 ∨ named (s.data.toList.drop i) = k + ((s.data.toList.drop (i + k)).takeWhile alnum).length)) (fun n => s.size - (intOf n).toNat)
  case atStart => exact ⟨0, by omega, rfl, Lib.hid (.inl rfl)⟩
  case round =>
    obtain ⟨k, hk, rfl, HK⟩ := hrel
    have r1 : IntKind.i64.wrap ((i : Int) + (k : Int)) = (i : Int) + (k : Int) := IntWalk.i64_in _ (by omega)
    have r2 : ((i : Int) + (k : Int)).toNat = i + k := by omega
    have r3 : (0 : Int) ≤ (i : Int) + (k : Int) := by omega
    have r5 : IntKind.i64.wrap ((k : Int) + 1) = (k : Int) + 1 := IntWalk.i64_in _ (by omega)
    by_cases hlt : i + k < s.size
    · have r4 : (i : Int) + (k : Int) < (s.size : Int) := by omega
      by_cases hk0 : k = 0
      · subst hk0
        have hlt0 : i < s.size := by omega
        have HN := Lib.hid (named_drop s i hlt0)
        have r6 : (0 : Int) ≤ (i : Int) := by omega
        have r7 : (i : Int) < (s.size : Int) := by omega
        cases h1 : letterB s[i].toNat
        · go_wp2_with (first | (go_at_call 70; refine (rletter_calls _ _).mono ?_; rintro e w' ⟨rfl, rfl⟩) | (go_at_call 61; refine (rdigit_calls _ _).mono ?_; rintro e w' ⟨rfl, rfl⟩))
          go_ret
          exact ⟨ret_int (by rw [HN.out, h1]; rfl), rfl⟩
        · go_wp2_with (first | (go_at_call 70; refine (rletter_calls _ _).mono ?_; rintro e w' ⟨rfl, rfl⟩) | (go_at_call 61; refine (rdigit_calls _ _).mono ?_; rintro e w' ⟨rfl, rfl⟩))
          go_round
          case rel => exact ⟨1, by omega, by go_num, Lib.hid (.inr (by rw [HN.out, h1]; rfl))⟩
          case measure => simp [intOf]; omega
      · have hkp : (0 : Int) < (k : Int) := by omega
        have hst := takeWhile_step (p := alnum) s (i + k) hlt
        have ha : alnum s[i + k] = (letterB s[i + k].toNat || digitB s[i + k].toNat) := rfl
        rw [ha] at hst
        have HS := Lib.hid hst; clear hst ha
        have HK1 : Hid (named (s.data.toList.drop i) = k + ((s.data.toList.drop (i + k)).takeWhile alnum).length) := Lib.hid (HK.out.resolve_left hk0)
        cases h1 : letterB s[i + k].toNat
        · cases h2 : digitB s[i + k].toNat
          · go_wp2_with (first | (go_at_call 70; refine (rletter_calls _ _).mono ?_; rintro e w' ⟨rfl, rfl⟩) | (go_at_call 61; refine (rdigit_calls _ _).mono ?_; rintro e w' ⟨rfl, rfl⟩))
            go_ret
            exact ⟨ret_int (by rw [HK1.out, HS.out]; simp [h1, h2]), rfl⟩
          · go_wp2_with (first | (go_at_call 70; refine (rletter_calls _ _).mono ?_; rintro e w' ⟨rfl, rfl⟩) | (go_at_call 61; refine (rdigit_calls _ _).mono ?_; rintro e w' ⟨rfl, rfl⟩))
            go_round
            case rel => exact ⟨k + 1, by omega, by go_num, Lib.hid (.inr (by rw [HK1.out, HS.out]; simp [h1, h2, Nat.add_assoc]))⟩
            case measure => simp [intOf]; omega
        · go_wp2_with (first | (go_at_call 70; refine (rletter_calls _ _).mono ?_; rintro e w' ⟨rfl, rfl⟩) | (go_at_call 61; refine (rdigit_calls _ _).mono ?_; rintro e w' ⟨rfl, rfl⟩))
          go_round
          case rel => exact ⟨k + 1, by omega, by go_num, Lib.hid (.inr (by rw [HK1.out, HS.out]; simp [h1, Nat.add_assoc]))⟩
          case measure => simp [intOf]; omega
    · have hn2 : decide ((i : Int) + (k : Int) < (s.size : Int)) = false := by simp; omega
      have HN : Hid (named (s.data.toList.drop i) = k) := Lib.hid (by
        rcases HK.out with h | h
        · subst h
          rw [drop_end s i (by omega)]; rfl
        · rw [h, takeWhile_end s (i + k) hlt]; rfl)
      go_wp2
      go_ret
      exact ⟨ret_int (by rw [HN.out]), rfl⟩

set_option maxHeartbeats 4000000 in
theorem rparamat_calls (s : ByteArray) (i : Nat) (w : World) (hs : s.size ≤ 140737488355328) (hi : i ≤ s.size) : Calls Tryd.prog 71 #[.string s, .int .i64 i] w fun e w' => e = .returned (.int .i64 (parameter (s.data.toList.drop i))) ∧ w = w' := by
  have hna := rnameat2_calls s i w hs hi
  by_cases hlt : i < s.size
  · have HP : Hid (parameter (s.data.toList.drop i) = if named (s.data.toList.drop i) > 0 then named (s.data.toList.drop i) else if special s[i] then 1 else ((s.data.toList.drop i).takeWhile digit).length) := Lib.hid (by
      rw [byte_drop s i hlt]
      rfl)
    generalize named (s.data.toList.drop i) = n at *
    have r6 : (0 : Int) ≤ (i : Int) := by omega
    have r7 : (i : Int) < (s.size : Int) := by omega
    by_cases hn : n = 0
    · subst hn
      cases hsp : special s[i]
      · have HP2 : Hid (parameter (s.data.toList.drop i) = ((s.data.toList.drop i).takeWhile digit).length) := Lib.hid (by rw [HP.out, hsp]; rfl)
        clear HP
        go_enter Tryd.func71, Tryd.ntmps71
        go_wp2_with (first | (go_at_call 60; refine hna.mono ?_; rintro e w' ⟨rfl, rfl⟩) | (go_at_call 44; refine (rspec_calls _ _).mono ?_; rintro e w' ⟨rfl, rfl⟩))
        clear hna
        go_loop [5] (fun n => ∃ k : Nat, i + k ≤ s.size ∧ n = .int .i64 k ∧ Hid (((s.data.toList.drop i).takeWhile digit).length = k + ((s.data.toList.drop (i + k)).takeWhile digit).length)) (fun n => s.size - (intOf n).toNat)
        case atStart => exact ⟨0, by omega, rfl, Lib.hid (by simp)⟩
        case round =>
          obtain ⟨k, hk, rfl, HK⟩ := hrel
          have r1 : IntKind.i64.wrap ((i : Int) + (k : Int)) = (i : Int) + (k : Int) := IntWalk.i64_in _ (by omega)
          have r2 : ((i : Int) + (k : Int)).toNat = i + k := by omega
          have r3 : (0 : Int) ≤ (i : Int) + (k : Int) := by omega
          have r5 : IntKind.i64.wrap ((k : Int) + 1) = (k : Int) + 1 := IntWalk.i64_in _ (by omega)
          by_cases hlt2 : i + k < s.size
          · have r4 : (i : Int) + (k : Int) < (s.size : Int) := by omega
            have hst := takeWhile_step (p := digit) s (i + k) hlt2
            have ha : digit s[i + k] = digitB s[i + k].toNat := rfl
            rw [ha] at hst
            have HS := Lib.hid hst; clear hst ha
            cases h1 : digitB s[i + k].toNat
            · go_wp2_with (go_at_call 61; refine (rdigit_calls _ _).mono ?_; rintro e w' ⟨rfl, rfl⟩)
              go_ret
              exact ⟨ret_int (by rw [HP2.out, HK.out, HS.out]; simp [h1]), rfl⟩
            · go_wp2_with (go_at_call 61; refine (rdigit_calls _ _).mono ?_; rintro e w' ⟨rfl, rfl⟩)
              go_round
              case rel => exact ⟨k + 1, by omega, by go_num, Lib.hid (by rw [HK.out, HS.out]; simp [h1, Nat.add_assoc])⟩
              case measure => simp [intOf]; omega
          · have hn2 : decide ((i : Int) + (k : Int) < (s.size : Int)) = false := by simp; omega
            go_wp2
            go_ret
            exact ⟨ret_int (by rw [HP2.out, HK.out, takeWhile_end s (i + k) hlt2]; simp), rfl⟩
      · have HP2 : Hid (parameter (s.data.toList.drop i) = 1) := Lib.hid (by rw [HP.out, hsp]; rfl)
        clear HP
        go_enter Tryd.func71, Tryd.ntmps71
        go_wp2_with (first | (go_at_call 60; refine hna.mono ?_; rintro e w' ⟨rfl, rfl⟩) | (go_at_call 44; refine (rspec_calls _ _).mono ?_; rintro e w' ⟨rfl, rfl⟩))
        go_ret
        exact ⟨ret_int (by rw [HP2.out]; rfl), rfl⟩
    · have HP2 : Hid (parameter (s.data.toList.drop i) = n) := Lib.hid (by rw [HP.out, if_pos (by omega)])
      have hn1 : decide ((0 : Int) < (n : Int)) = true := by simp; omega
      have hn0 : (0 : Int) < (n : Int) := by omega
      clear HP
      go_enter Tryd.func71, Tryd.ntmps71
      go_wp2_with (first | (go_at_call 60; refine hna.mono ?_; rintro e w' ⟨rfl, rfl⟩) | (go_at_call 44; refine (rspec_calls _ _).mono ?_; rintro e w' ⟨rfl, rfl⟩))
      go_ret
      exact ⟨ret_int (by rw [HP2.out]), rfl⟩
  · have hie : i = s.size := by omega
    have hd := drop_end s i hlt
    rw [hd] at hna ⊢
    have HD := Lib.hid hd
    clear hd
    have hz : (named [] : Int) = 0 := rfl
    have q1 : decide ((s.size : Int) ≤ (i : Int)) = true := by simp; omega
    have q2 : (s.size : Int) ≤ (i : Int) := by omega
    rw [hz] at hna
    clear hz hie hlt
    go_enter Tryd.func71, Tryd.ntmps71
    go_wp2_with (go_at_call 60; refine hna.mono ?_; rintro e w' ⟨rfl, rfl⟩)
    go_ret
    exact ⟨rfl, rfl⟩
end Go.Proofs.YtdfnkmiabmjolaaDoor
namespace Go.Proofs.YtdfnkmiabmjolaaDoor
open Go.RowKit
set_option linter.unusedVariables false
set_option linter.unusedSimpArgs false

theorem prefix_take (o l : Bytes) (h : o.length ≤ l.length) : o.isPrefixOf l = (l.take o.length == o) := by
  rw [Bool.eq_iff_iff, List.isPrefixOf_iff_prefix, List.prefix_iff_eq_take, beq_iff_eq]
  exact ⟨fun h => h.symm, fun h => h.symm⟩
theorem prefix_long (o l : Bytes) (h : ¬ o.length ≤ l.length) : o.isPrefixOf l = false := by
  cases h1 : o.isPrefixOf l with
  | false => rfl
  | true => exact absurd (List.isPrefixOf_iff_prefix.1 h1).length_le h
theorem ops_size : ∀ k (h : k < ops.length), 0 < ops[k].length ∧ ops[k].length ≤ 2 := by decide
theorem ops_cell (k : Nat) (h : k < 12) : (#[Value.string ⟨#[58, 45]⟩, .string ⟨#[58, 61]⟩, .string ⟨#[58, 63]⟩, .string ⟨#[58, 43]⟩, .string ⟨#[37, 37]⟩, .string ⟨#[35, 35]⟩, .string ⟨#[45]⟩, .string ⟨#[61]⟩, .string ⟨#[63]⟩, .string ⟨#[43]⟩, .string ⟨#[37]⟩, .string ⟨#[35]⟩])[k]? = some (.string (bstr (ops[k]'h))) := by
  have : k = 0 ∨ k = 1 ∨ k = 2 ∨ k = 3 ∨ k = 4 ∨ k = 5 ∨ k = 6 ∨ k = 7 ∨ k = 8 ∨ k = 9 ∨ k = 10 ∨ k = 11 := by omega
  rcases this with rfl | rfl | rfl | rfl | rfl | rfl | rfl | rfl | rfl | rfl | rfl | rfl <;> rfl

set_option maxRecDepth 100000 in
set_option maxHeartbeats 4000000 in
theorem ropat_calls (s : ByteArray) (i : Nat) (w : World) (hs : s.size ≤ 140737488355328) (hi : i ≤ s.size) : Calls Tryd.prog 72 #[.string s, .int .i64 i] w fun e w' => e = .returned (.string (bstr (opM (s.data.toList.drop i)))) ∧ Chg (fun _ => False) w w' := by
  go_enter Tryd.func72, Tryd.ntmps72
  go_wp2
  have hC0 : Chg (fun _ => False) w (w.alloc (.cells #[Value.string ⟨#[58, 45]⟩, .string ⟨#[58, 61]⟩, .string ⟨#[58, 63]⟩, .string ⟨#[58, 43]⟩, .string ⟨#[37, 37]⟩, .string ⟨#[35, 35]⟩, .string ⟨#[45]⟩, .string ⟨#[61]⟩, .string ⟨#[63]⟩, .string ⟨#[43]⟩, .string ⟨#[37]⟩, .string ⟨#[35]⟩] 9)) := (Chg.refl _ w).alloc _
  have hrow := row_new w (.cells #[Value.string ⟨#[58, 45]⟩, .string ⟨#[58, 61]⟩, .string ⟨#[58, 63]⟩, .string ⟨#[58, 43]⟩, .string ⟨#[37, 37]⟩, .string ⟨#[35, 35]⟩, .string ⟨#[45]⟩, .string ⟨#[61]⟩, .string ⟨#[63]⟩, .string ⟨#[43]⟩, .string ⟨#[37]⟩, .string ⟨#[35]⟩] 9)
  generalize w.alloc (.cells #[Value.string ⟨#[58, 45]⟩, .string ⟨#[58, 61]⟩, .string ⟨#[58, 63]⟩, .string ⟨#[58, 43]⟩, .string ⟨#[37, 37]⟩, .string ⟨#[35, 35]⟩, .string ⟨#[45]⟩, .string ⟨#[61]⟩, .string ⟨#[63]⟩, .string ⟨#[43]⟩, .string ⟨#[37]⟩, .string ⟨#[35]⟩] 9) = w1 at *
  have HCL : Hid (∀ k (h : k < 12), w1.cell? ⟨w.heap.size, k, none⟩ = some (.string (bstr (ops[k]'h)))) := Lib.hid (fun k h => by rw [row_cells hrow]; exact ops_cell k h)
  clear hrow
  go_loopg [6] 12 (fun rk iv wr => ∃ k : Nat, k + rk = 12 ∧ iv = .int .i64 k ∧ Hid (opM (s.data.toList.drop i) = opL (ops.drop k) (s.data.toList.drop i)) ∧ Chg (fun _ => False) w1 wr)
  case atStart => exact ⟨0, by omega, rfl, Lib.hid rfl, Chg.refl _ _⟩
  case round =>
    obtain ⟨k, hk, rfl, HO, hC⟩ := hrel
    generalize wr = W at *
    by_cases hlt : k < 12
    · have g1 := hC.cell (HCL.out k hlt) (fun e => e)
      have HOC : Hid (ops.drop k = ops[k]'hlt :: ops.drop (k + 1)) := Lib.hid (List.drop_eq_getElem_cons hlt)
      have hos := ops_size k hlt
      have hpt := prefix_take (ops[k]'hlt) (s.data.toList.drop i)
      have hpl := prefix_long (ops[k]'hlt) (s.data.toList.drop i)
      rw [drop_len] at hpt hpl
      generalize ops[k]'hlt = o at *
      have hbs := bstr_size o
      have HBO := Lib.hid hbs
      have r0 : IntKind.i64.wrap ((k : Int) + 1) = (k : Int) + 1 := IntWalk.i64_in _ (by omega)
      have r1 : IntKind.i64.wrap ((i : Int) + ((bstr o).size : Int)) = (i : Int) + ((bstr o).size : Int) := IntWalk.i64_in _ (by omega)
      by_cases hle : o.length ≤ s.size - i
      · have r2 : (i : Int) + ((bstr o).size : Int) ≤ (s.size : Int) := by omega
        have r3 : (0 : Int) ≤ (i : Int) := by omega
        have r4 : (i : Int) ≤ (i : Int) + ((bstr o).size : Int) := by omega
        have r5 : ((i : Int) + ((bstr o).size : Int)).toNat = i + (bstr o).size := by omega
        have hst : ((s.extract i (i + (bstr o).size)).toList == (bstr o).toList) = o.isPrefixOf (s.data.toList.drop i) := by
          rw [hpt hle, ByteArray.toList_eq, ByteArray.toList_eq, extract_bstr, bstr_toList, bstr_toList, HBO.out, show i + o.length - i = o.length by omega]
        clear hpt hpl hbs
        have HOL : Hid (opL (o :: ops.drop (k + 1)) (s.data.toList.drop i) = if o.isPrefixOf (s.data.toList.drop i) then o else opL (ops.drop (k + 1)) (s.data.toList.drop i)) := Lib.hid (by rw [opL])
        generalize o.isPrefixOf (s.data.toList.drop i) = pb at *
        cases pb
        · generalize bstr o = bo at *
          go_wp2
          go_quiet (fail)
          go_wp2
          go_roundg (12 - (k + 1))
          case measure => omega
          case rel => exact ⟨k + 1, by omega, rfl, Lib.hid (by rw [HO.out, HOC.out, HOL.out]; rfl), hC.drewN _⟩
        · have HR : Hid (bstr o = bstr (opM (s.data.toList.drop i))) := Lib.hid (by rw [HO.out, HOC.out, HOL.out]; rfl)
          generalize bstr o = bo at *
          go_wp2
          go_quiet (fail)
          go_wp2
          go_ret
          exact ⟨by rw [← HR.out]; rfl, hC0.trans (hC.drewN _) (fun _ h _ => h)⟩
      · have r2 : decide ((i : Int) + ((bstr o).size : Int) ≤ (s.size : Int)) = false := by simp; omega
        have r3 : ¬ ((i : Int) + ((bstr o).size : Int) ≤ (s.size : Int)) := by omega
        have HOL : Hid (opL (o :: ops.drop (k + 1)) (s.data.toList.drop i) = opL (ops.drop (k + 1)) (s.data.toList.drop i)) := Lib.hid (by rw [opL, hpl hle]; rfl)
        clear hpt hpl hbs
        generalize bstr o = bo at *
        go_wp2
        go_quiet (fail)
        go_wp2
        go_roundg (12 - (k + 1))
        case measure => omega
        case rel => exact ⟨k + 1, by omega, rfl, Lib.hid (by rw [HO.out, HOC.out, HOL.out]), hC.drewN _⟩
    · have hk12 : k = 12 := by omega
      subst hk12
      go_wp2
      go_ret
      exact ⟨by rw [HO.out]; rfl, hC0.trans hC (fun _ h _ => h)⟩

/-- What a reading function hands back: the parts, the place behind them; or a fault. -/
def ReadPost (w : World) (s : ByteArray) (R : Rs (List Part)) (e : Ending) (w' : World) : Prop :=
  Chg (fun _ => False) w w' ∧ match R with
  | .ok l r => ∃ (A : Option Addr) (c j : Nat), j ≤ s.size ∧ r = s.data.toList.drop j ∧ e = .returned (.agg #[.slice A l.length c, .int .i64 j, .int .i64 0]) ∧ Rep w' (fun k => w.heap.size ≤ k) (.sl 32 5 (Part.ds l)) [.slice A l.length c]
  | .err _ _ => ∃ at_ e' : Int, e' ≠ 0 ∧ e = .returned (.agg #[.slice none 0 0, .int .i64 at_, .int .i64 e'])
theorem cell_alloc_old (V : World) (o : Obj) (X j : Nat) (h : X < V.heap.size) : (V.alloc o).cell? ⟨X, j, none⟩ = V.cell? ⟨X, j, none⟩ := World.cell?_of_block (Go.heap_alloc_old V o h)
theorem read_end {w V : World} {l : List Part} {A : Option Addr} {n c j : Nat} {s : ByteArray} {r : Bytes} {R : Rs (List Part)} {ji : Int} (hR : R = .ok l r) (hC : Chg (fun _ => False) w V)
    (hr : Rep V (fun k => w.heap.size ≤ k) (.sl 32 5 (Part.ds l)) [.slice A n c]) (hj : j ≤ s.size) (hrj : r = s.data.toList.drop j) (hn : n = l.length) (hji : ji = j) :
    ReadPost w s R (.returned (.agg #[.slice A n c, .int .i64 ji, .int .i64 0])) V := by
  subst hR hn hji
  exact ⟨hC, A, c, j, hj, hrj, rfl, hr⟩
/-- One part of one text, laid in the last block. -/
theorem one_text {w V : World} {k : Int} {q : Bool} {x : ByteArray} {t : Bytes} (hx : x = bstr t) (hw : w.heap.size ≤ V.heap.size) :
    Rep (V.alloc (.cells #[.int .i64 k, .bool q, .string x, .string ⟨#[]⟩, .slice none 0 0] 32)) (fun j => w.heap.size ≤ j) (.sl 32 5 (Part.ds [.mk k q t [] []])) [.slice (some ⟨V.heap.size, 0, none⟩) 1 1] :=
  (one_row (S := fun _ => False) (part_nil _ _ k q _ _ hx) (sz := 5) rfl).mono (fun j hj _ => hj.elim False.elim (fun e => by omega))
def oneR : Rs Part → Rs (List Part)
  | .ok p r => .ok [p] r
  | .err a e => .err a e
def arithR (x : Rs Bytes) : Rs Part := match x with | .ok t r' => .ok (.mk 4 false t [] []) r' | .err a e => .err a e
set_option maxRecDepth 100000 in
set_option maxHeartbeats 8000000 in
theorem rarith_calls (s : ByteArray) (i F : Nat) (w : World) (hs : s.size ≤ 8192) (hi : i + 3 ≤ s.size) : Calls Tryd.prog 63 #[.string s, .int .i64 i] w (ReadPost w s (oneR (arithR (arithF F 0 [] (s.data.toList.drop (i + 3)))))) := by
  generalize hR : arithF F 0 [] (s.data.toList.drop (i + 3)) = R
  have HR0 := Lib.hid hR
  clear hR
  go_enter Tryd.func63, Tryd.ntmps63
  go_wp2
  have hC0 : Chg (fun _ => False) w (w.alloc (.cells #[.slice none 0 0, .int .i64 0, .int .i64 0] 37)) := (Chg.refl _ w).alloc _
  have hrow := row_new w (.cells #[.slice none 0 0, .int .i64 0, .int .i64 0] 37)
  generalize w.alloc (.cells #[.slice none 0 0, .int .i64 0, .int .i64 0] 37) = W0 at *
  go_loop [5, 6] (fun dv kv => ∃ k d : Nat, i + 3 ≤ k ∧ k ≤ s.size ∧ kv = .int .i64 k ∧ dv = .int .i64 d ∧ d ≤ k ∧ Hid (R = arithF F d ((s.data.toList.drop (i + 3)).take (k - (i + 3))) (s.data.toList.drop k))) (fun dv kv => s.size - (intOf kv).toNat)
  case atStart => exact ⟨i + 3, 0, by omega, by omega, by go_num, rfl, by omega, Lib.hid (by rw [← HR0.out]; simp)⟩
  case round =>
    obtain ⟨k, d, hk3, hk, rfl, rfl, hdk, HK⟩ := hrel
    by_cases hlt : k < s.size
    · have HD := Lib.hid (byte_drop s k hlt)
      have HT : Hid ((s.data.toList.drop (i + 3)).take (k - (i + 3)) ++ [s[k]] = (s.data.toList.drop (i + 3)).take (k + 1 - (i + 3))) := Lib.hid (by
        rw [show k + 1 - (i + 3) = k - (i + 3) + 1 by omega, List.take_succ_eq_append_getElem (by rw [drop_len]; omega)]
        congr 2
        rw [List.getElem_drop]
        simp only [show i + 3 + (k - (i + 3)) = k by omega]
        rfl)
      have hn1 : (0 : Int) ≤ (k : Int) := by omega
      have hn2 : (k : Int) < (s.size : Int) := by omega
      have hq40 : ((s[k].toNat : Int) == 40) = (s[k] == 40) := byte_eqn s[k] 40 (by decide)
      have hq41 : ((s[k].toNat : Int) != 41) = !(s[k] == 41) := congrArg Bool.not (byte_eqn s[k] 41 (by decide))
      have r1 : IntKind.i64.wrap ((k : Int) + 1) = (k : Int) + 1 := IntWalk.i64_in _ (by omega)
      have r2 : IntKind.i64.wrap ((d : Int) + 1) = (d : Int) + 1 := IntWalk.i64_in _ (by omega)
      have r3 : IntKind.i64.wrap ((d : Int) - 1) = (d : Int) - 1 := IntWalk.i64_in _ (by omega)
      have HAC := Lib.hid (fun acc => arith_cons F d acc s[k] (s.data.toList.drop (k + 1)))
      have hsc := fun w => rstop_calls s[k] w
      generalize arithStop.contains s[k] = st at *
      cases st
      case true =>
        have HR : Hid (R = .err ((s.data.toList.drop (k + 1)).length + 1) 61) := Lib.hid (by rw [HK.out, HD.out, HAC.out, if_pos rfl])
        go_wp2_with (go_at_call 44; refine (hsc _).mono ?_; rintro e w' ⟨rfl, rfl⟩)
        refine (rfault_calls _ _ _).mono ?_
        rintro e w1 ⟨rfl, hC1⟩
        have kB := row_chg hrow hC1 (fun e => e)
        have kcl := row_cells kB
        have kfr := row_free kB
        have hCf : Chg (fun _ => False) w w1 := hC0.trans hC1 (fun _ h _ => h)
        clear kB hC1
        go_wp2
        refine bodyPost_ret (v := .agg #[.slice none 0 0, .int .i64 (k), .int .i64 61]) (by simp [results, Tryd.results63, go_sem, kcl]) rfl ?_
        refine ⟨((hCf.setCell (fun h => absurd h (by simp)) _).setCell (fun h => absurd h (by simp)) _).setCell (fun h => absurd h (by simp)) _, ?_⟩
        rw [HR.out, (rfl : oneR (arithR (.err ((s.data.toList.drop (k + 1)).length + 1) 61)) = _)]
        exact ⟨_, _, by decide, rfl⟩
      case false =>
        cases h40 : s[k] == 40
        case true =>
          have h41 : (s[k] == 41) = false := by
            rw [beq_iff_eq] at h40
            rw [h40]; rfl
          rw [h40] at hq40
          rw [h41] at hq41
          go_wp2_with (go_at_call 44; refine (hsc _).mono ?_; rintro e w' ⟨rfl, rfl⟩)
          go_round
          case rel => exact ⟨k + 1, d + 1, by omega, by omega, by go_num, by go_num, by omega, Lib.hid (by rw [HK.out, HD.out, HAC.out, if_neg (by decide), if_pos h40, HT.out])⟩
          case measure => simp [intOf]; omega
        case false =>
          rw [h40] at hq40
          cases h41 : s[k] == 41
          case false =>
            rw [h41] at hq41
            go_wp2_with (go_at_call 44; refine (hsc _).mono ?_; rintro e w' ⟨rfl, rfl⟩)
            go_round
            case rel => exact ⟨k + 1, d, by omega, by omega, by go_num, by go_num, by omega, Lib.hid (by rw [HK.out, HD.out, HAC.out, if_neg (by decide), if_neg (by rw [h40]; decide), if_neg (by rw [h41]; simp), if_neg (by rw [h41]; decide), HT.out])⟩
            case measure => simp [intOf]; omega
          case true =>
            rw [h41] at hq41
            by_cases hd0 : d = 0
            · subst hd0
              have HEX := Lib.hid (extract_bstr s (i + 3) k)
              by_cases hl1 : k + 1 < s.size
              · have HD1 := Lib.hid (byte_drop s (k + 1) hl1)
                have m1 : (0 : Int) ≤ (k : Int) + 1 := by omega
                have m2 : (k : Int) + 1 < (s.size : Int) := by omega
                have m3 : ((k : Int) + 1).toNat = k + 1 := by omega
                have hp41 : ((s[k + 1].toNat : Int) != 41) = !(s[k + 1] == 41) := congrArg Bool.not (byte_eqn s[k + 1] 41 (by decide))
                cases h1 : s[k + 1] == 41
                case false =>
                  rw [h1] at hp41
                  have HR : Hid (R = .err ((s.data.toList.drop (k + 1)).length + 1) 61) := Lib.hid (by
                    rw [HK.out, HD.out, HAC.out, if_neg (by decide), if_neg (by rw [h40]; decide), if_neg (by rw [h41]; decide), if_pos h41, HD1.out]
                    split
                    · rename_i r' e
                      simp only [List.cons.injEq] at e
                      rw [e.1] at h1
                      exact absurd h1 (by decide)
                    · rfl)
                  go_wp2_with (go_at_call 44; refine (hsc _).mono ?_; rintro e w' ⟨rfl, rfl⟩)
                  refine (rfault_calls _ _ _).mono ?_
                  rintro e w1 ⟨rfl, hC1⟩
                  have kB := row_chg hrow hC1 (fun e => e)
                  have kcl := row_cells kB
                  have kfr := row_free kB
                  have hCf : Chg (fun _ => False) w w1 := hC0.trans hC1 (fun _ h _ => h)
                  clear kB hC1
                  go_wp2
                  refine bodyPost_ret (v := .agg #[.slice none 0 0, .int .i64 (k), .int .i64 61]) (by simp [results, Tryd.results63, go_sem, kcl]) rfl ?_
                  refine ⟨((hCf.setCell (fun h => absurd h (by simp)) _).setCell (fun h => absurd h (by simp)) _).setCell (fun h => absurd h (by simp)) _, ?_⟩
                  rw [HR.out, (rfl : oneR (arithR (.err ((s.data.toList.drop (k + 1)).length + 1) 61)) = _)]
                  exact ⟨_, _, by decide, rfl⟩
                case true =>
                  rw [h1] at hp41
                  have HR : Hid (R = .ok ((s.data.toList.drop (i + 3)).take (k - (i + 3))) (s.data.toList.drop (k + 2))) := Lib.hid (by
                    rw [beq_iff_eq] at h1
                    rw [HK.out, HD.out, HAC.out, if_neg (by decide), if_neg (by rw [h40]; decide), if_neg (by rw [h41]; decide), if_pos h41, HD1.out, h1]
                    rfl)
                  have n1 : IntKind.i64.wrap ((i : Int) + 3) = (i : Int) + 3 := IntWalk.i64_in _ (by omega)
                  have n2 : IntKind.i64.wrap ((k : Int) + 2) = (k : Int) + 2 := IntWalk.i64_in _ (by omega)
                  have n3 : (0 : Int) ≤ (i : Int) + 3 := by omega
                  have n4 : (i : Int) + 3 ≤ (k : Int) := by omega
                  have n5 : (k : Int) ≤ (s.size : Int) := by omega
                  have n6 : ((i : Int) + 3).toNat = i + 3 := by omega
                  have kcl := row_cells hrow
                  have kfr := row_free hrow
                  have hlw := row_lt hrow
                  go_wp2_with (go_at_call 44; refine (hsc _).mono ?_; rintro e w' ⟨rfl, rfl⟩)
                  refine bodyPost_ret (v := .agg #[.slice (some ⟨W0.heap.size, 0, none⟩) 1 1, .int .i64 ((k : Int) + 2), .int .i64 0]) (by simp [results, Tryd.results63, go_sem, kcl, cell_alloc_old, hlw]) rfl ?_
                  refine read_end (j := k + 2) (by rw [HR.out]; rfl) ((((hC0.setCell (fun h => absurd h (by simp)) _).setCell (fun h => absurd h (by simp)) _).setCell (fun h => absurd h (by simp)) _).alloc _) ?_ (by omega) rfl rfl (by omega)
                  have := one_text (w := w) (V := (((W0.setCell ⟨w.heap.size, 0, none⟩ (.slice (some ⟨W0.heap.size, 0, none⟩) 1 1)).setCell ⟨w.heap.size, 1, none⟩ (.int .i64 ((k : Int) + 2))).setCell ⟨w.heap.size, 2, none⟩ (.int .i64 0))) (k := 4) (q := false) HEX.out (by simp; omega)
                  simpa using this
              · have hl2 : decide ((s.size : Int) ≤ (k : Int) + 1) = true := by simp; omega
                have hl3 : (s.size : Int) ≤ (k : Int) + 1 := by omega
                have HR : Hid (R = .err ((s.data.toList.drop (k + 1)).length + 1) 61) := Lib.hid (by rw [HK.out, HD.out, HAC.out, if_neg (by decide), if_neg (by rw [h40]; decide), if_neg (by rw [h41]; decide), if_pos h41, drop_end s (k + 1) hl1])
                go_wp2_with (go_at_call 44; refine (hsc _).mono ?_; rintro e w' ⟨rfl, rfl⟩)
                refine (rfault_calls _ _ _).mono ?_
                rintro e w1 ⟨rfl, hC1⟩
                have kB := row_chg hrow hC1 (fun e => e)
                have kcl := row_cells kB
                have kfr := row_free kB
                have hCf : Chg (fun _ => False) w w1 := hC0.trans hC1 (fun _ h _ => h)
                clear kB hC1
                go_wp2
                refine bodyPost_ret (v := .agg #[.slice none 0 0, .int .i64 (k), .int .i64 61]) (by simp [results, Tryd.results63, go_sem, kcl]) rfl ?_
                refine ⟨((hCf.setCell (fun h => absurd h (by simp)) _).setCell (fun h => absurd h (by simp)) _).setCell (fun h => absurd h (by simp)) _, ?_⟩
                rw [HR.out, (rfl : oneR (arithR (.err ((s.data.toList.drop (k + 1)).length + 1) 61)) = _)]
                exact ⟨_, _, by decide, rfl⟩
            · have hd1 : (0 : Int) ≤ (d : Int) - 1 := by omega
              have hd2 : decide ((0 : Int) ≤ (d : Int) - 1) = true := by simp; omega
              have hd3 : decide ((d : Int) - 1 ≥ 0) = true := by simp; omega
              go_wp2_with (go_at_call 44; refine (hsc _).mono ?_; rintro e w' ⟨rfl, rfl⟩)
              go_round
              case rel => exact ⟨k + 1, d - 1, by omega, by omega, by go_num, by go_num, by omega, Lib.hid (by rw [HK.out, HD.out, HAC.out, if_neg (by decide), if_neg (by rw [h40]; decide), if_pos (by rw [h41]; simp; omega), HT.out])⟩
              case measure => simp [intOf]; omega
    · have HR : Hid (R = .err F 60) := Lib.hid (by rw [HK.out, drop_end s k hlt, arithF])
      go_wp2_with fail
      refine (rfault_calls _ _ _).mono ?_
      rintro e w1 ⟨rfl, hC1⟩
      have kB := row_chg hrow hC1 (fun e => e)
      have kcl := row_cells kB
      have kfr := row_free kB
      have hCf : Chg (fun _ => False) w w1 := hC0.trans hC1 (fun _ h _ => h)
      clear kB hC1
      go_wp2
      refine bodyPost_ret (v := .agg #[.slice none 0 0, .int .i64 (i), .int .i64 60]) (by simp [results, Tryd.results63, go_sem, kcl]) rfl ?_
      refine ⟨((hCf.setCell (fun h => absurd h (by simp)) _).setCell (fun h => absurd h (by simp)) _).setCell (fun h => absurd h (by simp)) _, ?_⟩
      rw [HR.out, (rfl : oneR (arithR (.err F 60)) = _)]
      exact ⟨_, _, by decide, rfl⟩
end Go.Proofs.YtdfnkmiabmjolaaDoor
namespace Go.Proofs.YtdfnkmiabmjolaaDoor
open Go.RowKit
set_option linter.unusedVariables false
set_option linter.unusedSimpArgs false

def BracesSaid (n : Nat) : Prop := ∀ (w : World) (s : ByteArray) (i d : Nat), i + 2 ≤ s.size → s.size ≤ 8192 → d ≤ 16 → 4 * (s.size - i) ≤ n →
  Calls Tryd.prog 62 #[.string s, .int .i64 i, .int .i64 ((d : Int) + 1)] w (ReadPost w s (oneR (paramR n d (s.data.toList.drop (i + 2)))))
def RDollarSaid (n : Nat) : Prop := ∀ (w : World) (s : ByteArray) (i d : Nat), i < s.size → s.size ≤ 8192 → d ≤ 16 → 4 * (s.size - i) + 1 ≤ n →
  Calls Tryd.prog 45 #[.string s, .int .i64 i, .int .i64 d] w (ReadPost w s (oneR (dollarR n d (s.data.toList.drop (i + 1)))))

section
variable (pm : Bytes → Rs Part) (c : UInt8) (r : Bytes) (hn : named (c :: r) = 0)
include hn
theorem dG_char (hc : (digit c || special c) = true) : dollarG pm false (c :: r) = .ok (.mk 2 false [c] [] []) r := by
  rw [dollarG.eq_def, if_neg (by omega), if_neg (by omega)]
  simp only [hc, if_true]
theorem dG_brace (hc : (digit c || special c) = false) (h1 : (c == 123) = true) : dollarG pm false (c :: r) = pm r := by
  rw [dollarG.eq_def, if_neg (by omega), if_neg (by omega)]
  simp only [hc, h1, if_true, Bool.false_eq_true, if_false]
theorem dG_arith (hc : (digit c || special c) = false) (h1 : (c == 123) = false) (h2 : (c == 40) = true) (h3 : (r.head? == some 40) = true) : dollarG pm false (c :: r) = arithR (arithF (r.length + 2) 0 [] (r.drop 1)) := by
  rw [dollarG.eq_def, if_neg (by omega), if_neg (by omega)]
  simp only [hc, h1, h2, h3, if_true, Bool.false_eq_true, if_false]
  rfl
theorem dG_none (hc : (digit c || special c) = false) (h1 : (c == 123) = false) (h2 : (c == 40) = true) (h3 : (r.head? == some 40) = false) (h4 : inside r = none) : dollarG pm false (c :: r) = .err (r.length + 2) 60 := by
  rw [dollarG.eq_def, if_neg (by omega), if_neg (by omega)]
  simp only [hc, h1, h2, h3, h4, if_true, Bool.false_eq_true, if_false]
theorem dG_some (hc : (digit c || special c) = false) (h1 : (c == 123) = false) (h2 : (c == 40) = true) (h3 : (r.head? == some 40) = false) (k : Nat) (h4 : inside r = some k) : dollarG pm false (c :: r) = .ok (.mk 3 false (r.take k) [] []) (r.drop (k + 1)) := by
  rw [dollarG.eq_def, if_neg (by omega), if_neg (by omega)]
  simp only [hc, h1, h2, h3, h4, if_true, Bool.false_eq_true, if_false]
theorem dG_else (hc : (digit c || special c) = false) (h1 : (c == 123) = false) (h2 : (c == 40) = false) : dollarG pm false (c :: r) = .ok (lit [36] false) (c :: r) := by
  rw [dollarG.eq_def, if_neg (by omega), if_neg (by omega)]
  simp only [hc, h1, h2, Bool.false_eq_true, if_false]
end
theorem dG_end (pm : Bytes → Rs Part) : dollarG pm false [] = .ok (lit [36] false) [] := by
  rw [dollarG.eq_def]; rfl
set_option maxRecDepth 100000 in
set_option maxHeartbeats 40000000 in
theorem rdollar_step (n : Nat) (IH : BracesSaid n) : RDollarSaid (n + 1) := by
  intro w s i d hi hs hd hf
  have hE : dollarR (n + 1) d (s.data.toList.drop (i + 1)) = dollarG (paramR n d) false (s.data.toList.drop (i + 1)) := by rw [dollarR]
  generalize dollarR (n + 1) d (s.data.toList.drop (i + 1)) = R at *
  have hna : ∀ w, Calls Tryd.prog 60 #[.string s, .int .i64 ((i : Int) + 1)] w fun e w' => e = .returned (.int .i64 (named (s.data.toList.drop (i + 1)))) ∧ w = w' := fun w => rnameat2_calls s (i + 1) w (by omega) (by omega)
  have hnl := named_le (s.data.toList.drop (i + 1))
  rw [drop_len] at hnl
  have HNN : Hid (named (s.data.toList.drop (i + 1)) = named (s.data.toList.drop (i + 1))) := Lib.hid rfl
  have r1 : IntKind.i64.wrap ((i : Int) + 1) = (i : Int) + 1 := IntWalk.i64_in _ (by omega)
  have r2 : IntKind.i64.wrap ((i : Int) + 2) = (i : Int) + 2 := IntWalk.i64_in _ (by omega)
  have r3 : IntKind.i64.wrap ((i : Int) + 3) = (i : Int) + 3 := IntWalk.i64_in _ (by omega)
  have rd : IntKind.i64.wrap ((d : Int) + 1) = (d : Int) + 1 := IntWalk.i64_in _ (by omega)
  have t1 : ((i : Int) + 1).toNat = i + 1 := by omega
  have t2 : ((i : Int) + 2).toNat = i + 2 := by omega
  have p1 : (0 : Int) ≤ (i : Int) + 1 := by omega
  have p2 : (0 : Int) ≤ (i : Int) + 2 := by omega
  have p3 : (i : Int) + 1 ≤ (i : Int) + 2 := by omega
  have HE := Lib.hid hE
  clear hE
  go_enter Tryd.func45, Tryd.ntmps45
  go_wp2_with fail
  have hC0 : Chg (fun _ => False) w (w.alloc (.cells #[.slice none 0 0, .int .i64 0, .int .i64 0] 37)) := (Chg.refl _ w).alloc _
  have hrow := row_new w (.cells #[.slice none 0 0, .int .i64 0, .int .i64 0] 37)
  generalize w.alloc (.cells #[.slice none 0 0, .int .i64 0, .int .i64 0] 37) = W0 at *
  have kcl := row_cells hrow
  have kfr := row_free hrow
  have hlw := row_lt hrow
  refine (hna _).mono ?_
  rintro e w' ⟨rfl, rfl⟩
  by_cases hn64 : 64 < named (s.data.toList.drop (i + 1))
  · have HR : Hid (R = .err (s.data.toList.drop (i + 1)).length 61) := Lib.hid (by rw [HE.out, dollarG.eq_def, if_pos hn64])
    have q1 : decide ((64 : Int) < (named (s.data.toList.drop (i + 1)) : Int)) = true := by simp; omega
    generalize named (s.data.toList.drop (i + 1)) = nn at *
    go_wp2_with fail
    refine (rfault_calls _ _ _).mono ?_
    rintro e w1 ⟨rfl, hC1⟩
    have kB := row_chg hrow hC1 (fun e => e)
    have kcl1 := row_cells kB
    have kfr1 := row_free kB
    have hCf : Chg (fun _ => False) w w1 := hC0.trans hC1 (fun _ h _ => h)
    clear kB hC1
    go_wp2
    refine bodyPost_ret (v := .agg #[.slice none 0 0, .int .i64 ((i : Int) + 1), .int .i64 (61)]) (by simp [results, Tryd.results45, go_sem, kcl1]) rfl ?_
    refine ⟨((hCf.setCell (fun h => absurd h (by simp)) _).setCell (fun h => absurd h (by simp)) _).setCell (fun h => absurd h (by simp)) _, ?_⟩
    rw [HR.out]
    exact ⟨_, _, by decide, rfl⟩
  · by_cases hn0 : 0 < named (s.data.toList.drop (i + 1))
    · have HR : Hid (R = .ok (.mk 2 false ((s.data.toList.drop (i + 1)).take (named (s.data.toList.drop (i + 1)))) [] []) (s.data.toList.drop (i + 1 + named (s.data.toList.drop (i + 1))))) := Lib.hid (by rw [HE.out, dollarG.eq_def, if_neg hn64, if_pos hn0, List.drop_drop])
      generalize named (s.data.toList.drop (i + 1)) = nn at *
      have q1 : decide ((64 : Int) < (nn : Int)) = false := by simp; omega
      have q2 : decide ((0 : Int) < (nn : Int)) = true := by simp; omega
      have r4 : IntKind.i64.wrap ((i : Int) + 1 + (nn : Int)) = (i : Int) + 1 + (nn : Int) := IntWalk.i64_in _ (by omega)
      have t4 : ((i : Int) + 1 + (nn : Int)).toNat = i + 1 + nn := by omega
      have p4 : (i : Int) + 1 ≤ (i : Int) + 1 + (nn : Int) := by omega
      have p5 : (i : Int) + 1 + (nn : Int) ≤ (s.size : Int) := by omega
      have r5 : IntKind.i64.wrap ((i : Int) + ((nn : Int) + 1)) = (i : Int) + ((nn : Int) + 1) := IntWalk.i64_in _ (by omega)
      have HX : Hid (s.extract (i + 1) (i + 1 + nn) = bstr ((s.data.toList.drop (i + 1)).take nn)) := Lib.hid (by rw [extract_bstr, show i + 1 + nn - (i + 1) = nn by omega])
      have HH := Lib.hid (And.intro hn64 (And.intro hn0 (And.intro hnl (And.intro hf hs))))
      clear hnl hf hs hd r2 r3 rd t2 p2 p3 r5 hi
      go_wp2_with fail
      have hnl := HH.out.2.2.1
      refine bodyPost_ret (v := .agg #[.slice (some ⟨W0.heap.size, 0, none⟩) 1 1, .int .i64 ((i : Int) + 1 + (nn : Int)), .int .i64 0]) (by simp [results, Tryd.results45, go_sem, kcl, cell_alloc_old, hlw]) rfl ?_
      refine read_end (j := i + 1 + nn) (by rw [HR.out]; rfl) ((((hC0.setCell (fun h => absurd h (by simp)) _).setCell (fun h => absurd h (by simp)) _).setCell (fun h => absurd h (by simp)) _).alloc _) ?_ (by omega) rfl rfl (by omega)
      have := one_text (w := w) (V := (((W0.setCell ⟨w.heap.size, 0, none⟩ (.slice (some ⟨W0.heap.size, 0, none⟩) 1 1)).setCell ⟨w.heap.size, 1, none⟩ (.int .i64 ((i : Int) + 1 + (nn : Int)))).setCell ⟨w.heap.size, 2, none⟩ (.int .i64 0))) (k := 2) (q := false) HX.out (by simp; omega)
      simpa [lit] using this
    · have HZ : Hid (named (s.data.toList.drop (i + 1)) = 0) := Lib.hid (by omega)
      rw [HZ.out]
      clear hn0 hn64 hnl hna HNN
      have HH := Lib.hid (And.intro hf (And.intro hs hd))
      by_cases ha : i + 1 < s.size
      · have hc0 : s.data.toList.drop (i + 1) = s[i + 1] :: s.data.toList.drop (i + 2) := byte_drop s (i + 1) ha
        have HX1 := Lib.hid (extract_one s (i + 1) ha)
        have hp123 : ((s[i + 1].toNat : Int) == 123) = (s[i + 1] == 123) := byte_eqn s[i + 1] 123 (by decide)
        have hp40 : ((s[i + 1].toNat : Int) == 40) = (s[i + 1] == 40) := byte_eqn s[i + 1] 40 (by decide)
        have hdg : digit s[i + 1] = digitB s[i + 1].toNat := rfl
        have hsc := fun w => rspec_calls s[i + 1] w
        have HC0 := Lib.hid hc0
        clear hc0
        have HZ1 : Hid (named (s[i + 1] :: s.data.toList.drop (i + 2)) = 0) := Lib.hid (by rw [← HC0.out]; exact HZ.out)
        have q1 : (i : Int) + 1 < (s.size : Int) := by omega
        cases hd1 : digitB s[i + 1].toNat
        case true =>
          have HR : Hid (R = .ok (.mk 2 false [s[i + 1]] [] []) (s.data.toList.drop (i + 2))) := Lib.hid (by rw [HE.out, HC0.out]; exact dG_char _ _ _ HZ1.out (by rw [hdg, hd1]; rfl))
          have q2 : (i : Int) + 2 ≤ (s.size : Int) := by omega
          clear hf hs hd rd r3
          go_wp2_with (first | (go_at_call 61; refine (rdigit_calls _ _).mono ?_; rintro e w' ⟨rfl, rfl⟩) | (go_at_call 44; refine (hsc _).mono ?_; rintro e w' ⟨rfl, rfl⟩))
          refine bodyPost_ret (v := .agg #[.slice (some ⟨W0.heap.size, 0, none⟩) 1 1, .int .i64 ((i : Int) + 2), .int .i64 0]) (by simp [results, Tryd.results45, go_sem, kcl, cell_alloc_old, hlw]) rfl ?_
          refine read_end (j := i + 2) (by rw [HR.out]; rfl) ((((hC0.setCell (fun h => absurd h (by simp)) _).setCell (fun h => absurd h (by simp)) _).setCell (fun h => absurd h (by simp)) _).alloc _) ?_ (by omega) rfl rfl (by omega)
          have := one_text (w := w) (V := (((W0.setCell ⟨w.heap.size, 0, none⟩ (.slice (some ⟨W0.heap.size, 0, none⟩) 1 1)).setCell ⟨w.heap.size, 1, none⟩ (.int .i64 ((i : Int) + 2))).setCell ⟨w.heap.size, 2, none⟩ (.int .i64 0))) (k := 2) (q := false) HX1.out (by simp; omega)
          simpa [lit] using this
        case false =>
          cases hsp : special s[i + 1]
          case true =>
            have HR : Hid (R = .ok (.mk 2 false [s[i + 1]] [] []) (s.data.toList.drop (i + 2))) := Lib.hid (by rw [HE.out, HC0.out]; exact dG_char _ _ _ HZ1.out (by rw [hsp]; simp))
            have q2 : (i : Int) + 2 ≤ (s.size : Int) := by omega
            clear hf hs hd rd r3
            rw [hsp] at hsc
            go_wp2_with (first | (go_at_call 61; refine (rdigit_calls _ _).mono ?_; rintro e w' ⟨rfl, rfl⟩) | (go_at_call 44; refine (hsc _).mono ?_; rintro e w' ⟨rfl, rfl⟩))
            refine bodyPost_ret (v := .agg #[.slice (some ⟨W0.heap.size, 0, none⟩) 1 1, .int .i64 ((i : Int) + 2), .int .i64 0]) (by simp [results, Tryd.results45, go_sem, kcl, cell_alloc_old, hlw]) rfl ?_
            refine read_end (j := i + 2) (by rw [HR.out]; rfl) ((((hC0.setCell (fun h => absurd h (by simp)) _).setCell (fun h => absurd h (by simp)) _).setCell (fun h => absurd h (by simp)) _).alloc _) ?_ (by omega) rfl rfl (by omega)
            have := one_text (w := w) (V := (((W0.setCell ⟨w.heap.size, 0, none⟩ (.slice (some ⟨W0.heap.size, 0, none⟩) 1 1)).setCell ⟨w.heap.size, 1, none⟩ (.int .i64 ((i : Int) + 2))).setCell ⟨w.heap.size, 2, none⟩ (.int .i64 0))) (k := 2) (q := false) HX1.out (by simp; omega)
            simpa [lit] using this
          case false =>
            have HDS : Hid ((digit s[i + 1] || special s[i + 1]) = false) := Lib.hid (by rw [hdg, hd1, hsp]; rfl)
            rw [hsp] at hsc
            cases h123 : s[i + 1] == 123
            case true =>
              rw [h123] at hp123
              have HR : Hid (R = paramR n d (s.data.toList.drop (i + 2))) := Lib.hid (by rw [HE.out, HC0.out]; exact dG_brace _ _ _ HZ1.out HDS.out h123)
              have HI := Lib.hid (IH W0 s i d (by omega) hs hd (by omega))
              rw [← HR.out] at HI
              clear hf hs hd r3 r2 t2 p2 p3
              go_wp2_with (first | (go_at_call 61; refine (rdigit_calls _ _).mono ?_; rintro e w' ⟨rfl, rfl⟩) | (go_at_call 44; refine (hsc _).mono ?_; rintro e w' ⟨rfl, rfl⟩))
              refine Calls.mono HI.out ?_
              rintro e w1 ⟨hC1, hm⟩
              cases R with
              | err x y =>
                obtain ⟨a1, e1, he1, rfl⟩ := hm
                have kB := row_chg hrow hC1 (fun e => e)
                have kcl1 := row_cells kB
                have kfr1 := row_free kB
                have hCf : Chg (fun _ => False) w w1 := hC0.trans hC1 (fun _ h _ => h)
                clear kB hC1
                go_wp2
                refine bodyPost_ret (v := .agg #[.slice none 0 0, .int .i64 (a1), .int .i64 (e1)]) (by simp [results, Tryd.results45, go_sem, kcl1]) rfl ?_
                refine ⟨((hCf.setCell (fun h => absurd h (by simp)) _).setCell (fun h => absurd h (by simp)) _).setCell (fun h => absurd h (by simp)) _, ?_⟩
                exact ⟨_, _, he1, rfl⟩
              | ok p rr =>
                obtain ⟨A, c, j, hj, hrr, rfl, hrep⟩ := hm
                have kB := row_chg hrow hC1 (fun e => e)
                have kcl1 := row_cells kB
                have kfr1 := row_free kB
                have hCf : Chg (fun _ => False) w w1 := hC0.trans hC1 (fun _ h _ => h)
                clear kB hC1
                go_wp2
                refine bodyPost_ret (v := .agg #[.slice A 1 c, .int .i64 j, .int .i64 0]) (by simp [results, Tryd.results45, go_sem, kcl1]) rfl ?_
                refine read_end (j := j) rfl (((hCf.setCell (fun h => absurd h (by simp)) _).setCell (fun h => absurd h (by simp)) _).setCell (fun h => absurd h (by simp)) _) ?_ hj hrr rfl rfl
                have h3 : Chg (· = w.heap.size) w1 (((w1.setCell ⟨w.heap.size, 0, none⟩ (.slice A 1 c)).setCell ⟨w.heap.size, 1, none⟩ (.int .i64 j)).setCell ⟨w.heap.size, 2, none⟩ (.int .i64 0)) := (((Chg.refl (· = w.heap.size) w1).setCell (fun _ => rfl) _).setCell (fun _ => rfl) _).setCell (fun _ => rfl) _
                exact (hrep.stay h3 (fun k hk e => by omega)).mono (fun k hk _ => by omega)
            case false =>
              rw [h123] at hp123
              cases h40 : s[i + 1] == 40
              case false =>
                rw [h40] at hp40
                have HR : Hid (R = .ok (lit [36] false) (s.data.toList.drop (i + 1))) := Lib.hid (by rw [HE.out, HC0.out]; exact dG_else _ _ _ HZ1.out HDS.out h123 h40)
                by_cases hb : i + 2 < s.size
                · have q2 : (i : Int) + 2 < (s.size : Int) := by omega
                  clear hf hs hd rd r3
                  go_wp2_with (first | (go_at_call 61; refine (rdigit_calls _ _).mono ?_; rintro e w' ⟨rfl, rfl⟩) | (go_at_call 44; refine (hsc _).mono ?_; rintro e w' ⟨rfl, rfl⟩))
                  refine (rlit_calls _ _ _).mono ?_
                  rintro e w1 ⟨rfl, rfl⟩
                  go_wp2
                  refine bodyPost_ret (v := .agg #[.slice (some ⟨W0.heap.size, 0, none⟩) 1 1, .int .i64 ((i : Int) + 1), .int .i64 0]) (by simp [results, Tryd.results45, go_sem, kcl, cell_alloc_old, hlw]) rfl ?_
                  refine read_end (j := i + 1) (by rw [HR.out]; rfl) ((((hC0.setCell (fun h => absurd h (by simp)) _).setCell (fun h => absurd h (by simp)) _).setCell (fun h => absurd h (by simp)) _).alloc _) ?_ (by omega) rfl rfl (by omega)
                  have := one_text (w := w) (V := (((W0.setCell ⟨w.heap.size, 0, none⟩ (.slice (some ⟨W0.heap.size, 0, none⟩) 1 1)).setCell ⟨w.heap.size, 1, none⟩ (.int .i64 ((i : Int) + 1))).setCell ⟨w.heap.size, 2, none⟩ (.int .i64 0))) (k := 1) (q := false) (rfl : (⟨#[36]⟩ : ByteArray) = bstr [36]) (by simp; omega)
                  simpa [lit] using this
                · have q2 : decide ((i : Int) + 2 < (s.size : Int)) = false := by simp; omega
                  have q3 : (s.size : Int) ≤ (i : Int) + 2 := by omega
                  clear hf hs hd rd r3
                  go_wp2_with (first | (go_at_call 61; refine (rdigit_calls _ _).mono ?_; rintro e w' ⟨rfl, rfl⟩) | (go_at_call 44; refine (hsc _).mono ?_; rintro e w' ⟨rfl, rfl⟩))
                  refine (rlit_calls _ _ _).mono ?_
                  rintro e w1 ⟨rfl, rfl⟩
                  go_wp2
                  refine bodyPost_ret (v := .agg #[.slice (some ⟨W0.heap.size, 0, none⟩) 1 1, .int .i64 ((i : Int) + 1), .int .i64 0]) (by simp [results, Tryd.results45, go_sem, kcl, cell_alloc_old, hlw]) rfl ?_
                  refine read_end (j := i + 1) (by rw [HR.out]; rfl) ((((hC0.setCell (fun h => absurd h (by simp)) _).setCell (fun h => absurd h (by simp)) _).setCell (fun h => absurd h (by simp)) _).alloc _) ?_ (by omega) rfl rfl (by omega)
                  have := one_text (w := w) (V := (((W0.setCell ⟨w.heap.size, 0, none⟩ (.slice (some ⟨W0.heap.size, 0, none⟩) 1 1)).setCell ⟨w.heap.size, 1, none⟩ (.int .i64 ((i : Int) + 1))).setCell ⟨w.heap.size, 2, none⟩ (.int .i64 0))) (k := 1) (q := false) (rfl : (⟨#[36]⟩ : ByteArray) = bstr [36]) (by simp; omega)
                  simpa [lit] using this
              case true =>
                rw [h40] at hp40
                by_cases hb : i + 2 < s.size
                · have q2 : (i : Int) + 2 < (s.size : Int) := by omega
                  have hb40 : ((s[i + 2].toNat : Int) == 40) = (s[i + 2] == 40) := byte_eqn s[i + 2] 40 (by decide)
                  have HB0 := Lib.hid (byte_drop s (i + 2) hb)
                  cases h2 : s[i + 2] == 40
                  case true =>
                    rw [h2] at hb40
                    have HR : Hid (R = arithR (arithF ((s.data.toList.drop (i + 2)).length + 2) 0 [] (s.data.toList.drop (i + 3)))) := Lib.hid (by
                      rw [HE.out, HC0.out, dG_arith _ _ _ HZ1.out HDS.out h123 h40 (by rw [HB0.out]; rw [beq_iff_eq] at h2; rw [h2]; rfl), List.drop_drop])
                    have HI := Lib.hid (rarith_calls s i ((s.data.toList.drop (i + 2)).length + 2) W0 hs (by omega))
                    rw [← HR.out] at HI
                    clear hf hs hd r3
                    go_wp2_with (first | (go_at_call 61; refine (rdigit_calls _ _).mono ?_; rintro e w' ⟨rfl, rfl⟩) | (go_at_call 44; refine (hsc _).mono ?_; rintro e w' ⟨rfl, rfl⟩))
                    refine Calls.mono HI.out ?_
                    rintro e w1 ⟨hC1, hm⟩
                    cases R with
                    | err x y =>
                      obtain ⟨a1, e1, he1, rfl⟩ := hm
                      have kB := row_chg hrow hC1 (fun e => e)
                      have kcl1 := row_cells kB
                      have kfr1 := row_free kB
                      have hCf : Chg (fun _ => False) w w1 := hC0.trans hC1 (fun _ h _ => h)
                      clear kB hC1
                      go_wp2
                      refine bodyPost_ret (v := .agg #[.slice none 0 0, .int .i64 (a1), .int .i64 (e1)]) (by simp [results, Tryd.results45, go_sem, kcl1]) rfl ?_
                      refine ⟨((hCf.setCell (fun h => absurd h (by simp)) _).setCell (fun h => absurd h (by simp)) _).setCell (fun h => absurd h (by simp)) _, ?_⟩
                      exact ⟨_, _, he1, rfl⟩
                    | ok p rr =>
                      obtain ⟨A, c, j, hj, hrr, rfl, hrep⟩ := hm
                      have kB := row_chg hrow hC1 (fun e => e)
                      have kcl1 := row_cells kB
                      have kfr1 := row_free kB
                      have hCf : Chg (fun _ => False) w w1 := hC0.trans hC1 (fun _ h _ => h)
                      clear kB hC1
                      go_wp2
                      refine bodyPost_ret (v := .agg #[.slice A 1 c, .int .i64 j, .int .i64 0]) (by simp [results, Tryd.results45, go_sem, kcl1]) rfl ?_
                      refine read_end (j := j) rfl (((hCf.setCell (fun h => absurd h (by simp)) _).setCell (fun h => absurd h (by simp)) _).setCell (fun h => absurd h (by simp)) _) ?_ hj hrr rfl rfl
                      have h3 : Chg (· = w.heap.size) w1 (((w1.setCell ⟨w.heap.size, 0, none⟩ (.slice A 1 c)).setCell ⟨w.heap.size, 1, none⟩ (.int .i64 j)).setCell ⟨w.heap.size, 2, none⟩ (.int .i64 0)) := (((Chg.refl (· = w.heap.size) w1).setCell (fun _ => rfl) _).setCell (fun _ => rfl) _).setCell (fun _ => rfl) _
                      exact (hrep.stay h3 (fun k hk e => by omega)).mono (fun k hk _ => by omega)
                  case false =>
                    rw [h2] at hb40
                    have HH3 : Hid (((s.data.toList.drop (i + 2)).head? == some 40) = false) := Lib.hid (by rw [HB0.out]; simpa using h2)
                    have HIN : Hid (insideI ((s.extract (i + 2) s.size).size + 1) 0 0 (s.extract (i + 2) s.size).data.toList = (match inside (s.data.toList.drop (i + 2)) with | none => -1 | some k => (k : Int))) := Lib.hid (by
                      rw [Lib.extract_to_end, inside, insideI, extract_size s (i + 2) (by omega), drop_len]
                      cases insideF (s.size - (i + 2) + 1) 0 (s.data.toList.drop (i + 2)) <;> simp)
                    have hri := fun w => rinside_calls (s.extract (i + 2) s.size) w (by rw [extract_size s (i + 2) (by omega)]; omega)
                    rw [HIN.out] at hri
                    cases hins : inside (s.data.toList.drop (i + 2)) with
                    | none =>
                      rw [hins] at hri
                      have HR : Hid (R = .err ((s.data.toList.drop (i + 2)).length + 2) 60) := Lib.hid (by rw [HE.out, HC0.out]; exact dG_none _ _ _ HZ1.out HDS.out h123 h40 HH3.out hins)
                      clear hf hs hd hi
                      go_wp2_with (first | (first | (go_at_call 61; refine (rdigit_calls _ _).mono ?_; rintro e w' ⟨rfl, rfl⟩) | (go_at_call 44; refine (hsc _).mono ?_; rintro e w' ⟨rfl, rfl⟩)) | (go_at_call 64; refine (hri _).mono ?_; rintro e w' ⟨rfl, rfl⟩))
                      refine (rfault_calls _ _ _).mono ?_
                      rintro e w1 ⟨rfl, hC1⟩
                      have kB := row_chg hrow hC1 (fun e => e)
                      have kcl1 := row_cells kB
                      have kfr1 := row_free kB
                      have hCf : Chg (fun _ => False) w w1 := hC0.trans hC1 (fun _ h _ => h)
                      clear kB hC1
                      go_wp2
                      refine bodyPost_ret (v := .agg #[.slice none 0 0, .int .i64 (i), .int .i64 (60)]) (by simp [results, Tryd.results45, go_sem, kcl1]) rfl ?_
                      refine ⟨((hCf.setCell (fun h => absurd h (by simp)) _).setCell (fun h => absurd h (by simp)) _).setCell (fun h => absurd h (by simp)) _, ?_⟩
                      rw [HR.out]
                      exact ⟨_, _, by decide, rfl⟩
                    | some k =>
                      have hkl := insideF_lt _ _ _ _ hins
                      rw [drop_len] at hkl
                      rw [hins] at hri
                      have HR : Hid (R = .ok (.mk 3 false ((s.data.toList.drop (i + 2)).take k) [] []) (s.data.toList.drop (i + 3 + k))) := Lib.hid (by
                        rw [HE.out, HC0.out, dG_some _ _ _ HZ1.out HDS.out h123 h40 HH3.out k hins, List.drop_drop, show i + 2 + (k + 1) = i + 3 + k by omega])
                      have r4 : IntKind.i64.wrap ((i : Int) + 2 + (k : Int)) = (i : Int) + 2 + (k : Int) := IntWalk.i64_in _ (by omega)
                      have r5 : IntKind.i64.wrap ((i : Int) + 3 + (k : Int)) = (i : Int) + 3 + (k : Int) := IntWalk.i64_in _ (by omega)
                      have t4 : ((i : Int) + 2 + (k : Int)).toNat = i + 2 + k := by omega
                      have p4 : (i : Int) + 2 ≤ (i : Int) + 2 + (k : Int) := by omega
                      have p5 : (i : Int) + 2 + (k : Int) ≤ (s.size : Int) := by omega
                      have HX : Hid (s.extract (i + 2) (i + 2 + k) = bstr ((s.data.toList.drop (i + 2)).take k)) := Lib.hid (by rw [extract_bstr, show i + 2 + k - (i + 2) = k by omega])
                      have HKL := Lib.hid hkl
                      clear hf hs hd hi hkl
                      go_wp2_with (first | (first | (go_at_call 61; refine (rdigit_calls _ _).mono ?_; rintro e w' ⟨rfl, rfl⟩) | (go_at_call 44; refine (hsc _).mono ?_; rintro e w' ⟨rfl, rfl⟩)) | (go_at_call 64; refine (hri _).mono ?_; rintro e w' ⟨rfl, rfl⟩))
                      have hkl := HKL.out
                      refine bodyPost_ret (v := .agg #[.slice (some ⟨W0.heap.size, 0, none⟩) 1 1, .int .i64 ((i : Int) + 3 + (k : Int)), .int .i64 0]) (by simp [results, Tryd.results45, go_sem, kcl, cell_alloc_old, hlw]) rfl ?_
                      refine read_end (j := i + 3 + k) (by rw [HR.out]; rfl) ((((hC0.setCell (fun h => absurd h (by simp)) _).setCell (fun h => absurd h (by simp)) _).setCell (fun h => absurd h (by simp)) _).alloc _) ?_ (by omega) rfl rfl (by omega)
                      have := one_text (w := w) (V := (((W0.setCell ⟨w.heap.size, 0, none⟩ (.slice (some ⟨W0.heap.size, 0, none⟩) 1 1)).setCell ⟨w.heap.size, 1, none⟩ (.int .i64 ((i : Int) + 3 + (k : Int)))).setCell ⟨w.heap.size, 2, none⟩ (.int .i64 0))) (k := 3) (q := false) HX.out (by simp; omega)
                      simpa [lit] using this
                · have q2 : decide ((i : Int) + 2 < (s.size : Int)) = false := by simp; omega
                  have q3 : (s.size : Int) ≤ (i : Int) + 2 := by omega
                  have HH3 : Hid (((s.data.toList.drop (i + 2)).head? == some 40) = false) := Lib.hid (by rw [drop_end s (i + 2) hb]; rfl)
                  have HIN : Hid (insideI ((s.extract (i + 2) s.size).size + 1) 0 0 (s.extract (i + 2) s.size).data.toList = (match inside (s.data.toList.drop (i + 2)) with | none => -1 | some k => (k : Int))) := Lib.hid (by
                    rw [Lib.extract_to_end, inside, insideI, extract_size s (i + 2) (by omega), drop_len]
                    cases insideF (s.size - (i + 2) + 1) 0 (s.data.toList.drop (i + 2)) <;> simp)
                  have hri := fun w => rinside_calls (s.extract (i + 2) s.size) w (by rw [extract_size s (i + 2) (by omega)]; omega)
                  rw [HIN.out] at hri
                  cases hins : inside (s.data.toList.drop (i + 2)) with
                  | none =>
                    rw [hins] at hri
                    have HR : Hid (R = .err ((s.data.toList.drop (i + 2)).length + 2) 60) := Lib.hid (by rw [HE.out, HC0.out]; exact dG_none _ _ _ HZ1.out HDS.out h123 h40 HH3.out hins)
                    clear hf hs hd hi
                    go_wp2_with (first | (first | (go_at_call 61; refine (rdigit_calls _ _).mono ?_; rintro e w' ⟨rfl, rfl⟩) | (go_at_call 44; refine (hsc _).mono ?_; rintro e w' ⟨rfl, rfl⟩)) | (go_at_call 64; refine (hri _).mono ?_; rintro e w' ⟨rfl, rfl⟩))
                    refine (rfault_calls _ _ _).mono ?_
                    rintro e w1 ⟨rfl, hC1⟩
                    have kB := row_chg hrow hC1 (fun e => e)
                    have kcl1 := row_cells kB
                    have kfr1 := row_free kB
                    have hCf : Chg (fun _ => False) w w1 := hC0.trans hC1 (fun _ h _ => h)
                    clear kB hC1
                    go_wp2
                    refine bodyPost_ret (v := .agg #[.slice none 0 0, .int .i64 (i), .int .i64 (60)]) (by simp [results, Tryd.results45, go_sem, kcl1]) rfl ?_
                    refine ⟨((hCf.setCell (fun h => absurd h (by simp)) _).setCell (fun h => absurd h (by simp)) _).setCell (fun h => absurd h (by simp)) _, ?_⟩
                    rw [HR.out]
                    exact ⟨_, _, by decide, rfl⟩
                  | some k =>
                    have hkl := insideF_lt _ _ _ _ hins
                    rw [drop_len] at hkl
                    rw [hins] at hri
                    have HR : Hid (R = .ok (.mk 3 false ((s.data.toList.drop (i + 2)).take k) [] []) (s.data.toList.drop (i + 3 + k))) := Lib.hid (by
                      rw [HE.out, HC0.out, dG_some _ _ _ HZ1.out HDS.out h123 h40 HH3.out k hins, List.drop_drop, show i + 2 + (k + 1) = i + 3 + k by omega])
                    have r4 : IntKind.i64.wrap ((i : Int) + 2 + (k : Int)) = (i : Int) + 2 + (k : Int) := IntWalk.i64_in _ (by omega)
                    have r5 : IntKind.i64.wrap ((i : Int) + 3 + (k : Int)) = (i : Int) + 3 + (k : Int) := IntWalk.i64_in _ (by omega)
                    have t4 : ((i : Int) + 2 + (k : Int)).toNat = i + 2 + k := by omega
                    have p4 : (i : Int) + 2 ≤ (i : Int) + 2 + (k : Int) := by omega
                    have p5 : (i : Int) + 2 + (k : Int) ≤ (s.size : Int) := by omega
                    have HX : Hid (s.extract (i + 2) (i + 2 + k) = bstr ((s.data.toList.drop (i + 2)).take k)) := Lib.hid (by rw [extract_bstr, show i + 2 + k - (i + 2) = k by omega])
                    have HKL := Lib.hid hkl
                    clear hf hs hd hi hkl
                    go_wp2_with (first | (first | (go_at_call 61; refine (rdigit_calls _ _).mono ?_; rintro e w' ⟨rfl, rfl⟩) | (go_at_call 44; refine (hsc _).mono ?_; rintro e w' ⟨rfl, rfl⟩)) | (go_at_call 64; refine (hri _).mono ?_; rintro e w' ⟨rfl, rfl⟩))
                    have hkl := HKL.out
                    refine bodyPost_ret (v := .agg #[.slice (some ⟨W0.heap.size, 0, none⟩) 1 1, .int .i64 ((i : Int) + 3 + (k : Int)), .int .i64 0]) (by simp [results, Tryd.results45, go_sem, kcl, cell_alloc_old, hlw]) rfl ?_
                    refine read_end (j := i + 3 + k) (by rw [HR.out]; rfl) ((((hC0.setCell (fun h => absurd h (by simp)) _).setCell (fun h => absurd h (by simp)) _).setCell (fun h => absurd h (by simp)) _).alloc _) ?_ (by omega) rfl rfl (by omega)
                    have := one_text (w := w) (V := (((W0.setCell ⟨w.heap.size, 0, none⟩ (.slice (some ⟨W0.heap.size, 0, none⟩) 1 1)).setCell ⟨w.heap.size, 1, none⟩ (.int .i64 ((i : Int) + 3 + (k : Int)))).setCell ⟨w.heap.size, 2, none⟩ (.int .i64 0))) (k := 3) (q := false) HX.out (by simp; omega)
                    simpa [lit] using this
      · have HR : Hid (R = .ok (lit [36] false) (s.data.toList.drop (i + 1))) := Lib.hid (by rw [HE.out, drop_end s (i + 1) ha]; exact dG_end _)
        have q1 : (s.size : Int) ≤ (i : Int) + 1 := by omega
        have q2 : decide ((i : Int) + 1 < (s.size : Int)) = false := by simp; omega
        have q3 : decide ((i : Int) + 2 < (s.size : Int)) = false := by simp; omega
        clear hf hs hd rd r3
        go_wp2_with fail
        refine (rlit_calls _ _ _).mono ?_
        rintro e w1 ⟨rfl, rfl⟩
        go_wp2
        refine bodyPost_ret (v := .agg #[.slice (some ⟨W0.heap.size, 0, none⟩) 1 1, .int .i64 ((i : Int) + 1), .int .i64 0]) (by simp [results, Tryd.results45, go_sem, kcl, cell_alloc_old, hlw]) rfl ?_
        refine read_end (j := i + 1) (by rw [HR.out]; rfl) ((((hC0.setCell (fun h => absurd h (by simp)) _).setCell (fun h => absurd h (by simp)) _).setCell (fun h => absurd h (by simp)) _).alloc _) ?_ (by omega) rfl rfl (by omega)
        have := one_text (w := w) (V := (((W0.setCell ⟨w.heap.size, 0, none⟩ (.slice (some ⟨W0.heap.size, 0, none⟩) 1 1)).setCell ⟨w.heap.size, 1, none⟩ (.int .i64 ((i : Int) + 1))).setCell ⟨w.heap.size, 2, none⟩ (.int .i64 0))) (k := 1) (q := false) (rfl : (⟨#[36]⟩ : ByteArray) = bstr [36]) (by simp; omega)
        simpa [lit] using this
end Go.Proofs.YtdfnkmiabmjolaaDoor
