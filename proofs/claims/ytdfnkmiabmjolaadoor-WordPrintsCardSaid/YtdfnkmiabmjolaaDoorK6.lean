/- Walks of package word's writing: a part, and parts. Walks of package word's writing: parts, given a part; both. Walks of package word: what a dollar begins: braces, arithmetic, commands. Walks of package word: double quotes. Walks of package word: a parameter in braces. Walks of package word: a parameter in braces, with an operation or none. Walks of package word: a word. Walks of package word: the four that call each other, joined. -/
import Derived.Test.YtdfnkmiabmjolaaDoorK5
import Derived.Deep.DeepMust
import Derived.Deep.RegionHeld3
namespace Go.Proofs.YtdfnkmiabmjolaaDoor
open Go.RowKit
set_option linter.unusedVariables false
set_option linter.unusedSimpArgs false

/-- The library's variable, that says how long a text Index searches by itself. -/
def HM (w : World) : Prop := ∃ m : Int, w.cell? ⟨0, 0, none⟩ = some (.int .i64 m)
theorem HM.stay {B : Nat → Prop} {w w' : World} (h : HM w) (hc : Chg B w w') (hn : ¬ B 0) : HM w' := by
  obtain ⟨m, h⟩ := h
  exact ⟨m, hc.cell h hn⟩
theorem cat_law {P : Program} (x y : ByteArray) (a b c : Bytes) (hx : x = bstr a) (hy : y = bstr b) (hc : c = a ++ b) (hl : a.length + b.length ≤ 1000000) (w : World) : (Op.stringOp .add x y).run P w = .ok (.string (bstr c)) w := by
  rw [run_string_add_sum w x y (by rw [hx, hy, bstr_size, bstr_size]; omega), hx, hy, bstr_append, hc]

theorem replace_calls (t : Bytes) (w : World) (hm : HM w) (ht : t.length ≤ 1000000) :
    Calls Tryd.prog 29 #[.string (bstr t), .string ⟨#[39]⟩, .string ⟨#[39, 92, 39, 39]⟩] w fun e w' => e = .returned (.string (bstr (quoteP t))) ∧ Chg (fun _ => False) w w' := by
  obtain ⟨m, hm⟩ := hm
  have hc : Lib.countB (bstr t) (⟨#[39]⟩ : ByteArray) ≤ t.length := by
    show Lib.count (bstr t).data.toList [39] ≤ _
    rw [bstr_toList, Lib.count_one]
    exact List.count_le_length
  refine (Tryd.strings_ReplaceAll (bstr t) ⟨#[39]⟩ ⟨#[39, 92, 39, 39]⟩ m w (by rw [bstr_size]; omega) hm (by decide) (by
    rw [bstr_size]
    have h4 : (⟨#[39, 92, 39, 39]⟩ : ByteArray).size = 4 := rfl
    rw [h4]
    omega)).mono ?_
  rintro e w' ⟨rfl, hb⟩
  refine ⟨?_, Chg.of_below hb⟩
  have h1 : (⟨#[39]⟩ : ByteArray).data.toList = [39] := rfl
  have h2 : (⟨#[39, 92, 39, 39]⟩ : ByteArray).data.toList = [39, 92, 39, 39] := rfl
  rw [h1, h2, bstr_toList, replaceAll_quote]
  rfl

def TextSaid (n : Nat) : Prop := ∀ (w : World) (S : Nat → Prop) (v : Value) (ps : List Part), Part.wts ps < n → Part.wts ps ≤ 20000 → HM w → Rep w S (.sl 32 5 (Part.ds ps)) [v] →
  Calls Tryd.prog 11 #[v] w fun e w' => e = .returned (.string (bstr (textP ps))) ∧ Chg (fun _ => False) w w'
def OneSaid (n : Nat) : Prop := ∀ (w : World) (S : Nat → Prop) (cs : List Value) (p : Part), p.wt < n → p.wt ≤ 20000 → HM w → Rep w S p.d cs →
  Calls Tryd.prog 16 #[.agg cs.toArray] w fun e w' => e = .returned (.string (bstr (oneP p))) ∧ Chg (fun _ => False) w w'

set_option pp.deepTerms true in
set_option pp.maxSteps 200000 in
set_option maxRecDepth 100000 in
set_option maxHeartbeats 4000000 in
theorem one_step (n : Nat) (IH : TextSaid n) : OneSaid (n + 1) := by
  intro w S cs p hn hb hm h
  obtain ⟨kd, qd, td, od, wd⟩ := p
  obtain ⟨A, c, rfl, hW, hc1, hc2⟩ := part_rep2 h
  have hwl := textP_len wd
  rw [Part.wt] at hn hb
  have e1 : ((bstr od).toList == [108, 101, 110]) = (od == [108, 101, 110]) := by rw [ByteArray.toList_eq, bstr_toList]
  by_cases k1 : kd = 1
  · subst k1
    cases qd with
    | true =>
      have hO : oneP (.mk 1 true td od wd) = [39] ++ quoteP td ++ [39] := by rw [oneP]; rfl
      rw [hO]
      have hq := quoteP_len td
      have c1 := cat_law (P := Tryd.prog) ⟨#[39]⟩ (bstr (quoteP td)) [39] (quoteP td) ([39] ++ quoteP td) rfl rfl rfl (by simp; omega)
      have c2 := cat_law (P := Tryd.prog) (bstr ([39] ++ quoteP td)) ⟨#[39]⟩ ([39] ++ quoteP td) [39] ([39] ++ quoteP td ++ [39]) rfl rfl rfl (by simp; omega)
      have HR := Lib.hid (fun w' (hm : HM w') => replace_calls td w' hm (by omega))
      have hm1 := hm.stay ((Chg.refl (fun _ => False) w).alloc (.cells #[.int .i64 1, .bool true, .string (bstr td), .string (bstr od), .slice A wd.length c] 32)) (fun e => e)
      clear hq hO hW h hwl
      generalize quoteP td = qt at *
      generalize hx1 : bstr ([39] ++ qt) = x1 at *
      generalize hx2 : bstr ([39] ++ qt ++ [39]) = x2 at *
      clear hx1 hx2
      go_enter Tryd.func16, Tryd.ntmps16
      go_wp2_with (go_at_call 29; refine Calls.mono (HR.out _ hm1) ?_; rintro e w' ⟨rfl, hC⟩)
      go_ret
      exact ⟨rfl, ((Chg.refl (fun _ => False) w).alloc _).trans hC (fun _ h _ => h)⟩
    | false =>
      have hO : oneP (.mk 1 false td od wd) = td := by rw [oneP]; rfl
      rw [hO]
      go_enter Tryd.func16, Tryd.ntmps16
      go_wp2
      go_ret
      exact ⟨rfl, (Chg.refl (fun _ => False) w).alloc _⟩
  · have k1b : (kd == 1) = false := by simpa using k1
    by_cases k2 : kd = 2
    · subst k2
      cases ho : (od == [108, 101, 110]) with
      | true =>
        rw [ho] at e1
        have hO : oneP (.mk 2 qd td od wd) = [36, 123, 35] ++ td ++ [125] := by rw [oneP, ho]; rfl
        rw [hO]
        have c1 := cat_law (P := Tryd.prog) ⟨#[36, 123, 35]⟩ (bstr td) [36, 123, 35] td ([36, 123, 35] ++ td) rfl rfl rfl (by simp; omega)
        have c2 := cat_law (P := Tryd.prog) (bstr ([36, 123, 35] ++ td)) ⟨#[125]⟩ ([36, 123, 35] ++ td) [125] ([36, 123, 35] ++ td ++ [125]) rfl rfl rfl (by simp; omega)
        clear hwl hW h
        generalize hx1 : bstr ([36, 123, 35] ++ td) = x1 at *
        generalize hx2 : bstr ([36, 123, 35] ++ td ++ [125]) = x2 at *
        clear hx1 hx2
        generalize bstr td = tb at *
        generalize bstr od = ob at *
        go_enter Tryd.func16, Tryd.ntmps16
        go_wp2
        go_ret
        exact ⟨rfl, (Chg.refl (fun _ => False) w).alloc _⟩
      | false =>
        rw [ho] at e1
        have hO : oneP (.mk 2 qd td od wd) = [36, 123] ++ td ++ od ++ textP wd ++ [125] := by rw [oneP, ho]; rfl
        rw [hO]
        have c1 := cat_law (P := Tryd.prog) ⟨#[36, 123]⟩ (bstr td) [36, 123] td ([36, 123] ++ td) rfl rfl rfl (by simp; omega)
        have c2 := cat_law (P := Tryd.prog) (bstr ([36, 123] ++ td)) (bstr od) ([36, 123] ++ td) od ([36, 123] ++ td ++ od) rfl rfl rfl (by simp; omega)
        have c3 := cat_law (P := Tryd.prog) (bstr ([36, 123] ++ td ++ od)) (bstr (textP wd)) ([36, 123] ++ td ++ od) (textP wd) ([36, 123] ++ td ++ od ++ textP wd) rfl rfl rfl (by simp; omega)
        have c4 := cat_law (P := Tryd.prog) (bstr ([36, 123] ++ td ++ od ++ textP wd)) ⟨#[125]⟩ ([36, 123] ++ td ++ od ++ textP wd) [125] ([36, 123] ++ td ++ od ++ textP wd ++ [125]) rfl rfl rfl (by simp; omega)
        have HT : Hid (∀ w', Chg (fun _ => False) w w' → Calls Tryd.prog 11 #[.slice A wd.length c] w' fun e w'' => e = .returned (.string (bstr (textP wd))) ∧ Chg (fun _ => False) w' w'') :=
          Lib.hid (fun w' hc => IH w' S _ wd (by omega) (by omega) (hm.stay hc (fun e => e)) (hW.stay hc (fun _ _ e => e)))
        clear hO hW h hwl
        generalize textP wd = tw at *
        generalize hx1 : bstr ([36, 123] ++ td) = x1 at *
        generalize hx2 : bstr ([36, 123] ++ td ++ od) = x2 at *
        generalize hx3 : bstr ([36, 123] ++ td ++ od ++ tw) = x3 at *
        generalize hx4 : bstr ([36, 123] ++ td ++ od ++ tw ++ [125]) = x4 at *
        clear hx1 hx2 hx3 hx4
        generalize bstr od = ob at *
        generalize bstr td = tb at *
        generalize bstr tw = wb at *
        go_enter Tryd.func16, Tryd.ntmps16
        go_wp2
        have hC0 : Chg (fun _ => False) w (w.alloc (.cells #[.int .i64 2, .bool qd, .string tb, .string ob, .slice A wd.length c] 32)) := (Chg.refl (fun _ => False) w).alloc _
        have hcl := row_cells (row_new w (.cells #[.int .i64 2, .bool qd, .string tb, .string ob, .slice A wd.length c] 32))
        have y2 := hcl 2
        have y3 := hcl 3
        have y4 := hcl 4
        simp only [List.getElem?_toArray, List.getElem?_cons_succ, List.getElem?_cons_zero] at y2 y3 y4
        clear hcl
        generalize w.alloc (.cells #[.int .i64 2, .bool qd, .string tb, .string ob, .slice A wd.length c] 32) = w1 at *
        go_region_held3 (fun w' => w'.cell? ⟨w.heap.size, 2, none⟩ = some (.string tb) ∧ w'.cell? ⟨w.heap.size, 3, none⟩ = some (.string ob) ∧ w'.cell? ⟨w.heap.size, 4, none⟩ = some (.slice A wd.length c)) (first | go_keep | exact HK.out) ((go_at_call 11; refine Calls.mono (HT.out _ (hC0.drewN 1)) ?_; rintro e w2 ⟨rfl, hC2⟩; have HK := Lib.hid (And.intro (hC2.cell y2 (fun e => e)) (And.intro (hC2.cell y3 (fun e => e)) (hC2.cell y4 (fun e => e))))))
        all_goals
          go_wp2
          go_ret
          exact ⟨rfl, (hC0.drewN 1).trans hC2 (fun _ h _ => h)⟩
    · have k2b : (kd == 2) = false := by simpa using k2
      by_cases k3 : kd = 3
      · subst k3
        have hO : oneP (.mk 3 qd td od wd) = [36, 40] ++ td ++ [41] := by rw [oneP]; rfl
        rw [hO]
        have c1 := cat_law (P := Tryd.prog) ⟨#[36, 40]⟩ (bstr td) [36, 40] td ([36, 40] ++ td) rfl rfl rfl (by simp; omega)
        have c2 := cat_law (P := Tryd.prog) (bstr ([36, 40] ++ td)) ⟨#[41]⟩ ([36, 40] ++ td) [41] ([36, 40] ++ td ++ [41]) rfl rfl rfl (by simp; omega)
        clear hwl hW h
        generalize hx1 : bstr ([36, 40] ++ td) = x1 at *
        generalize hx2 : bstr ([36, 40] ++ td ++ [41]) = x2 at *
        clear hx1 hx2
        generalize bstr td = tb at *
        go_enter Tryd.func16, Tryd.ntmps16
        go_wp2
        go_ret
        exact ⟨rfl, (Chg.refl (fun _ => False) w).alloc _⟩
      · have k3b : (kd == 3) = false := by simpa using k3
        have hO : oneP (.mk kd qd td od wd) = [36, 40, 40] ++ td ++ [41, 41] := by rw [oneP, k1b, k2b, k3b]; rfl
        rw [hO]
        have c1 := cat_law (P := Tryd.prog) ⟨#[36, 40, 40]⟩ (bstr td) [36, 40, 40] td ([36, 40, 40] ++ td) rfl rfl rfl (by simp; omega)
        have c2 := cat_law (P := Tryd.prog) (bstr ([36, 40, 40] ++ td)) ⟨#[41, 41]⟩ ([36, 40, 40] ++ td) [41, 41] ([36, 40, 40] ++ td ++ [41, 41]) rfl rfl rfl (by simp; omega)
        clear hwl hW h
        generalize hx1 : bstr ([36, 40, 40] ++ td) = x1 at *
        generalize hx2 : bstr ([36, 40, 40] ++ td ++ [41, 41]) = x2 at *
        clear hx1 hx2
        generalize bstr td = tb at *
        clear k1 k2 k3
        go_enter Tryd.func16, Tryd.ntmps16
        go_wp2
        go_ret
        exact ⟨rfl, (Chg.refl (fun _ => False) w).alloc _⟩
end Go.Proofs.YtdfnkmiabmjolaaDoor
namespace Go.Proofs.YtdfnkmiabmjolaaDoor
open Go.RowKit
set_option linter.unusedVariables false
set_option linter.unusedSimpArgs false

theorem wts_take_le : ∀ (ps : List Part) (k : Nat), Part.wts (ps.take k) ≤ Part.wts ps
  | [], k => by simp
  | p :: ps, 0 => by simp [Part.wts]
  | p :: ps, k + 1 => by have := wts_take_le ps k; simp [Part.wts]; omega
theorem wt_mem : ∀ {ps : List Part} {k : Nat} {p : Part}, ps[k]? = some p → p.wt ≤ Part.wts ps
  | [], k, p, h => by simp at h
  | q :: ps, 0, p, h => by simp at h; subst h; simp [Part.wts]
  | q :: ps, k + 1, p, h => by have := wt_mem (ps := ps) (k := k) (p := p) (by simpa using h); simp [Part.wts]; omega
theorem textP_take (ps : List Part) (k : Nat) (p : Part) (h : ps[k]? = some p) : textP (ps.take (k + 1)) = textP (ps.take k) ++ partP p := by
  obtain ⟨hlt, rfl⟩ := List.getElem?_eq_some_iff.1 h
  rw [List.take_succ_eq_append_getElem hlt, textP_append, textP_cons]
  simp [textP]
theorem sl_form2 {w : World} {S : Nat → Prop} {e sz : Nat} {xs : List D} {v : Value} (h : Rep w S (.sl e sz xs) [v]) : ∃ A c, v = .slice A xs.length c := by
  obtain ⟨A, c, inner, h1, _⟩ := h
  exact ⟨A, c, by simpa using h1⟩
theorem Chg.of_below' {B : Nat} {w w' : World} (h : Below B w w') : Chg (fun k => B ≤ k) w w' := ⟨h.os, h.tape, h.output, h.size, fun k _ hn => h.block k (Nat.lt_of_not_le hn)⟩
/-- A builder that was just laid. -/
theorem bv_new (w : World) : BV (w.heap.size + 1) w.heap.size (.slice none 0 0) [] (w.alloc (.cells #[.pointer none, .slice none 0 0] 48)) :=
  ⟨_, .inl rfl, heap_alloc_new w _, World.ownsRow_nil _ _ _ _, by simp [Value.ownBlock]⟩
set_option pp.deepTerms true in
set_option pp.maxSteps 200000 in
set_option maxRecDepth 100000 in
set_option maxHeartbeats 4000000 in
theorem text_step (n : Nat) (IH : OneSaid n) : TextSaid n := by
  intro w S v ps hn hb hm h
  obtain ⟨A, c, rfl⟩ := sl_form2 h
  rw [Part.ds_length] at h ⊢
  have hmax : ps.length ≤ c ∧ c ≤ maxLen := by
    obtain ⟨_, _, _, h1, h2, h3, _⟩ := h
    simp only [List.cons.injEq, Value.slice.injEq, and_true] at h1
    rw [Part.ds_length] at h2
    exact ⟨by omega, by omega⟩
  unfold maxLen at hmax
  go_enter Tryd.func11, Tryd.ntmps11
  go_wp2
  have hB0 := bv_new w
  have hC0 : Chg (fun _ => False) w (w.alloc (.cells #[.pointer none, .slice none 0 0] 48)) := (Chg.refl (fun _ => False) w).alloc _
  generalize w.alloc (.cells #[.pointer none, .slice none 0 0] 48) = w0 at *
  go_loopg [9] ps.length (fun rk i wr => ∃ (k : Nat) (bv : Value), k + rk = ps.length ∧ i = .int .i64 k ∧ BV (w.heap.size + 1) w.heap.size bv (textP (ps.take k)) wr ∧ Chg (fun _ => False) w wr)
  case atStart => exact ⟨0, _, by omega, rfl, by simpa [textP] using hB0, hC0⟩
  case round =>
    clear hB0 hC0
    obtain ⟨k, bv, hk, rfl, hB, hC⟩ := hrel
    generalize wr = W at *
    have hown := hB.own
    have hsz : w.heap.size + 1 ≤ W.heap.size := by
      obtain ⟨p, _, hh, _⟩ := hB
      exact row_lt hh
    by_cases hlt : k < ps.length
    · obtain ⟨p, hp⟩ : ∃ p, ps[k]? = some p := ⟨ps[k], List.getElem?_eq_getElem hlt⟩
      have hz := h.stay hC (fun _ _ e => e)
      obtain ⟨b1, o1, c1', cs1, hv1, _, _, _, hr1, hl1, hcs1⟩ := sl_get hz (by omega) k p.d (by rw [Part.ds_map, List.getElem?_map, hp]; rfl)
      simp only [Part.ds_length, Value.slice.injEq] at hv1
      obtain ⟨rfl, _, rfl⟩ := hv1
      have HTK := Lib.hid (textP_take ps k p hp)
      have hwt := wt_mem hp
      have hwl := wts_take_le ps k
      have htl := textP_len (ps.take k)
      have hol := oneP_len p
      have hpl := partP_len p
      have hone := fun w' (hc : Chg (fun _ => False) W w') => IH w' S cs1 p (by omega) (by omega) (hm.stay (hC.trans hc (fun _ h _ => h)) (fun e => e)) (hr1.stay hc (fun _ _ e => e))
      have r0 : IntKind.i64.wrap ((k : Int) + 1) = (k : Int) + 1 := IntWalk.i64_in _ (by omega)
      obtain ⟨kd, qd, td, od, wd⟩ := p
      obtain ⟨Aw, cw, rfl, _⟩ := part_rep2 hr1
      have g10 := hcs1 0 _ rfl
      have g11 := hcs1 1 _ rfl
      have g12 := hcs1 2 _ rfl
      have g13 := hcs1 3 _ rfl
      have g14 := hcs1 4 _ rfl
      simp only [Nat.add_zero, ← Nat.add_assoc] at g10 g11 g12 g13 g14
      have HONE := Lib.hid hone
      clear hone hcs1 hr1 hz hp hl1
      generalize bstr td = tb at *
      generalize bstr od = ob at *
      go_wp2_with fail
      have hCa : Chg (fun _ => False) W (W.alloc (.cells #[.int .i64 kd, .bool qd, .string tb, .string ob, .slice Aw wd.length cw] 32)) := (Chg.refl _ W).alloc _
      have hrow := row_new W (.cells #[.int .i64 kd, .bool qd, .string tb, .string ob, .slice Aw wd.length cw] 32)
      generalize W.alloc (.cells #[.int .i64 kd, .bool qd, .string tb, .string ob, .slice Aw wd.length cw] 32) = W2 at *
      refine Calls.mono (HONE.out _ hCa) ?_
      rintro e w3 ⟨rfl, hC2⟩
      have hC3 := hCa.trans hC2 (fun _ h _ => h)
      have hrow3 := row_chg hrow hC2 (fun e => e)
      have hcl := row_cells hrow3
      have hB3 := hB.stay hC3 (fun e => e) (fun _ _ e => e)
      have hsz3 := hC3.size
      clear HONE hrow hCa hC2 g10 g11 g12 g13 g14 hB hrow3
      generalize hon : oneP (.mk kd qd td od wd) = on at *
      cases qd with
      | false =>
        have hpp : partP (.mk kd false td od wd) = on := by unfold partP; rw [← hon]; rfl
        have HWR := Lib.hid (WriteString_calls (w.heap.size + 1) w.heap.size bv (textP (ps.take k)) (bstr on) w3 hB3 (by omega) (by rw [bstr_size]; omega) (by omega))
        generalize hx3 : bstr on = x3 at *
        go_wp2_with fail
        refine Calls.mono HWR.out ?_
        rintro e w4 ⟨rfl, bv4, hB4, hC4⟩
        go_wp2
        go_roundg (gk - 1)
        case measure => omega
        case rel =>
          refine ⟨k + 1, bv4, by omega, rfl, ?_, ?_⟩
          · rw [HTK.out, hpp]
            rw [← hx3, bstr_toList] at hB4
            exact hB4
          · exact (hC.trans hC3 (fun _ h _ => h)).trans hC4 (fun j hj hl => by
              rcases hj with rfl | hj
              · exact absurd hl (Nat.lt_irrefl _)
              · have := (hown j hj.symm).1; omega)
      | true =>
        by_cases k1 : kd = 1
        · subst k1
          have hpp : partP (.mk 1 true td od wd) = on := by unfold partP; rw [← hon]; rfl
          have HWR := Lib.hid (WriteString_calls (w.heap.size + 1) w.heap.size bv (textP (ps.take k)) (bstr on) w3 hB3 (by omega) (by rw [bstr_size]; omega) (by omega))
          generalize hx3 : bstr on = x3 at *
          go_wp2_with fail
          refine Calls.mono HWR.out ?_
          rintro e w4 ⟨rfl, bv4, hB4, hC4⟩
          go_wp2
          go_roundg (gk - 1)
          case measure => omega
          case rel =>
            refine ⟨k + 1, bv4, by omega, rfl, ?_, ?_⟩
            · rw [HTK.out, hpp]
              rw [← hx3, bstr_toList] at hB4
              exact hB4
            · exact (hC.trans hC3 (fun _ h _ => h)).trans hC4 (fun j hj hl => by
                rcases hj with rfl | hj
                · exact absurd hl (Nat.lt_irrefl _)
                · have := (hown j hj.symm).1; omega)
        · have k1b : (kd != 1) = true := by simpa using k1
          have k1c : (kd == 1) = false := by simpa using k1
          have hpp : partP (.mk kd true td od wd) = [34] ++ on ++ [34] := by
            unfold partP
            rw [hon]
            rw [if_pos (by show (true && (kd != 1)) = true; rw [k1b]; rfl)]
            rfl
          have hlen : ([34] ++ on ++ [34] : Bytes).length = on.length + 2 := by simp
          have c1 := cat_law (P := Tryd.prog) ⟨#[34]⟩ (bstr on) [34] on ([34] ++ on) rfl rfl rfl (by simp; omega)
          have c2 := cat_law (P := Tryd.prog) (bstr ([34] ++ on)) ⟨#[34]⟩ ([34] ++ on) [34] ([34] ++ on ++ [34]) rfl rfl rfl (by simp; omega)
          clear k1
          generalize hx1 : bstr ([34] ++ on) = x1 at *
          generalize hx4 : ([34] ++ on ++ [34] : Bytes) = x4 at *
          generalize bstr on = xo at *
          clear hx1 hx4
          have HWR := Lib.hid (WriteString_calls (w.heap.size + 1) w.heap.size bv (textP (ps.take k)) (bstr x4) w3 hB3 (by omega) (by rw [bstr_size]; omega) (by omega))
          generalize hx3 : bstr x4 = x3 at *
          go_wp2_with fail
          refine Calls.mono HWR.out ?_
          rintro e w4 ⟨rfl, bv4, hB4, hC4⟩
          go_wp2
          go_roundg (gk - 1)
          case measure => omega
          case rel =>
            refine ⟨k + 1, bv4, by omega, rfl, ?_, ?_⟩
            · rw [HTK.out, hpp]
              rw [← hx3, bstr_toList] at hB4
              exact hB4
            · exact (hC.trans hC3 (fun _ h _ => h)).trans hC4 (fun j hj hl => by
                rcases hj with rfl | hj
                · exact absurd hl (Nat.lt_irrefl _)
                · have := (hown j hj.symm).1; omega)
    · have hk' : k = ps.length := by omega
      subst hk'
      rw [List.take_length] at hB
      have hS := Tryd.Builder_String_any w.heap.size w.heap.size (textP ps) W (hB.bat (Nat.le_refl _) (Nat.le_succ _)) (by omega)
      clear hm h hB hown
      go_wp2_with fail
      refine Calls.mono hS ?_
      rintro e w5 ⟨rfl, hb5⟩
      go_wp2
      go_ret
      exact ⟨rfl, hC.trans (Chg.of_below' hb5) (fun j hj hl => absurd hl (Nat.not_lt_of_le hj))⟩
end Go.Proofs.YtdfnkmiabmjolaaDoor
namespace Go.Proofs.YtdfnkmiabmjolaaDoor
open Go.RowKit
set_option linter.unusedVariables false
set_option linter.unusedSimpArgs false

section
variable (w : World) (g : Nat) (s : ByteArray) (a d : Nat) (q : Bool) (h : ScanAt w g s a d) (ha : a < s.size) (hs : s.size ≤ 8192) (n : Nat)
include h ha hs

set_option maxRecDepth 100000 in
set_option maxHeartbeats 4000000 in
theorem dollar_param (hd : d ≤ 16) (hf : 4 * (s.size - a) ≤ n) (IH : ParamSaid n) (ha' : a + 1 < s.size) (hn : named (s.data.toList.drop (a + 1)) = 0) (hc : (digit s[a + 1] || special s[a + 1]) = false) (h1 : (s[a + 1] == 123) = true) : Calls Tryd.prog 28 #[.pointer (some ⟨g, 0, none⟩), .bool q] w (ScanPost w g s d (dollarF (n + 1) d q (s.data.toList.drop (a + 1))) (fun _ => False) (PartVal w)) := by
  have hE : dollarF (n + 1) d q (s.data.toList.drop (a + 1)) = paramF n d q (s.data.toList.drop (a + 2)) := by
    rw [byte_drop s _ ha'] at hn ⊢
    rw [dollarF, dollarG.eq_def, if_neg (by omega), if_neg (by omega)]
    simp only [hc, h1, if_true, Bool.false_eq_true, if_false]
  have _u := ha; clear _u
  have HE := Lib.hid hE; clear hE
  have HN := Lib.hid hn; clear hn
  have H1 := Lib.hid h1; clear h1
  obtain ⟨h0, h1, h2, f1, _, hgl⟩ := h.cells
  have HT0 := Lib.hid (Lib.extract_to_end s (a + 1))
  have e1 : (0 : Int) ≤ (a : Int) + 1 := by omega
  have e2 : (a : Int) + 1 ≤ (s.size : Int) := by omega
  have hsz : (s.extract (a + 1) s.size).size ≤ 8192 := by simp [ByteArray.size_extract]; omega
  have HSZ := Lib.hid (extract_size s (a + 1) (by omega))
  generalize dollarF (n + 1) d q (s.data.toList.drop (a + 1)) = R at *
  go_enter Tryd.func28, Tryd.ntmps28
  go_wp2_with fail
  generalize s.extract (a + 1) s.size = t at *
  generalize hk : named t.data.toList = k at *
  have HK := Lib.hid hk; clear hk
  have hk0 : k = 0 := by have h1 : named t.data.toList = 0 := by rw [HT0.out]; exact HN.out
                         rw [← HK.out]; exact h1
  subst hk0
  have hk3 := HSZ.out
  have ht0 : 0 < t.size := by omega
  clear hk3
  have he := isEmpty_pos t ht0
  have hc0 : t[0] = s[a + 1] := extract_head s (a + 1) ha' t HT0.out ht0
  have hc1 : t.data.toList = s[a + 1] :: s.data.toList.drop (a + 2) := by rw [HT0.out, byte_drop s (a + 1) ha']
  generalize s[a + 1] = c at *
  have HC1 := Lib.hid hc1; clear hc1
  have hdg : digit c = digitB c.toNat := rfl
  rw [hdg] at hc
  have hd : digitB c.toNat = false := by revert hc; cases digitB c.toNat <;> simp
  have hsp : special c = false := by revert hc; cases special c <;> simp
  clear hc hdg
  have hp1 : Lib.hasPrefix t.data.toList [123] = true := by rw [HC1.out, prefix_one]; exact H1.out
  go_wp2_with (first | (go_at_call 35; refine (named_calls _ _ (by omega)).mono ?_; rintro e w' ⟨rfl, rfl⟩; rw [HK.out]) | (go_at_call 38; refine (Tryd.strings_HasPrefix _ _ _).mono ?_; rintro e w' ⟨rfl, rfl⟩) | (go_at_call 36; refine (digit_calls _ _).mono ?_; rintro e w' ⟨rfl, rfl⟩) | (go_at_call 37; refine (special_calls _ _).mono ?_; rintro e w' ⟨rfl, rfl⟩))
  refine (IH _ g s a d q (row_alloc h _) (by omega) hs (by assumption) hf).mono ?_
  intro e w1 hpost
  rw [← HE.out] at hpost
  cases R with
  | err left code =>
    obtain ⟨k, hk, hl, rfl, hC⟩ := hpost
    exact ⟨rfl, k, hk, hl, rfl, (((Chg.refl _ _).alloc _).trans hC (fun _ h _ => h))⟩
  | ok p rest =>
    obtain ⟨v, k, rfl, hk, hr, ⟨cs, rfl, hrep⟩, hA, hC⟩ := hpost
    obtain ⟨kd, qd, td, od, wd⟩ := p
    obtain ⟨A, c', rfl, hwv, _, _⟩ := part_rep2 hrep
    have hne : g ≠ w.heap.size := by omega
    have kB := row_chg (row_new w (.cells #[.int .i64 0, .bool false, .string ⟨#[]⟩, .string ⟨#[]⟩, .slice none 0 0] 32)) hC (fun e => by rcases e with e | e; exact hne e.symm; exact e)
    have kcl := row_cells kB
    have kfr := row_free kB
    have hbl := row_lt kB
    clear kB
    have hC0 : Chg (fun j => j = g ∨ False) w w1 := ((Chg.refl (fun j => j = g ∨ False) w).alloc _).trans hC (fun _ h _ => h)
    have HREP := Lib.hid hrep; clear hrep
    have HA := Lib.hid hA; clear hA
    go_wp2
    refine bodyPost_ret (v := .agg #[.int .i64 kd, .bool qd, .string (bstr td), .string (bstr od), .slice A wd.length c']) (by simp [results, Tryd.results28, go_sem, kcl]) rfl ⟨_, k, rfl, hk, hr, ⟨_, rfl, ?_⟩, ?_, ?_⟩
    · refine (HREP.out.stay (((((((Chg.refl (fun j => j = w.heap.size) _).setCell (fun _ => rfl) _).setCell (fun _ => rfl) _).setCell (fun _ => rfl) _).setCell (fun _ => rfl) _).setCell (fun _ => rfl) _)) (fun j hj e => ?_)).mono (fun j hj _ => ?_)
      · simp at hj; omega
      · simp at hj; omega
    · exact row_far (row_far (row_far (row_far (row_far HA.out hne _) hne _) hne _) hne _) hne _
    · exact ((((hC0.setCell (fun h => absurd h (by simp)) _).setCell (fun h => absurd h (by simp)) _).setCell (fun h => absurd h (by simp)) _).setCell (fun h => absurd h (by simp)) _).setCell (fun h => absurd h (by simp)) _

set_option maxRecDepth 100000 in
set_option maxHeartbeats 4000000 in
theorem dollar_arith (ha' : a + 1 < s.size) (hn : named (s.data.toList.drop (a + 1)) = 0) (hc : (digit s[a + 1] || special s[a + 1]) = false) (h1 : (s[a + 1] == 40) = true) (h2 : ((s.data.toList.drop (a + 2)).head? == some 40) = true) : Calls Tryd.prog 28 #[.pointer (some ⟨g, 0, none⟩), .bool q] w (ScanPost w g s d (dollarF (n + 1) d q (s.data.toList.drop (a + 1))) (fun _ => False) (PartVal w)) := by
  have h123 : (s[a + 1] == 123) = false := by rw [show s[a + 1] = 40 by simpa using h1]; rfl
  have ha3 : a + 2 < s.size := by
    by_cases hh : a + 2 < s.size
    · exact hh
    · rw [drop_end s _ hh] at h2; cases h2
  have hE : dollarF (n + 1) d q (s.data.toList.drop (a + 1)) = (match arithF (s.size - a) 0 [] (s.data.toList.drop (a + 3)) with | .ok t r' => .ok (.mk 4 q t [] []) r' | .err a e => .err a e) := by
    rw [byte_drop s _ ha'] at hn ⊢
    rw [dollarF, dollarG.eq_def, if_neg (by omega), if_neg (by omega)]
    simp only [hc, h123, h1, h2, if_true, Bool.false_eq_true, if_false, drop_len, List.drop_drop, show a + 1 + 1 = a + 2 from rfl, show a + 2 + 1 = a + 3 from rfl]
    rw [show s.size - (a + 2) + 2 = s.size - a by omega]
    cases arithF (s.size - a) 0 [] (s.data.toList.drop (a + 3)) <;> rfl
  have _u := ha; clear _u
  have HE := Lib.hid hE; clear hE
  have HN := Lib.hid hn; clear hn
  have H1 := Lib.hid h1; clear h1
  have H2 := Lib.hid h2; clear h2
  have H3 := Lib.hid h123; clear h123
  obtain ⟨h0, h1, h2, f1, _, hgl⟩ := h.cells
  have HT0 := Lib.hid (Lib.extract_to_end s (a + 1))
  have e1 : (0 : Int) ≤ (a : Int) + 1 := by omega
  have e2 : (a : Int) + 1 ≤ (s.size : Int) := by omega
  have hsz : (s.extract (a + 1) s.size).size ≤ 8192 := by simp [ByteArray.size_extract]; omega
  have HSZ := Lib.hid (extract_size s (a + 1) (by omega))
  generalize dollarF (n + 1) d q (s.data.toList.drop (a + 1)) = R at *
  go_enter Tryd.func28, Tryd.ntmps28
  go_wp2_with fail
  generalize s.extract (a + 1) s.size = t at *
  generalize hk : named t.data.toList = k at *
  have HK := Lib.hid hk; clear hk
  have hk0 : k = 0 := by have h1 : named t.data.toList = 0 := by rw [HT0.out]; exact HN.out
                         rw [← HK.out]; exact h1
  subst hk0
  have hk3 := HSZ.out
  have ht0 : 0 < t.size := by omega
  clear hk3
  have he := isEmpty_pos t ht0
  have hc0 : t[0] = s[a + 1] := extract_head s (a + 1) ha' t HT0.out ht0
  have hc1 : t.data.toList = s[a + 1] :: s.data.toList.drop (a + 2) := by rw [HT0.out, byte_drop s (a + 1) ha']
  generalize s[a + 1] = c at *
  have HC1 := Lib.hid hc1; clear hc1
  have hdg : digit c = digitB c.toNat := rfl
  rw [hdg] at hc
  have hd : digitB c.toNat = false := by revert hc; cases digitB c.toNat <;> simp
  have hsp : special c = false := by revert hc; cases special c <;> simp
  clear hc hdg
  have hp1 : Lib.hasPrefix t.data.toList [123] = false := by rw [HC1.out, prefix_one]; exact H3.out
  have hp2 : Lib.hasPrefix t.data.toList [40, 40] = true := by
    rw [HC1.out, byte_drop s _ ha3, prefix_two, H1.out]
    have := H2.out
    rw [byte_drop s _ ha3] at this
    simpa using this
  go_wp2_with (first | (go_at_call 35; refine (named_calls _ _ (by omega)).mono ?_; rintro e w' ⟨rfl, rfl⟩; rw [HK.out]) | (go_at_call 38; refine (Tryd.strings_HasPrefix _ _ _).mono ?_; rintro e w' ⟨rfl, rfl⟩) | (go_at_call 36; refine (digit_calls _ _).mono ?_; rintro e w' ⟨rfl, rfl⟩) | (go_at_call 37; refine (special_calls _ _).mono ?_; rintro e w' ⟨rfl, rfl⟩))
  refine (arith_calls g s a d _ (row_alloc h _) (by omega) hs).mono ?_
  intro e w1 hpost
  generalize arithF (s.size - a) 0 [] (s.data.toList.drop (a + 3)) = RA at *
  cases RA with
  | err left code =>
    obtain ⟨k, hk, hl, rfl, hC⟩ := hpost
    refine ⟨rfl, ?_⟩
    rw [HE.out]
    exact ⟨k, hk, hl, rfl, (((Chg.refl _ _).alloc _).trans hC (fun _ h _ => h))⟩
  | ok tx rest =>
    obtain ⟨v, k, rfl, hk, hr, rfl, hA, hC⟩ := hpost
    have HE' : Hid (R = .ok (.mk 4 q tx [] []) rest) := HE
    clear HE
    have hne : g ≠ w.heap.size := by omega
    have kB := row_chg (row_new w (.cells #[.int .i64 0, .bool false, .string ⟨#[]⟩, .string ⟨#[]⟩, .slice none 0 0] 32)) hC (fun e => by rcases e with e | e; exact hne e.symm; exact e)
    have kcl := row_cells kB
    have kfr := row_free kB
    have hbl := row_lt kB
    clear kB
    have hC0 : Chg (fun j => j = g ∨ False) w w1 := ((Chg.refl (fun j => j = g ∨ False) w).alloc _).trans hC (fun _ h _ => h)
    have HA := Lib.hid hA; clear hA
    go_wp2
    refine bodyPost_ret (v := .agg #[.int .i64 4, .bool q, .string (bstr tx), .string ⟨#[]⟩, .slice none 0 0]) (by simp [results, Tryd.results28, go_sem, kcl]) rfl ?_
    rw [HE'.out]
    refine ⟨_, k, rfl, hk, hr, ⟨_, rfl, part_nil _ _ _ _ _ _ rfl⟩, ?_, ?_⟩
    · exact row_far (row_far (row_far (row_far (row_far HA.out hne _) hne _) hne _) hne _) hne _
    · exact ((((hC0.setCell (fun h => absurd h (by simp)) _).setCell (fun h => absurd h (by simp)) _).setCell (fun h => absurd h (by simp)) _).setCell (fun h => absurd h (by simp)) _).setCell (fun h => absurd h (by simp)) _

set_option maxRecDepth 100000 in
set_option maxHeartbeats 4000000 in
theorem dollar_cmd (ha' : a + 1 < s.size) (hn : named (s.data.toList.drop (a + 1)) = 0) (hc : (digit s[a + 1] || special s[a + 1]) = false) (h1 : (s[a + 1] == 40) = true) (h2 : ((s.data.toList.drop (a + 2)).head? == some 40) = false) : Calls Tryd.prog 28 #[.pointer (some ⟨g, 0, none⟩), .bool q] w (ScanPost w g s d (dollarF (n + 1) d q (s.data.toList.drop (a + 1))) (fun _ => False) (PartVal w)) := by
  have h123 : (s[a + 1] == 123) = false := by rw [show s[a + 1] = 40 by simpa using h1]; rfl
  have hE : dollarF (n + 1) d q (s.data.toList.drop (a + 1)) = (match inside (s.data.toList.drop (a + 2)) with | none => .err (s.size - a) 60 | some k => .ok (.mk 3 q ((s.data.toList.drop (a + 2)).take k) [] []) (s.data.toList.drop (a + 2 + (k + 1)))) := by
    rw [byte_drop s _ ha'] at hn ⊢
    rw [dollarF, dollarG.eq_def, if_neg (by omega), if_neg (by omega)]
    simp only [hc, h123, h1, h2, if_true, Bool.false_eq_true, if_false, drop_len, List.drop_drop, show a + 1 + 1 = a + 2 from rfl]
    rw [show s.size - (a + 2) + 2 = s.size - a by omega]
    cases inside (s.data.toList.drop (a + 2)) <;> rfl
  have _u := ha; clear _u
  have HE := Lib.hid hE; clear hE
  have HN := Lib.hid hn; clear hn
  have H1 := Lib.hid h1; clear h1
  have H2 := Lib.hid h2; clear h2
  have H3 := Lib.hid h123; clear h123
  obtain ⟨h0, h1, h2, f1, _, hgl⟩ := h.cells
  have HT0 := Lib.hid (Lib.extract_to_end s (a + 1))
  have e1 : (0 : Int) ≤ (a : Int) + 1 := by omega
  have e2 : (a : Int) + 1 ≤ (s.size : Int) := by omega
  have hsz : (s.extract (a + 1) s.size).size ≤ 8192 := by simp [ByteArray.size_extract]; omega
  have HSZ := Lib.hid (extract_size s (a + 1) (by omega))
  generalize dollarF (n + 1) d q (s.data.toList.drop (a + 1)) = R at *
  go_enter Tryd.func28, Tryd.ntmps28
  go_wp2_with fail
  generalize s.extract (a + 1) s.size = t at *
  generalize hk : named t.data.toList = k at *
  have HK := Lib.hid hk; clear hk
  have hk0 : k = 0 := by have h1 : named t.data.toList = 0 := by rw [HT0.out]; exact HN.out
                         rw [← HK.out]; exact h1
  subst hk0
  have hk3 := HSZ.out
  have ht0 : 0 < t.size := by omega
  clear hk3
  have he := isEmpty_pos t ht0
  have hc0 : t[0] = s[a + 1] := extract_head s (a + 1) ha' t HT0.out ht0
  have hc1 : t.data.toList = s[a + 1] :: s.data.toList.drop (a + 2) := by rw [HT0.out, byte_drop s (a + 1) ha']
  generalize s[a + 1] = c at *
  have HC1 := Lib.hid hc1; clear hc1
  have hdg : digit c = digitB c.toNat := rfl
  rw [hdg] at hc
  have hd : digitB c.toNat = false := by revert hc; cases digitB c.toNat <;> simp
  have hsp : special c = false := by revert hc; cases special c <;> simp
  clear hc hdg
  have hp1 : Lib.hasPrefix t.data.toList [123] = false := by rw [HC1.out, prefix_one]; exact H3.out
  have hp3 : Lib.hasPrefix t.data.toList [40] = true := by rw [HC1.out, prefix_one]; exact H1.out
  have hp2 : Lib.hasPrefix t.data.toList [40, 40] = false := by
    rw [HC1.out]
    have := H2.out
    cases hl : s.data.toList.drop (a + 2) with
    | nil => exact prefix_two_one ..
    | cons e l =>
      rw [hl] at this
      rw [prefix_two, H1.out]
      simpa using this
  go_wp2_with (first | (go_at_call 35; refine (named_calls _ _ (by omega)).mono ?_; rintro e w' ⟨rfl, rfl⟩; rw [HK.out]) | (go_at_call 38; refine (Tryd.strings_HasPrefix _ _ _).mono ?_; rintro e w' ⟨rfl, rfl⟩) | (go_at_call 36; refine (digit_calls _ _).mono ?_; rintro e w' ⟨rfl, rfl⟩) | (go_at_call 37; refine (special_calls _ _).mono ?_; rintro e w' ⟨rfl, rfl⟩))
  have e3 : (0 : Int) ≤ (a : Int) + 2 := by omega
  have e4 : (a : Int) + 2 ≤ (s.size : Int) := by omega
  have hsz2 : (s.extract (a + 2) s.size).size ≤ 8192 := by simp [ByteArray.size_extract]; omega
  have HT2 := Lib.hid (Lib.extract_to_end s (a + 2))
  have hin : insideI ((s.extract (a + 2) s.size).size + 1) 0 0 (s.extract (a + 2) s.size).data.toList = (match inside (s.data.toList.drop (a + 2)) with | none => -1 | some k => (k : Int)) := by
    rw [← HT2.out, inside, len_data, insideI]
    cases insideF ((s.extract (a + 2) s.size).size + 1) 0 (s.extract (a + 2) s.size).data.toList <;> simp
  cases hI : inside (s.data.toList.drop (a + 2)) with
  | none =>
    rw [hI] at hin
    have hin' : insideI ((s.extract (a + 2) s.size).size + 1) 0 0 (s.extract (a + 2) s.size).data.toList = -1 := hin
    have HIN := Lib.hid hin'; clear hin hin'
    have HI := Lib.hid hI; clear hI
    go_quiet ((go_at_call 41; exact Calls.quiet_of_same ((inside_calls _ _ (by omega)).mono (fun e w' hh => ⟨hh.1.trans (by rw [HIN.out]), hh.2.symm⟩))))
    go_wp2_with (go_at_call 24; refine (fail_calls _ _ _ _).mono ?_; rintro e w1 ⟨rfl, rfl⟩)
    refine ⟨rfl, ?_⟩
    rw [HE.out, HI.out]
    exact ⟨a, by omega, by omega, rfl, (((Chg.refl _ _).setCell (fun _ => .inl rfl) _).alloc _).drewN _⟩
  | some k =>
    rw [hI] at hin
    have hin' : insideI ((s.extract (a + 2) s.size).size + 1) 0 0 (s.extract (a + 2) s.size).data.toList = (k : Int) := hin
    have HIN := Lib.hid hin'; clear hin hin'
    have hkl := insideF_lt _ _ _ _ hI
    rw [drop_len] at hkl
    have HI := Lib.hid hI; clear hI
    have e5 : (a : Int) + 2 ≤ (a : Int) + 2 + (k : Int) := by omega
    have e6 : (a : Int) + 2 + (k : Int) ≤ (s.size : Int) := by omega
    have HX := Lib.hid (extract_bstr s (a + 2) (a + 2 + k))
    go_quiet ((go_at_call 41; exact Calls.quiet_of_same ((inside_calls _ _ (by omega)).mono (fun e w' hh => ⟨hh.1.trans (by rw [HIN.out]), hh.2.symm⟩))))
    go_wp2
    go_quiet (fail)
    go_wp2
    have hne : g ≠ w.heap.size := by omega
    refine bodyPost_ret (v := .agg #[.int .i64 3, .bool q, .string (s.extract (a + 2) (a + 2 + k)), .string ⟨#[]⟩, .slice none 0 0]) (by simp [results, Tryd.results28, go_sem]) rfl ?_
    rw [HE.out, HI.out]
    refine ⟨_, a + 2 + (k + 1), rfl, by omega, rfl, ⟨_, rfl, part_nil _ _ _ _ _ _ (by rw [HX.out]; congr 2; omega)⟩, ?_, ?_⟩
    · have k1 : ScanAt (((w.setCell ⟨g, 1, none⟩ (.int .i64 ((a : Int) + 2))).alloc (.cells #[.int .i64 0, .bool false, .string ⟨#[]⟩, .string ⟨#[]⟩, .slice none 0 0] 32)).drewN 0) g s ((a : Int) + 2) d := row_alloc (h.at' _) _
      have k2 := row_far (row_far (row_far (row_far (row_far (k1.at' ((a : Int) + 2 + ((k : Int) + 1))) (p := ⟨w.heap.size, 0, none⟩) hne (.int .i64 3)) (p := ⟨w.heap.size, 1, none⟩) hne (.bool q)) (p := ⟨w.heap.size, 2, none⟩) hne (.string (s.extract (a + 2) (a + 2 + k)))) (p := ⟨w.heap.size, 3, none⟩) hne (.string ⟨#[]⟩)) (p := ⟨w.heap.size, 4, none⟩) hne (.slice none 0 0)
      rw [show ((a : Int) + 2 + ((k : Int) + 1)) = ((a + 2 + (k + 1) : Nat) : Int) by omega] at k2 ⊢
      exact k2
    · exact ((((((((Chg.refl _ _).setCell (fun _ => .inl rfl) _).alloc _).drewN _).setCell (fun _ => .inl rfl) _).setCell (fun h => absurd h (by simp)) _).setCell (fun h => absurd h (by simp)) _).setCell (fun h => absurd h (by simp)) _).setCell (fun h => absurd h (by simp)) _ |>.setCell (fun h => absurd h (by simp)) _
end

theorem dollar_said (n : Nat) (IH : ParamSaid n) : DollarSaid (n + 1) := by
  intro w g s a d q h ha hs hd hf
  by_cases h1 : named (s.data.toList.drop (a + 1)) > 64
  · exact dollar_long w g s a d q h ha hs n h1
  · by_cases h2 : 0 < named (s.data.toList.drop (a + 1))
    · exact dollar_name w g s a d q h ha hs n (by omega) h2
    · have hn : named (s.data.toList.drop (a + 1)) = 0 := by omega
      by_cases ha' : a + 1 < s.size
      · cases hc : (digit s[a + 1] || special s[a + 1])
        · cases h3 : s[a + 1] == 123
          · cases h4 : s[a + 1] == 40
            · exact dollar_else w g s a d q h ha hs n ha' hn hc h3 h4
            · cases h5 : (s.data.toList.drop (a + 2)).head? == some 40
              · exact dollar_cmd w g s a d q h ha hs n ha' hn hc h4 h5
              · exact dollar_arith w g s a d q h ha hs n ha' hn hc h4 h5
          · exact dollar_param w g s a d q h ha hs n hd (by omega) IH ha' hn hc h3
        · exact dollar_char w g s a d q h ha hs n ha' hn hc
      · exact dollar_end w g s a d q h ha hs n ha'
end Go.Proofs.YtdfnkmiabmjolaaDoor
namespace Go.Proofs.YtdfnkmiabmjolaaDoor
open Go.RowKit
set_option linter.unusedVariables false
set_option linter.unusedSimpArgs false

theorem double_nil (n d F : Nat) (l : List Part) : doubleF (n + 1) d F l [] = .err F 60 := by rw [doubleF]
theorem double_cons (n d F : Nat) (l : List Part) (c : UInt8) (r : Bytes) : doubleF (n + 1) d F l (c :: r) =
    if c == 34 then .ok (if r.length + 2 == F then add l (lit [] true) else l) r
    else if c == 96 then .err (r.length + 1) 61
    else if c == 36 then (match dollarF n d true r with | .ok p r' => doubleF n d F (add l p) r' | .err a e => .err a e)
    else if c == 92 && dblEsc r then (match escape l (c :: r) with | .ok l' r' => doubleF n d F l' r' | .err a e => .err a e)
    else doubleF n d F (add l (lit [c] true)) r := by rw [doubleF]; rfl

/-- What holds at the head of a round, in double quotes. -/
def DoubleRel (w : World) (g : Nat) (s : ByteArray) (a d : Nat) (S : Nat → Prop) (v0 : Value) (R : Rs (List Part)) (k : Nat) (v : Value) (wr : World) (b : Nat) (l : List Part) : Prop :=
  ScanAt wr g s b d ∧ a + 1 ≤ b ∧ b ≤ s.size ∧ 4 * (s.size - b) + 2 ≤ k ∧ Own wr (fun j => S j ∨ w.heap.size ≤ j) 32 5 v (Part.ds l) ∧ AtOr v0 v w ∧ Chg (fun j => j = g ∨ some j = v0.ownBlock) w wr ∧
    Part.wts l + 2 * (s.size - b) ≤ 100000 ∧ doubleF k d (s.size - a) l (s.data.toList.drop b) = R

set_option maxRecDepth 100000 in
set_option maxHeartbeats 8000000 in
theorem double_said (n : Nat) (IH : ∀ m, m < n → DollarSaid m) : DoubleSaid n := by
  intro w g s a d S v l h ha hs hd hf hO hg hw
  generalize hR : doubleF n d (s.size - a) l (s.data.toList.drop (a + 1)) = R
  have HR := Lib.hid hR; clear hR
  obtain ⟨h0, h1, h2, f1, _, hgl⟩ := h.cells
  obtain ⟨A0, c0, hv0, _, _⟩ := hO.form
  have HV := Lib.hid hv0; clear hv0
  have hgw := hgl
  have hb0 : ∀ j, v.ownBlock = some j → j ≠ g := fun j hj e => hg (e ▸ hO.block hj)
  go_enter Tryd.func27, Tryd.ntmps27
  go_wp2
  go_loopg [1] n (fun k v' wr => k ≤ n ∧ ∃ b l', DoubleRel w g s a d S v R k v' wr b l')
  case atStart =>
    exact ⟨Nat.le_refl _, a + 1, l, h.at' _, by omega, by omega, by omega, (hO.stay ((Chg.refl (· = g) _).setCell (fun _ => rfl) _) (by rintro k hk rfl; exact hg hk)).mono (fun _ h _ => .inl h), .inl rfl, (Chg.refl _ _).setCell (fun _ => .inl rfl) _, by omega, HR.out⟩
  case round =>
    obtain ⟨hkn, b, l', hA, hb1, hb2, hk, hO', hat, hC, hwt, HK0⟩ := hrel
    have HK := Lib.hid HK0; clear HK0
    obtain ⟨k0, k1, k2, kf1, _, kgl⟩ := hA.cells
    clear h0 h1 h2 f1 hgl
    have hSg : ∀ k, (S k ∨ w.heap.size ≤ k) → ¬ k = g := by
      rintro k (hk | hk) rfl
      · exact hg hk
      · exact absurd hgw (by omega)
    have hugb : ∀ j, u1.ownBlock = some j → j ≠ g := fun j hj => hSg j (hO'.block hj)
    by_cases hlt : b < s.size
    · obtain ⟨m, rfl⟩ : ∃ m, gk = m + 1 := ⟨gk - 1, by omega⟩
      have HD := Lib.hid (byte_drop s b hlt)
      have HCONS := Lib.hid (double_cons m d (s.size - a) l' s[b] (s.data.toList.drop (b + 1)))
      have hx := extract_one s b hlt
      have q0 : (0 : Int) ≤ (b : Int) := by omega
      have q1 : (b : Int) < (s.size : Int) := by omega
      have hq34 : ((s[b].toNat : Int) == 34) = (s[b] == 34) := byte_eqn s[b] 34 (by decide)
      have hq96 : ((s[b].toNat : Int) == 96) = (s[b] == 96) := byte_eqn s[b] 96 (by decide)
      have hq36 : ((s[b].toNat : Int) == 36) = (s[b] == 36) := byte_eqn s[b] 36 (by decide)
      have hq92 : ((s[b].toNat : Int) == 92) = (s[b] == 92) := byte_eqn s[b] 92 (by decide)
      go_wp2
      go_quiet (fail)
      go_wp2
      go_quiet (fail)
      generalize s[b] = c at *
      cases h34 : c == 34
      case true =>
        rw [h34] at hq34
        have HR1 : Hid (R = .ok (if b == a + 1 then add l' (lit [] true) else l') (s.data.toList.drop (b + 1))) := Lib.hid (by
          rw [← HK.out, HD.out, HCONS.out, if_pos h34, drop_len]
          by_cases e : b = a + 1
          · rw [if_pos (by simp; omega), if_pos (by simp [e])]
          · rw [if_neg (by simp; omega), if_neg (by simp [e])])
        by_cases hba : b = a + 1
        · have e1 : ((b : Int) + 1 == (a : Int) + 2) = true := by simp; omega
          have HBA := Lib.hid hba; clear hba
          go_wp2_with fail
          refine (lit_calls _ _ _).mono ?_
          rintro e w1 ⟨rfl, hb1'⟩
          go_wp2_with fail
          have hC1 := (((hC.drewN _).setCell (fun _ => .inl rfl) _).trans (Chg.of_below hb1') (fun _ h _ => h.elim))
          have hA1 : ScanAt w1 g s ((b : Int) + 1) d := ScanAt.chg (ScanAt.at' (w := wr.drewN _) hA _) (Chg.of_below hb1') (fun e => e)
          have hO1 : Own w1 (fun j => S j ∨ w.heap.size ≤ j) 32 5 u1 (Part.ds l') := (hO'.stay (((Chg.refl (· = g) _).drewN _).setCell (fun _ => rfl) _) hSg).stay (Chg.of_below hb1') (fun _ _ e => e)
          refine (add_calls w1 _ (fun _ => False) u1 l' (lit [] true) [.int .i64 1, .bool true, .string ⟨#[]⟩, .string ⟨#[]⟩, .slice none 0 0] hO1 (lit_rep _ [] true) (fun _ h => h.elim) (by rw [lit_wt]; simp; omega)).mono ?_
          rintro e w2 ⟨v2, rfl, hO2, hC2, hat2⟩
          have hz1 := hC1.size
          have hz2 := hC2.size
          have hne : ¬ some g = u1.ownBlock := fun e => hugb g e.symm rfl
          go_wp2
          go_ret
          rw [HR1.out, if_pos (by simp [HBA.out])]
          refine ⟨v2, b + 1, rfl, by omega, rfl, hO2.mono (fun j h _ => h.elim id (fun h => .inr (by omega))), hA1.chg hC2 hne, hC1.trans hC2 (fun j e hl => ?_)⟩
          rcases hat with h | ⟨b', h, hle⟩
          · exact .inr (e.trans h)
          · rw [h] at e; cases e; omega
        · have e1 : ((b : Int) + 1 == (a : Int) + 2) = false := by simp; omega
          go_wp2
          go_ret
          rw [HR1.out, if_neg (by simp [hba])]
          exact ⟨u1, b + 1, rfl, by omega, rfl, hO'.stay (((Chg.refl (· = g) _).drewN _).setCell (fun _ => rfl) _) hSg, hA.at' _, (hC.drewN _).setCell (fun _ => .inl rfl) _⟩
      case false =>
        rw [h34] at hq34
        cases h96 : c == 96
        case true =>
          rw [h96] at hq96
          go_wp2_with (go_at_call 24; refine (fail_calls _ _ _ _).mono ?_; rintro e w1 ⟨rfl, rfl⟩)
          refine ⟨rfl, ?_⟩
          rw [← HK.out, HD.out, HCONS.out, if_neg (by simp [h34]), if_pos h96, drop_len]
          exact ⟨b, by omega, by omega, rfl, hC.drewN _⟩
        case false =>
          rw [h96] at hq96
          cases h36 : c == 36
          case true =>
            rw [h36] at hq36
            go_wp2_with fail
            have HD1 : Hid (∀ RD, dollarF m d true (s.data.toList.drop (b + 1)) = RD → (match RD with | .ok p r' => doubleF m d (s.size - a) (add l' p) r' | .err a e => .err a e) = R) := Lib.hid (by
              rintro RD rfl
              rw [← HK.out, HD.out, HCONS.out, if_neg (by simp [h34]), if_neg (by simp [h96]), if_pos h36])
            have HL := Lib.hid ((scan_len m).dollar d true (s.data.toList.drop (b + 1)))
            refine (IH m (by omega) (wr.drewN _) g s b d true hA hlt hs hd (by omega)).mono ?_
            intro e w1 hpost
            generalize hRD : dollarF m d true (s.data.toList.drop (b + 1)) = RD at hpost HL
            have HD2 := Lib.hid (HD1.out RD hRD); clear HD1 hRD
            cases RD with
            | err left code =>
              obtain ⟨k, hk', hl, rfl, hC1⟩ := hpost
              refine ⟨rfl, ?_⟩
              rw [← HD2.out]
              exact ⟨k, hk', hl, rfl, (hC.drewN _).trans hC1 (fun _ h _ => h.elim .inl (fun h => h.elim))⟩
            | ok p rest =>
              obtain ⟨v1, k, rfl, hk', rfl, ⟨cs, rfl, hrep⟩, hA1, hC1⟩ := hpost
              have hL := HL.out p _ rfl
              rw [drop_len, drop_len] at hL
              have hz0 := hC.size
              have hO1 : Own w1 (fun j => S j ∨ w.heap.size ≤ j) 32 5 u1 (Part.ds l') := hO'.stay (((Chg.refl (fun j => j = g ∨ False) _).drewN _).trans hC1 (fun _ h _ => h)) (fun k hk e => e.elim (hSg k hk) id)
              have hub : ∀ j, some j = u1.ownBlock → j < wr.heap.size := fun j e => Own.lt hO' e.symm
              go_wp2_with fail
              refine (add_calls w1 _ _ u1 l' p cs hO1 hrep (fun j hj hl => ⟨.inr (by simp at hj; omega), fun e => by have := hub j e; simp at hj; omega⟩) (by omega)).mono ?_
              rintro e w2 ⟨v2, rfl, hO2, hC2, hat2⟩
              have hz1 : wr.heap.size ≤ w1.heap.size := hC1.size
              have hz2 := hC2.size
              have hne : ¬ some g = u1.ownBlock := fun e => hugb g e.symm rfl
              have haw := add_wt l' p
              have hC02 : Chg (fun j => j = g ∨ some j = v.ownBlock) w w2 := ((hC.drewN _).trans hC1 (fun _ h _ => h.elim .inl (fun h => h.elim))).trans hC2 (fun j e hl => by
                rcases hat with h | ⟨b', h, hle⟩
                · exact .inr (e.trans h)
                · rw [h] at e; cases e; omega)
              have hat' : AtOr v v2 w := by
                rcases hat2 with h | ⟨b', h, hle⟩
                · rcases hat with h' | ⟨b', h', hle⟩
                  · exact .inl (h.trans h')
                  · exact .inr ⟨b', h.trans h', hle⟩
                · exact .inr ⟨b', h, by omega⟩
              have hO2' := hO2.mono (S' := fun j => S j ∨ w.heap.size ≤ j) (fun j h _ => h.elim id (fun h => .inr (by omega)))
              have hA2 := hA1.chg hC2 hne
              clear hub hO1 hrep
              go_wp2
              go_roundg m
              case measure => omega
              case rel => exact ⟨by omega, k, _, hA2, by omega, hk', by omega, hO2', hat', hC02, by omega, HD2.out⟩
          case false =>
            rw [h36] at hq36
            cases h92 : c == 92 && dblEsc (s.data.toList.drop (b + 1))
            case true =>
              simp only [Bool.and_eq_true] at h92
              obtain ⟨h92, hesc⟩ := h92
              rw [h92] at hq92
              have hl1 : b + 1 < s.size := by
                by_cases hh : b + 1 < s.size
                · exact hh
                · rw [drop_end s _ hh] at hesc; cases hesc
              have hix := indexByte_neg dblq s[b + 1]
              have hdb : dblq.contains s[b + 1] = true := by rw [byte_drop s _ hl1] at hesc; exact hesc
              rw [hdb] at hix
              have hix' : decide (0 ≤ Lib.indexByte [36, 34, 92, 96, 10] s[b + 1]) = true := hix
              have HESC := Lib.hid hesc; clear hesc hix hdb
              have r0 : (0 : Int) ≤ (b : Int) + 1 := by omega
              have r1 : (b : Int) + 1 < (s.size : Int) := by omega
              go_wp2
              have hwr : IntKind.i64.wrap ((b : Int) + 1) = (b : Int) + 1 := IntWalk.i64_in _ (by omega)
              have r2 : ((b : Int) + 1).toNat = b + 1 := by omega
              go_quiet ((go_at_call 23; exact (Tryd.strings_IndexByte _ _ _).mono (fun _ _ hh => ⟨hh.1, _, hh.2⟩)))
              clear hwr
              go_wp2_with fail
              have HD1 : Hid (∀ RD, escape l' (s.data.toList.drop b) = RD → (match RD with | .ok l1 r' => doubleF m d (s.size - a) l1 r' | .err a e => .err a e) = R) := Lib.hid (by
                rintro RD rfl
                rw [← HK.out, HD.out, HCONS.out, if_neg (by simp [h34]), if_neg (by simp [h96]), if_neg (by simp [h36]), if_pos (by rw [h92, HESC.out]; rfl)])
              have HL := Lib.hid (escape_len l')
              refine (escape_calls g s b d (fun j => S j ∨ w.heap.size ≤ j) u1 l' (wr.drewN _) hA hlt hs (hO'.stay ((Chg.refl (fun _ => False) _).drewN _) (fun _ _ e => e)) (fun e => hSg g e rfl) (by omega)).mono ?_
              intro e w1 hpost
              generalize hRD : escape l' (s.data.toList.drop b) = RD at hpost
              have HD2 := Lib.hid (HD1.out RD hRD); clear HD1
              have HRD := Lib.hid hRD; clear hRD
              cases RD with
              | err left code =>
                obtain ⟨k, hk', hl, rfl, hC1⟩ := hpost
                refine ⟨rfl, ?_⟩
                rw [← HD2.out]
                exact ⟨k, hk', hl, rfl, (hC.drewN _).trans hC1 (fun j e hl => by
                  rcases e with e | e
                  · exact .inl e
                  · rcases hat with h | ⟨b', h, hle⟩
                    · exact .inr (e.trans h)
                    · rw [h] at e; cases e; omega)⟩
              | ok l1 rest =>
                obtain ⟨v2, k, rfl, hk', rfl, ⟨hO2, hat2⟩, hA2, hC2⟩ := hpost
                have hL := HL.out _ _ _ HRD.out
                rw [drop_len, drop_len] at hL
                have hz0 := hC.size
                have hat' : AtOr v v2 w := by
                  rcases hat2 with h | ⟨b', h, hle⟩
                  · rcases hat with h' | ⟨b', h', hle⟩
                    · exact .inl (h.trans h')
                    · exact .inr ⟨b', h.trans h', hle⟩
                  · exact .inr ⟨b', h, Nat.le_trans hz0 hle⟩
                have hC02 : Chg (fun j => j = g ∨ some j = v.ownBlock) w w1 := (hC.drewN _).trans hC2 (fun j e hl => by
                  rcases e with e | e
                  · exact .inl e
                  · rcases hat with h | ⟨b', h, hle⟩
                    · exact .inr (e.trans h)
                    · rw [h] at e; cases e; omega)
                have hO2' := hO2.mono (S' := fun j => S j ∨ w.heap.size ≤ j) (fun j h _ => h.elim id (fun h => .inr (Nat.le_trans hz0 h)))
                clear hO2
                go_wp2
                go_roundg m
                case measure => omega
                case rel => exact ⟨by omega, k, _, hA2, by omega, hk', by omega, hO2', hat', hC02, by omega, HD2.out⟩
            case false =>
              have HNEXT : Hid (doubleF m d (s.size - a) (add l' (lit [c] true)) (s.data.toList.drop (b + 1)) = R) := Lib.hid (by
                rw [← HK.out, HD.out, HCONS.out, if_neg (by simp [h34]), if_neg (by simp [h96]), if_neg (by simp [h36]), if_neg (by rw [h92]; simp)])
              clear HD HCONS HK
              have hwr : IntKind.i64.wrap ((b : Int) + 1) = (b : Int) + 1 := IntWalk.i64_in _ (by omega)
              cases hc92 : c == 92
              case false =>
                rw [hc92] at hq92
                go_wp2
                go_quiet ((go_at_call 23; exact (Tryd.strings_IndexByte _ _ _).mono (fun _ _ hh => ⟨hh.1, _, hh.2⟩)))
                go_wp2_with fail
                have hne : ¬ some g = u1.ownBlock := fun e => hugb g e.symm rfl
                have r3 : (b : Int) ≤ (b : Int) + 1 := by omega
                have r4 : (b : Int) + 1 ≤ (s.size : Int) := by omega
                go_region_held3 (fun w' => w'.cell? ⟨g, 0, none⟩ = some (.string s) ∧ w'.cell? ⟨g, 1, none⟩ = some (.int .i64 b))
                  (first
                    | go_keep
                    | (go_split_ands; exact ⟨(Chg.of_below hb1').cell (by assumption) (fun e => e), (Chg.of_below hb1').cell (by assumption) (fun e => e)⟩)
                    | (go_split_ands; exact ⟨hC2.cell (by assumption) hne, hC2.cell (by assumption) hne⟩))
                  (first
                    | (go_at_call 26; refine (lit_calls _ _ _).mono ?_; rintro e w1 ⟨rfl, hb1'⟩)
                    | (go_at_call 25; refine (add_calls _ (fun j => S j ∨ w.heap.size ≤ j) (fun _ => False) u1 l' (lit [c] true) [.int .i64 1, .bool true, .string (bstr [c]), .string ⟨#[]⟩, .slice none 0 0] ((hO'.stay ((Chg.refl (fun _ => False) _).drewN _) (fun _ _ e => e)).stay (Chg.of_below hb1') (fun _ _ e => e)) (lit_rep _ [c] true) (fun _ h => h.elim) (by rw [lit_wt]; simp; omega)).mono ?_; rintro e w2 ⟨v2, rfl, hO2, hC2, hat2⟩))
                have hz0 := hC.size
                have hz1 : wr.heap.size ≤ w1.heap.size := hb1'.size
                have hz2 := hC2.size
                have hA1 : ScanAt w1 g s (b : Nat) d := ScanAt.chg (w := wr.drewN _) hA (Chg.of_below hb1') (fun e => e)
                have hA2 := hA1.chg hC2 hne
                obtain ⟨j0, j1, j2, jf1, _, jgl⟩ := hA2.cells
                have haw := add_wt l' (lit [c] true)
                rw [lit_wt, List.length_singleton] at haw
                have hC02 : Chg (fun j => j = g ∨ some j = v.ownBlock) w w2 := ((hC.drewN _).trans (Chg.of_below hb1') (fun _ h _ => h.elim)).trans hC2 (fun j e hl => by
                  rcases hat with h | ⟨b', h, hle⟩
                  · exact .inr (e.trans h)
                  · rw [h] at e; cases e; omega)
                have hat' : AtOr v v2 w := by
                  rcases hat2 with h | ⟨b', h, hle⟩
                  · rcases hat with h' | ⟨b', h', hle⟩
                    · exact .inl (h.trans h')
                    · exact .inr ⟨b', h.trans h', hle⟩
                  · exact .inr ⟨b', h, by omega⟩
                have hO2' := (hO2.mono (S' := fun j => S j ∨ w.heap.size ≤ j) (fun j h _ => h.elim id (fun h => .inr (by omega)))).stay (((Chg.refl (· = g) _)).setCell (p := ⟨g, 1, none⟩) (fun _ => rfl) (.int .i64 ((b : Int) + 1))) hSg
                have hA3 := hA2.at' ((b : Int) + 1)
                have HC03 := hC02.setCell (p := ⟨g, 1, none⟩) (fun _ => .inl rfl) (.int .i64 ((b : Int) + 1))
                clear hO2 hA1
                go_wp2
                go_roundg m
                case measure => omega
                case rel => exact ⟨by omega, b + 1, _, hA3, by omega, by omega, by omega, hO2', hat', HC03, by omega, HNEXT.out⟩
              case true =>
                rw [hc92] at hq92 h92
                by_cases hl1 : b + 1 < s.size
                · have hesc : dblEsc (s.data.toList.drop (b + 1)) = false := by simpa using h92
                  have hix := indexByte_neg dblq s[b + 1]
                  have hdb : dblq.contains s[b + 1] = false := by rw [byte_drop s _ hl1] at hesc; exact hesc
                  rw [hdb] at hix
                  have hix' : decide (0 ≤ Lib.indexByte [36, 34, 92, 96, 10] s[b + 1]) = false := hix
                  have HESC := Lib.hid hesc; clear hesc hix hdb
                  have r0 : (0 : Int) ≤ (b : Int) + 1 := by omega
                  have r1 : (b : Int) + 1 < (s.size : Int) := by omega
                  have r2 : ((b : Int) + 1).toNat = b + 1 := by omega
                  go_wp2
                  go_quiet ((go_at_call 23; exact (Tryd.strings_IndexByte _ _ _).mono (fun _ _ hh => ⟨hh.1, _, hh.2⟩)))
                  go_wp2_with fail
                  have hne : ¬ some g = u1.ownBlock := fun e => hugb g e.symm rfl
                  have r3 : (b : Int) ≤ (b : Int) + 1 := by omega
                  have r4 : (b : Int) + 1 ≤ (s.size : Int) := by omega
                  go_region_held3 (fun w' => w'.cell? ⟨g, 0, none⟩ = some (.string s) ∧ w'.cell? ⟨g, 1, none⟩ = some (.int .i64 b))
                    (first
                      | go_keep
                      | (go_split_ands; exact ⟨(Chg.of_below hb1').cell (by assumption) (fun e => e), (Chg.of_below hb1').cell (by assumption) (fun e => e)⟩)
                      | (go_split_ands; exact ⟨hC2.cell (by assumption) hne, hC2.cell (by assumption) hne⟩))
                    (first
                      | (go_at_call 26; refine (lit_calls _ _ _).mono ?_; rintro e w1 ⟨rfl, hb1'⟩)
                      | (go_at_call 25; refine (add_calls _ (fun j => S j ∨ w.heap.size ≤ j) (fun _ => False) u1 l' (lit [c] true) [.int .i64 1, .bool true, .string (bstr [c]), .string ⟨#[]⟩, .slice none 0 0] ((hO'.stay ((Chg.refl (fun _ => False) _).drewN _) (fun _ _ e => e)).stay (Chg.of_below hb1') (fun _ _ e => e)) (lit_rep _ [c] true) (fun _ h => h.elim) (by rw [lit_wt]; simp; omega)).mono ?_; rintro e w2 ⟨v2, rfl, hO2, hC2, hat2⟩))
                  have hz0 := hC.size
                  have hz1 : wr.heap.size ≤ w1.heap.size := hb1'.size
                  have hz2 := hC2.size
                  have hA1 : ScanAt w1 g s (b : Nat) d := ScanAt.chg (w := wr.drewN _) hA (Chg.of_below hb1') (fun e => e)
                  have hA2 := hA1.chg hC2 hne
                  obtain ⟨j0, j1, j2, jf1, _, jgl⟩ := hA2.cells
                  have haw := add_wt l' (lit [c] true)
                  rw [lit_wt, List.length_singleton] at haw
                  have hC02 : Chg (fun j => j = g ∨ some j = v.ownBlock) w w2 := ((hC.drewN _).trans (Chg.of_below hb1') (fun _ h _ => h.elim)).trans hC2 (fun j e hl => by
                    rcases hat with h | ⟨b', h, hle⟩
                    · exact .inr (e.trans h)
                    · rw [h] at e; cases e; omega)
                  have hat' : AtOr v v2 w := by
                    rcases hat2 with h | ⟨b', h, hle⟩
                    · rcases hat with h' | ⟨b', h', hle⟩
                      · exact .inl (h.trans h')
                      · exact .inr ⟨b', h.trans h', hle⟩
                    · exact .inr ⟨b', h, by omega⟩
                  have hO2' := (hO2.mono (S' := fun j => S j ∨ w.heap.size ≤ j) (fun j h _ => h.elim id (fun h => .inr (by omega)))).stay (((Chg.refl (· = g) _)).setCell (p := ⟨g, 1, none⟩) (fun _ => rfl) (.int .i64 ((b : Int) + 1))) hSg
                  have hA3 := hA2.at' ((b : Int) + 1)
                  have HC03 := hC02.setCell (p := ⟨g, 1, none⟩) (fun _ => .inl rfl) (.int .i64 ((b : Int) + 1))
                  clear hO2 hA1
                  go_wp2
                  go_roundg m
                  case measure => omega
                  case rel => exact ⟨by omega, b + 1, _, hA3, by omega, by omega, by omega, hO2', hat', HC03, by omega, HNEXT.out⟩
                · have r1 : decide ((b : Int) + 1 < (s.size : Int)) = false := by simp; omega
                  go_wp2
                  go_quiet ((go_at_call 23; exact (Tryd.strings_IndexByte _ _ _).mono (fun _ _ hh => ⟨hh.1, _, hh.2⟩)))
                  go_wp2_with fail
                  have hne : ¬ some g = u1.ownBlock := fun e => hugb g e.symm rfl
                  have r3 : (b : Int) ≤ (b : Int) + 1 := by omega
                  have r4 : (b : Int) + 1 ≤ (s.size : Int) := by omega
                  go_region_held3 (fun w' => w'.cell? ⟨g, 0, none⟩ = some (.string s) ∧ w'.cell? ⟨g, 1, none⟩ = some (.int .i64 b))
                    (first
                      | go_keep
                      | (go_split_ands; exact ⟨(Chg.of_below hb1').cell (by assumption) (fun e => e), (Chg.of_below hb1').cell (by assumption) (fun e => e)⟩)
                      | (go_split_ands; exact ⟨hC2.cell (by assumption) hne, hC2.cell (by assumption) hne⟩))
                    (first
                      | (go_at_call 26; refine (lit_calls _ _ _).mono ?_; rintro e w1 ⟨rfl, hb1'⟩)
                      | (go_at_call 25; refine (add_calls _ (fun j => S j ∨ w.heap.size ≤ j) (fun _ => False) u1 l' (lit [c] true) [.int .i64 1, .bool true, .string (bstr [c]), .string ⟨#[]⟩, .slice none 0 0] ((hO'.stay ((Chg.refl (fun _ => False) _).drewN _) (fun _ _ e => e)).stay (Chg.of_below hb1') (fun _ _ e => e)) (lit_rep _ [c] true) (fun _ h => h.elim) (by rw [lit_wt]; simp; omega)).mono ?_; rintro e w2 ⟨v2, rfl, hO2, hC2, hat2⟩))
                  have hz0 := hC.size
                  have hz1 : wr.heap.size ≤ w1.heap.size := hb1'.size
                  have hz2 := hC2.size
                  have hA1 : ScanAt w1 g s (b : Nat) d := ScanAt.chg (w := wr.drewN _) hA (Chg.of_below hb1') (fun e => e)
                  have hA2 := hA1.chg hC2 hne
                  obtain ⟨j0, j1, j2, jf1, _, jgl⟩ := hA2.cells
                  have haw := add_wt l' (lit [c] true)
                  rw [lit_wt, List.length_singleton] at haw
                  have hC02 : Chg (fun j => j = g ∨ some j = v.ownBlock) w w2 := ((hC.drewN _).trans (Chg.of_below hb1') (fun _ h _ => h.elim)).trans hC2 (fun j e hl => by
                    rcases hat with h | ⟨b', h, hle⟩
                    · exact .inr (e.trans h)
                    · rw [h] at e; cases e; omega)
                  have hat' : AtOr v v2 w := by
                    rcases hat2 with h | ⟨b', h, hle⟩
                    · rcases hat with h' | ⟨b', h', hle⟩
                      · exact .inl (h.trans h')
                      · exact .inr ⟨b', h.trans h', hle⟩
                    · exact .inr ⟨b', h, by omega⟩
                  have hO2' := (hO2.mono (S' := fun j => S j ∨ w.heap.size ≤ j) (fun j h _ => h.elim id (fun h => .inr (by omega)))).stay (((Chg.refl (· = g) _)).setCell (p := ⟨g, 1, none⟩) (fun _ => rfl) (.int .i64 ((b : Int) + 1))) hSg
                  have hA3 := hA2.at' ((b : Int) + 1)
                  have HC03 := hC02.setCell (p := ⟨g, 1, none⟩) (fun _ => .inl rfl) (.int .i64 ((b : Int) + 1))
                  clear hO2 hA1
                  go_wp2
                  go_roundg m
                  case measure => omega
                  case rel => exact ⟨by omega, b + 1, _, hA3, by omega, by omega, by omega, hO2', hat', HC03, by omega, HNEXT.out⟩
    · have q1 : decide ((b : Int) < (s.size : Int)) = false := by simp; omega
      obtain ⟨m, rfl⟩ : ∃ m, gk = m + 1 := ⟨gk - 1, by omega⟩
      go_wp2
      go_quiet (fail)
      go_wp2_with (go_at_call 24; refine (fail_calls _ _ _ _).mono ?_; rintro e w1 ⟨rfl, rfl⟩)
      refine ⟨rfl, ?_⟩
      rw [← HK.out, drop_end s b hlt, double_nil]
      exact ⟨a, by omega, by omega, rfl, hC.drewN _⟩
end Go.Proofs.YtdfnkmiabmjolaaDoor
namespace Go.Proofs.YtdfnkmiabmjolaaDoor
open Go.RowKit
set_option linter.unusedVariables false
set_option linter.unusedSimpArgs false

theorem lenB_is (l : Bytes) : lenB l = (isAt l 0 35 && decide (1 < l.length) && !isAt l 1 125) := by
  unfold isAt
  match l with
  | [] => rfl
  | [c] => simp [lenB]
  | c :: e :: r =>
    by_cases hc : c = 35
    · subst hc; simp [lenB, bne]
    · have : lenB (c :: e :: r) = false := by
        unfold lenB
        split
        · rename_i h; cases h; exact absurd rfl hc
        · rfl
      rw [this]
      simp [hc]

set_option maxRecDepth 100000 in
set_option maxHeartbeats 8000000 in
theorem param_deep (n : Nat) (w : World) (g : Nat) (s : ByteArray) (a d : Nat) (q : Bool) (h : ScanAt w g s a d) (ha : a + 2 ≤ s.size) (hs : s.size ≤ 8192) (hd : d ≤ 16) (hdeep : 16 < d + 1) :
    Calls Tryd.prog 39 #[.pointer (some ⟨g, 0, none⟩), .bool q] w (ScanPost w g s d (paramF (n + 1) d q (s.data.toList.drop (a + 2))) (fun _ => False) (PartVal w)) := by
  have hE : paramF (n + 1) d q (s.data.toList.drop (a + 2)) = .err (s.size - a) 63 := by
    rw [paramF, if_pos hdeep, drop_len]; congr 1; omega
  rw [hE]
  clear hE
  obtain ⟨h0, h1, h2, f1, f2, hgl⟩ := h.cells
  have e1 : decide ((16 : Int) < (d : Int) + 1) = true := by simp; omega
  go_enter Tryd.func39, Tryd.ntmps39
  go_wp2_with (go_at_call 24; refine (fail_calls _ _ _ _).mono ?_; rintro e w1 ⟨rfl, rfl⟩)
  exact ⟨rfl, a, by omega, rfl, rfl, ((Chg.refl (fun j => j = g ∨ False) _).setCell (fun _ => .inl rfl) _).alloc _⟩

/-- Midway: the scanner, what is handed back (not yet written) and the part that is built. -/
structure ParAt (w wr : World) (g : Nat) (s : ByteArray) (b d : Nat) (q : Bool) (tx op : ByteArray) (v : Value) : Prop where
  scan : ScanAt wr g s b d
  res : wr.heap[w.heap.size]? = some (.cells #[.int .i64 0, .bool false, .string ⟨#[]⟩, .string ⟨#[]⟩, .slice none 0 0] 32)
  part : wr.heap[w.heap.size + 1]? = some (.cells #[.int .i64 2, .bool q, .string tx, .string op, v] 32)
  chg : Chg (fun j => j = g ∨ False) w wr
  old : g < w.heap.size

section
variable {w wr w' : World} {g : Nat} {s : ByteArray} {b d : Nat} {q : Bool} {tx op : ByteArray} {v : Value}
theorem ParAt.drewN (h : ParAt w wr g s b d q tx op v) (n : Nat) : ParAt w (wr.drewN n) g s b d q tx op v := ⟨h.scan, h.res, h.part, h.chg.drewN n, h.old⟩
theorem ParAt.at' (h : ParAt w wr g s b d q tx op v) (b' : Nat) : ParAt w (wr.setCell ⟨g, 1, none⟩ (.int .i64 b')) g s b' d q tx op v :=
  ⟨h.scan.at' _, row_far h.res (fun e => Nat.lt_irrefl _ (e ▸ h.old)) _, row_far h.part (fun e => absurd h.old (by simp at e; omega)) _, h.chg.setCell (fun _ => .inl rfl) _, h.old⟩
theorem ParAt.deep' (h : ParAt w wr g s b d q tx op v) (d' : Nat) : ParAt w (wr.setCell ⟨g, 2, none⟩ (.int .i64 d')) g s b d' q tx op v :=
  ⟨h.scan.deep' _, row_far h.res (fun e => Nat.lt_irrefl _ (e ▸ h.old)) _, row_far h.part (fun e => absurd h.old (by simp at e; omega)) _, h.chg.setCell (fun _ => .inl rfl) _, h.old⟩
theorem ParAt.far (h : ParAt w wr g s b d q tx op v) (j : Nat) (u : Value) : ScanAt (wr.setCell ⟨w.heap.size + 1, j, none⟩ u) g s b d ∧ (wr.setCell ⟨w.heap.size + 1, j, none⟩ u).heap[w.heap.size]? = some (.cells #[.int .i64 0, .bool false, .string ⟨#[]⟩, .string ⟨#[]⟩, .slice none 0 0] 32) ∧ Chg (fun j => j = g ∨ False) w (wr.setCell ⟨w.heap.size + 1, j, none⟩ u) :=
  ⟨row_far h.scan (fun e => Nat.lt_irrefl _ (Nat.lt_of_succ_lt (e ▸ h.old))) _, row_far h.res (by simp) _, h.chg.setCell (fun h => absurd h (by simp)) _⟩
theorem ParAt.text (h : ParAt w wr g s b d q tx op v) (tx' : ByteArray) : ParAt w (wr.setCell ⟨w.heap.size + 1, 2, none⟩ (.string tx')) g s b d q tx' op v :=
  ⟨(h.far _ _).1, (h.far _ _).2.1, row_set h.part _ _, (h.far _ _).2.2, h.old⟩
theorem ParAt.op' (h : ParAt w wr g s b d q tx op v) (op' : ByteArray) : ParAt w (wr.setCell ⟨w.heap.size + 1, 3, none⟩ (.string op')) g s b d q tx op' v :=
  ⟨(h.far _ _).1, (h.far _ _).2.1, row_set h.part _ _, (h.far _ _).2.2, h.old⟩
theorem ParAt.word (h : ParAt w wr g s b d q tx op v) (v' : Value) : ParAt w (wr.setCell ⟨w.heap.size + 1, 4, none⟩ v') g s b d q tx op v' :=
  ⟨(h.far _ _).1, (h.far _ _).2.1, row_set h.part _ _, (h.far _ _).2.2, h.old⟩
theorem ParAt.step (h : ParAt w wr g s b d q tx op v) {b' : Nat} (hA : ScanAt w' g s b' d) (hC : Chg (fun j => j = g ∨ False) wr w') : ParAt w w' g s b' d q tx op v :=
  ⟨hA, row_chg h.res hC (fun e => e.elim (fun e => Nat.lt_irrefl _ (e ▸ h.old)) id), row_chg h.part hC (fun e => e.elim (fun e => Nat.lt_irrefl _ (Nat.lt_of_succ_lt (e ▸ h.old))) id), h.chg.trans hC (fun _ h _ => h), h.old⟩
theorem ParAt.step0 (h : ParAt w wr g s b d q tx op v) (hC : Chg (fun _ => False) wr w') : ParAt w w' g s b d q tx op v := h.step (h.scan.chg hC (fun e => e)) (hC.mono (fun _ h _ => h.elim))
theorem ParAt.start (h : ScanAt w g s b d) (q : Bool) (b' d' : Nat) :
    ParAt w ((((w.setCell ⟨g, 2, none⟩ (.int .i64 d')).setCell ⟨g, 1, none⟩ (.int .i64 b')).alloc (.cells #[.int .i64 0, .bool false, .string ⟨#[]⟩, .string ⟨#[]⟩, .slice none 0 0] 32)).alloc (.cells #[.int .i64 2, .bool q, .string ⟨#[]⟩, .string ⟨#[]⟩, .slice none 0 0] 32)) g s b' d' q ⟨#[]⟩ ⟨#[]⟩ (.slice none 0 0) := by
  refine ⟨row_alloc (row_alloc ((h.deep' _).at' _) _) _, row_alloc ?_ _, ?_, ((((Chg.refl _ _).setCell (fun _ => .inl rfl) _).setCell (fun _ => .inl rfl) _).alloc _).alloc _, h.cells.2.2.2.2.2⟩
  · have := row_new ((w.setCell ⟨g, 2, none⟩ (.int .i64 d')).setCell ⟨g, 1, none⟩ (.int .i64 b')) (.cells #[.int .i64 0, .bool false, .string ⟨#[]⟩, .string ⟨#[]⟩, .slice none 0 0] 32)
    simpa using this
  · have := row_new (((w.setCell ⟨g, 2, none⟩ (.int .i64 d')).setCell ⟨g, 1, none⟩ (.int .i64 b')).alloc (.cells #[.int .i64 0, .bool false, .string ⟨#[]⟩, .string ⟨#[]⟩, .slice none 0 0] 32)) (.cells #[.int .i64 2, .bool q, .string ⟨#[]⟩, .string ⟨#[]⟩, .slice none 0 0] 32)
    simpa using this
end

theorem ScanAt.drewN {w : World} {g : Nat} {s : ByteArray} {a d : Int} (h : ScanAt w g s a d) (n : Nat) : ScanAt (w.drewN n) g s a d := h
section
variable (g : Nat) (s : ByteArray) (a : Nat) (d : Int) (w : World) (h : ScanAt w g s a d) (ha : a ≤ s.size) (hs : s.size ≤ 8192)
include h ha hs
theorem is_hash (b : Bool) (hb : isAt (s.data.toList.drop a) 0 35 = b) : Calls Tryd.prog 51 #[.pointer (some ⟨g, 0, none⟩), .int .i64 0, .int .u8 35] w fun e w' => e = .returned (.bool b) ∧ ∃ m, w' = w.drewN m :=
  (is_calls g s a d 0 35 w h ha hs (by decide)).mono fun _ _ hh => ⟨by rw [← hb]; exact hh.1, hh.2.imp fun _ e => e.symm⟩
theorem is_brace (b : Bool) (hb : isAt (s.data.toList.drop a) 0 125 = b) : Calls Tryd.prog 51 #[.pointer (some ⟨g, 0, none⟩), .int .i64 0, .int .u8 125] w fun e w' => e = .returned (.bool b) ∧ ∃ m, w' = w.drewN m :=
  (is_calls g s a d 0 125 w h ha hs (by decide)).mono fun _ _ hh => ⟨by rw [← hb]; exact hh.1, hh.2.imp fun _ e => e.symm⟩
theorem is_brace1 (b : Bool) (hb : isAt (s.data.toList.drop a) 1 125 = b) : Calls Tryd.prog 51 #[.pointer (some ⟨g, 0, none⟩), .int .i64 1, .int .u8 125] w fun e w' => e = .returned (.bool b) ∧ ∃ m, w' = w.drewN m :=
  (is_calls g s a d 1 125 w h ha hs (by decide)).mono fun _ _ hh => ⟨by rw [← hb]; exact hh.1, hh.2.imp fun _ e => e.symm⟩
end

theorem par_q (t : ByteArray) (k : Nat) (w : World) (ht : t.size ≤ 8192) (hk : parameter t.data.toList = k) : Calls Tryd.prog 52 #[.string t] w fun e w' => e = .returned (.int .i64 (k : Nat)) ∧ w' = w :=
  (parameter_calls t w (by omega)).mono fun _ _ hh => ⟨by rw [← hk]; exact hh.1, hh.2.symm⟩
set_option maxRecDepth 100000 in
set_option maxHeartbeats 400000 in
theorem param_len (n : Nat) (IH : WordSaid n) (w : World) (g : Nat) (s : ByteArray) (a d : Nat) (q : Bool) (h : ScanAt w g s a d) (ha : a + 2 ≤ s.size) (hs : s.size ≤ 8192) (hd : ¬ 16 < d + 1) (hlen : lenB (s.data.toList.drop (a + 2)) = true) :
    Calls Tryd.prog 39 #[.pointer (some ⟨g, 0, none⟩), .bool q] w (ScanPost w g s d (paramF (n + 1) d q (s.data.toList.drop (a + 2))) (fun _ => False) (PartVal w)) := by
  generalize hR : paramF (n + 1) d q (s.data.toList.drop (a + 2)) = R
  rw [paramF, if_neg hd, hlen, if_pos rfl, drop_len, List.drop_drop] at hR
  have HR := Lib.hid hR; clear hR
  rw [lenB_is, drop_len] at hlen
  simp only [Bool.and_eq_true, decide_eq_true_eq, Bool.not_eq_true'] at hlen
  obtain ⟨⟨i0, hlt⟩, i1⟩ := hlen
  obtain ⟨h0, h1, h2, f1, f2, hgl⟩ := h.cells
  have e1 : decide ((16 : Int) < (d : Int) + 1) = false := by simp; omega
  have kP := ParAt.start h q (a + 2) (d + 1)
  have e2 : (a : Int) + 2 + 1 < (s.size : Int) := by omega
  have e3 : (a : Int) + 3 < (s.size : Int) := by omega
  go_enter Tryd.func39, Tryd.ntmps39
  go_wp2
  simp only [Int.natCast_add, Int.cast_ofNat_Int] at kP
  revert kP
  generalize (((w.setCell ⟨g, 2, none⟩ (.int .i64 ((d : Int) + 1))).setCell ⟨g, 1, none⟩ (.int .i64 ((a : Int) + 2))).alloc (.cells #[.int .i64 0, .bool false, .string ⟨#[]⟩, .string ⟨#[]⟩, .slice none 0 0] 32)).alloc (.cells #[.int .i64 2, .bool q, .string ⟨#[]⟩, .string ⟨#[]⟩, .slice none 0 0] 32) = wr
  intro kP
  clear h0 h1 h2 f1 f2 hgl h
  have hA : ScanAt wr g s ((a + 2 : Nat) : Int) ((d : Int) + 1) := kP.scan
  obtain ⟨h0, h1, h2, f1, f2, hgl⟩ := kP.scan.cells
  have kcl := row_cells kP.part
  have kfr := row_free kP.part
  have kcl0 := row_cells kP.res
  have kfr0 := row_free kP.res
  have hsz := row_lt kP.part
  have hgo := kP.old
  have hn1 : ¬ w.heap.size + 1 = g := by omega
  have hn2 : ¬ g = w.heap.size + 1 := by omega
  have hn3 : ¬ w.heap.size = g := by omega
  have hn4 : ¬ g = w.heap.size := by omega
  have KP := Lib.hid kP; clear kP
  go_quiet ((go_at_call 51; first | with_reducible exact (is_hash g s (a + 2) _ _ (hA.drewN _) ha hs _ i0).quiet_of | with_reducible exact (is_brace1 g s (a + 2) _ _ (hA.drewN _) ha hs _ i1).quiet_of))
  go_wp2
  have kP : ParAt w (((wr.drewN nq).setCell ⟨w.heap.size + 1, 3, none⟩ (.string ⟨#[108, 101, 110]⟩)).setCell ⟨g, 1, none⟩ (.int .i64 ((a : Int) + 2 + 1))) g s (a + 3) (d + 1) q ⟨#[]⟩ ⟨#[108, 101, 110]⟩ (.slice none 0 0) := ((KP.out.drewN nq).op' ⟨#[108, 101, 110]⟩).at' (a + 3)
  clear h0 h1 h2 f1 f2 hgl kcl kfr kcl0 kfr0 hsz hgo hn1 hn2 hn3 hn4 KP
  revert kP
  generalize ((wr.drewN nq).setCell ⟨w.heap.size + 1, 3, none⟩ (.string ⟨#[108, 101, 110]⟩)).setCell ⟨g, 1, none⟩ (.int .i64 ((a : Int) + 2 + 1)) = wr2
  intro kP
  clear hA e2 e3 i0 i1 wr
  have hb0 : a + 3 ≤ s.size := by omega
  have hba : a + 2 ≤ a + 3 := by omega
  clear hlt
  revert kP HR hb0 hba
  rw [show a + 2 + 1 = a + 3 from rfl]
  generalize a + 3 = b
  intro HR kP hb0 hba
  obtain ⟨h0, h1, h2, f1, f2, hgl⟩ := kP.scan.cells
  have kcl := row_cells kP.part
  have kfr := row_free kP.part
  have kcl0 := row_cells kP.res
  have kfr0 := row_free kP.res
  have hsz := row_lt kP.part
  have hgo := kP.old
  have hn1 : ¬ w.heap.size + 1 = g := by omega
  have hn2 : ¬ g = w.heap.size + 1 := by omega
  have hn3 : ¬ w.heap.size = g := by omega
  have hn4 : ¬ g = w.heap.size := by omega
  have KP := Lib.hid kP; clear kP
  generalize hk : parameter (s.data.toList.drop b) = k at HR
  have hkle : b + k ≤ s.size := by have := parameter_le (s.data.toList.drop b); rw [hk, drop_len] at this; omega
  have HK := Lib.hid hk
  have HTP : Hid (parameter (s.extract b s.size).data.toList = k) := Lib.hid (by rw [Lib.extract_to_end]; exact hk)
  clear hk
  have p0 : (0 : Int) ≤ (b : Int) := by omega
  have p1 : (b : Int) ≤ (s.size : Int) := by omega
  have htz : (s.extract b s.size).size ≤ 8192 := by simp [ByteArray.size_extract]; omega
  go_quiet ((go_at_call 52; exact (par_q _ _ _ htz HTP.out).quiet_of_same))
  revert nq; intro nq1
  clear htz p1
  have hgood : (k == 0 || decide (k > 64)) = true ∨ (0 < k ∧ k ≤ 64) := by
    by_cases hh : 0 < k ∧ k ≤ 64
    · exact .inr hh
    · left; simp; omega
  rcases hgood with hbad | ⟨hk0, hk64⟩
  · have HRE : Hid (R = .err (s.size - b) 61) := Lib.hid (by rw [← HR.out, paramG, HK.out, if_pos hbad, drop_len])
    clear HR
    cases hk0 : k == 0
    case true =>
      obtain rfl : k = 0 := by simpa using hk0
      go_wp2_with (go_at_call 24; refine (fail_calls _ _ _ _).mono ?_; rintro e w1 ⟨rfl, rfl⟩)
      refine ⟨rfl, ?_⟩
      rw [HRE.out]
      exact ⟨b, by omega, rfl, rfl, KP.out.chg.drewN _⟩
    case false =>
      have hk1 : ((k : Int) == 0) = false := by simp at hk0 ⊢; omega
      have hk64 : decide ((64 : Int) < (k : Int)) = true := by rw [hk0] at hbad; simp at hbad ⊢; omega
      clear hk0 hbad
      go_wp2_with (go_at_call 24; refine (fail_calls _ _ _ _).mono ?_; rintro e w1 ⟨rfl, rfl⟩)
      refine ⟨rfl, ?_⟩
      rw [HRE.out]
      exact ⟨b, by omega, rfl, rfl, KP.out.chg.drewN _⟩
  · have HF : Hid (finish (s.size - a) q ((s.data.toList.drop b).take k) [108, 101, 110] (.ok [] (s.data.toList.drop (b + k))) = R) := Lib.hid (by
      rw [← HR.out, paramG, HK.out, if_neg (by simp; omega), show s.size - (a + 2) + 2 = s.size - a by omega]
      simp only [Bool.true_or, if_true, List.drop_drop])
    have hk1 : ((k : Int) == 0) = false := by simp; omega
    have hk2 : decide ((64 : Int) < (k : Int)) = false := by simp; omega
    have p1 : (b : Int) ≤ (b : Int) + (k : Int) := by omega
    have p3 : (0 : Int) ≤ (k : Int) := by omega
    have p4 : IntKind.i64.wrap ((b : Int) + (k : Int)) = (b : Int) + (k : Int) := IntWalk.i64_in _ (by omega)
    have p5 : ((b : Int) + (k : Int)).toNat = b + k := by omega
    have p2 : (b : Int) + (k : Int) ≤ (s.size : Int) := by omega
    have hxt := extract_bstr s b (b + k)
    rw [show b + k - b = k by omega] at hxt
    have HXT := Lib.hid hxt; clear hxt
    go_wp2
    refine still_tail2 16 (by kernel_rfl) (by kernel_rfl) ?_
    simp only [List.take_succ_cons, List.take_zero, List.drop_succ_cons, List.drop_zero]
    repeat still_step
    refine wpStill_nil ?_
    go_wp2
    revert HF
    generalize hO : ([108, 101, 110] : Bytes) = O
    intro HF
    have hOl : O.length ≤ 64 := by rw [← hO]; decide
    have HOB : Hid (⟨#[108, 101, 110]⟩ = bstr O) := Lib.hid (by rw [← hO]; rfl)
    clear hO
    have kP : ParAt w (((wr2.drewN (nq1 + 1)).setCell ⟨w.heap.size + 1, 2, none⟩ (.string (s.extract b (b + k)))).setCell ⟨g, 1, none⟩ (.int .i64 ((b : Int) + (k : Int)))) g s (b + k) (d + 1) q (s.extract b (b + k)) ⟨#[108, 101, 110]⟩ (.slice none 0 0) := ((KP.out.drewN (nq1 + 1)).text (s.extract b (b + k))).at' (b + k)
    clear h0 h1 h2 f1 f2 hgl kcl kfr kcl0 kfr0 hsz hgo hn1 hn2 hn3 hn4 KP
    revert kP
    generalize ((wr2.drewN (nq1 + 1)).setCell ⟨w.heap.size + 1, 2, none⟩ (.string (s.extract b (b + k)))).setCell ⟨g, 1, none⟩ (.int .i64 ((b : Int) + (k : Int))) = wr3
    intro kP
    clear p0 p1 p2 p3 p4 p5 hk1 hk2 HTP HK HR e1 wr2
    have hTl : ((s.data.toList.drop b).take k).length ≤ 64 := by simp; omega
    revert hTl
    revert kP
    revert HXT
    revert HF
    generalize s.extract b (b + k) = tx
    generalize (s.data.toList.drop b).take k = T
    obtain ⟨c, hc⟩ : ∃ c, c = b + k := ⟨_, rfl⟩
    rw [← hc] at hkle ⊢
    intro HF HXT kP hTl
    have hac : a + 3 ≤ c := by omega
    clear hc hba hb0 hk0 hk64
    obtain ⟨h0, h1, h2, f1, f2, hgl⟩ := kP.scan.cells
    have kcl := row_cells kP.part
    have kfr := row_free kP.part
    have kcl0 := row_cells kP.res
    have kfr0 := row_free kP.res
    have hsz := row_lt kP.part
    have hgo := kP.old
    have hn1 : ¬ w.heap.size + 1 = g := by omega
    have hn2 : ¬ g = w.heap.size + 1 := by omega
    have hn3 : ¬ w.heap.size = g := by omega
    have hn4 : ¬ g = w.heap.size := by omega
    have KP := Lib.hid kP; clear kP
    go_quiet (fail)
    generalize hl : ([] : List Part) = l at HF
    have HV : Rep wr3 (fun j => w.heap.size + 2 ≤ j) (.sl 32 5 (Part.ds l)) [.slice none 0 0] := by rw [← hl]; exact (Own.nil _ _ _ _).rep
    have hwl : Part.wts l ≤ 20000 := by rw [← hl]; simp [Part.wts]
    clear hl
    go_wp2
    have t0 : (0 : Int) ≤ (c : Int) := by omega
    go_quiet (fail)
    by_cases hend : c = s.size
    · have t1 : ((c : Int) == (s.size : Int)) = true := by simp; omega
      go_wp2_with (go_at_call 24; refine (fail_calls _ _ _ _).mono ?_; rintro e w1 ⟨rfl, rfl⟩)
      refine ⟨rfl, ?_⟩
      rw [← HF.out, drop_end s c (by omega)]
      exact ⟨a, by omega, rfl, rfl, ((KP.out.chg.drewN _).mono (fun _ h _ => h))⟩
    · have t1 : ((c : Int) == (s.size : Int)) = false := by simp; omega
      have hclt : c < s.size := by omega
      have hHB : isAt (s.data.toList.drop c) 0 125 = (s[c] == 125) := by rw [byte_drop s c hclt]; rfl
      have HFE : Hid (R = if s[c] == 125 then .ok (allB (.mk 2 q T O l) q) (s.data.toList.drop (c + 1)) else .err (s.size - c) 61) := Lib.hid (by
        rw [← HF.out, byte_drop s c hclt]
        simp only [finish, drop_len]
        split
        · rfl
        · rw [show s.size - (c + 1) + 1 = s.size - c by omega])
      clear HF
      have hA := KP.out.scan
      go_wp2_with fail
      cases hbr : s[c] == 125
      case false =>
        rw [hbr] at hHB
        refine Calls.mono (is_brace g s c _ _ (hA.drewN _) (by omega) hs _ hHB) ?_
        rintro e w' ⟨rfl, m, rfl⟩
        go_wp2_with (go_at_call 24; refine (fail_calls _ _ _ _).mono ?_; rintro e w1 ⟨rfl, rfl⟩)
        refine ⟨rfl, ?_⟩
        rw [HFE.out, hbr]
        exact ⟨c, by omega, rfl, rfl, KP.out.chg.drewN _⟩
      case true =>
        rw [hbr] at hHB
        refine Calls.mono (is_brace g s c _ _ (hA.drewN _) (by omega) hs _ hHB) ?_
        rintro e w' ⟨rfl, m, rfl⟩
        go_wp2_with fail
        have hrep : Rep wr3 (fun j => w.heap.size + 2 ≤ j) (Part.d (.mk 2 q T O l)) [.int .i64 2, .bool q, .string tx, .string ⟨#[108, 101, 110]⟩, (.slice none 0 0)] := part_rep.2 ⟨_, by rw [HXT.out, HOB.out], HV⟩
        refine (all_calls _ (fun j => w.heap.size + 2 ≤ j) (.mk 2 q T O l) q [.int .i64 2, .bool q, .string tx, .string ⟨#[108, 101, 110]⟩, (.slice none 0 0)] (by simp only [Part.wt]; omega) ?_).mono ?_
        · exact hrep.stay ((((Chg.refl (· = g) _).drewN _).setCell (fun _ => rfl) _).setCell (fun _ => rfl) _) (fun j h e => by omega)
        · rintro e w4 ⟨cs', rfl, hr', hC'⟩
          have kP4 : ParAt w w4 g s (c + 1) d q tx ⟨#[108, 101, 110]⟩ (.slice none 0 0) := ParAt.step0 (((KP.out.drewN _).at' (c + 1)).deep' d) hC'
          have hz : wr3.heap.size ≤ w4.heap.size := by simpa using hC'.size
          have HR1 : Hid (R = .ok (allB (.mk 2 q T O l) q) (s.data.toList.drop (c + 1))) := Lib.hid (by rw [HFE.out, if_pos hbr])
          clear HFE
          revert hr' HR1
          generalize allB (.mk 2 q T O l) q = pp
          obtain ⟨kd, qd, td, od, wd⟩ := pp
          intro hr' HR1
          obtain ⟨A', c', rfl, hwv, _, _⟩ := part_rep2 hr'
          have HREP := Lib.hid hr'; clear hr'
          clear h0 h1 h2 f1 f2 hgl kcl kfr kcl0 kfr0 KP hHB hbr hA
          have kcl0 := row_cells kP4.res
          have kfr0 := row_free kP4.res
          have hlt0 := row_lt kP4.res
          have KP := Lib.hid kP4; clear kP4
          go_wp2
          refine bodyPost_ret (v := .agg #[.int .i64 kd, .bool qd, .string (bstr td), .string (bstr od), .slice A' wd.length c']) (by simp [results, Tryd.results39, go_sem, kcl0]) rfl ?_
          rw [HR1.out]
          refine ⟨_, c + 1, rfl, hclt, rfl, ⟨_, rfl, ?_⟩, ?_, ?_⟩
          · refine (HREP.out.stay (((((((Chg.refl (fun j => j = w.heap.size) _).setCell (fun _ => rfl) _).setCell (fun _ => rfl) _).setCell (fun _ => rfl) _).setCell (fun _ => rfl) _).setCell (fun _ => rfl) _)) (fun j hj e => ?_)).mono (fun j hj _ => ?_)
            · simp at hj; omega
            · simp at hj; omega
          · exact row_far (row_far (row_far (row_far (row_far KP.out.scan hn4 _) hn4 _) hn4 _) hn4 _) hn4 _
          · exact ((((KP.out.chg.setCell (fun h => absurd h (by simp)) _).setCell (fun h => absurd h (by simp)) _).setCell (fun h => absurd h (by simp)) _).setCell (fun h => absurd h (by simp)) _).setCell (fun h => absurd h (by simp)) _
end Go.Proofs.YtdfnkmiabmjolaaDoor
namespace Go.Proofs.YtdfnkmiabmjolaaDoor
open Go.RowKit
set_option linter.unusedVariables false
set_option linter.unusedSimpArgs false


set_option maxRecDepth 100000 in
set_option maxHeartbeats 4000000 in
theorem param_op1 (n : Nat) (IH : WordSaid n) (w : World) (g : Nat) (s : ByteArray) (a d : Nat) (q : Bool) (h : ScanAt w g s a d) (ha : a + 2 ≤ s.size) (hs : s.size ≤ 8192) (hd : ¬ 16 < d + 1) (hf : 4 * (s.size - a) ≤ n + 1) (i0 : isAt (s.data.toList.drop (a + 2)) 0 35 = false) :
    Calls Tryd.prog 39 #[.pointer (some ⟨g, 0, none⟩), .bool q] w (ScanPost w g s d (paramF (n + 1) d q (s.data.toList.drop (a + 2))) (fun _ => False) (PartVal w)) := by
  generalize hR : paramF (n + 1) d q (s.data.toList.drop (a + 2)) = R
  have hlen : lenB (s.data.toList.drop (a + 2)) = false := by rw [lenB_is, drop_len]; simp [i0]
  rw [paramF, if_neg hd, hlen, if_neg (by simp), drop_len, show s.size - (a + 2) + 2 = s.size - a by omega] at hR
  have HR := Lib.hid hR; clear hR hlen
  obtain ⟨h0, h1, h2, f1, f2, hgl⟩ := h.cells
  have e1 : decide ((16 : Int) < (d : Int) + 1) = false := by simp; omega
  have kP := ParAt.start h q (a + 2) (d + 1)
  skip
  go_enter Tryd.func39, Tryd.ntmps39
  go_wp2
  simp only [Int.natCast_add, Int.cast_ofNat_Int] at kP
  revert kP
  generalize (((w.setCell ⟨g, 2, none⟩ (.int .i64 ((d : Int) + 1))).setCell ⟨g, 1, none⟩ (.int .i64 ((a : Int) + 2))).alloc (.cells #[.int .i64 0, .bool false, .string ⟨#[]⟩, .string ⟨#[]⟩, .slice none 0 0] 32)).alloc (.cells #[.int .i64 2, .bool q, .string ⟨#[]⟩, .string ⟨#[]⟩, .slice none 0 0] 32) = wr
  intro kP
  clear h0 h1 h2 f1 f2 hgl h
  have hA : ScanAt wr g s ((a + 2 : Nat) : Int) ((d : Int) + 1) := kP.scan
  obtain ⟨h0, h1, h2, f1, f2, hgl⟩ := kP.scan.cells
  have kcl := row_cells kP.part
  have kfr := row_free kP.part
  have kcl0 := row_cells kP.res
  have kfr0 := row_free kP.res
  have hsz := row_lt kP.part
  have hgo := kP.old
  have hn1 : ¬ w.heap.size + 1 = g := by omega
  have hn2 : ¬ g = w.heap.size + 1 := by omega
  have hn3 : ¬ w.heap.size = g := by omega
  have hn4 : ¬ g = w.heap.size := by omega
  have KP := Lib.hid kP; clear kP
  go_quiet ((go_at_call 51; exact (is_hash g s (a + 2) _ _ (hA.drewN _) ha hs _ i0).quiet_of))
  go_wp2
  have kP : ParAt w (wr.drewN nq) g s (a + 2) (d + 1) q ⟨#[]⟩ ⟨#[]⟩ (.slice none 0 0) := KP.out.drewN nq
  clear h0 h1 h2 f1 f2 hgl kcl kfr kcl0 kfr0 hsz hgo hn1 hn2 hn3 hn4 KP
  revert kP
  generalize wr.drewN nq = wr2
  intro kP
  clear hA wr
  clear i0
  obtain ⟨b, hbe⟩ : ∃ b, b = a + 2 := ⟨_, rfl⟩
  rw [← hbe] at kP HR
  have hb0 : b ≤ s.size := by omega
  have hba : a + 2 ≤ b := by omega
  clear hbe
  obtain ⟨h0, h1, h2, f1, f2, hgl⟩ := kP.scan.cells
  have kcl := row_cells kP.part
  have kfr := row_free kP.part
  have kcl0 := row_cells kP.res
  have kfr0 := row_free kP.res
  have hsz := row_lt kP.part
  have hgo := kP.old
  have hn1 : ¬ w.heap.size + 1 = g := by omega
  have hn2 : ¬ g = w.heap.size + 1 := by omega
  have hn3 : ¬ w.heap.size = g := by omega
  have hn4 : ¬ g = w.heap.size := by omega
  have KP := Lib.hid kP; clear kP
  generalize hk : parameter (s.data.toList.drop b) = k at HR
  have hkle : b + k ≤ s.size := by have := parameter_le (s.data.toList.drop b); rw [hk, drop_len] at this; omega
  have HK := Lib.hid hk
  have HTP : Hid (parameter (s.extract b s.size).data.toList = k) := Lib.hid (by rw [Lib.extract_to_end]; exact hk)
  clear hk
  have p0 : (0 : Int) ≤ (b : Int) := by omega
  have p1 : (b : Int) ≤ (s.size : Int) := by omega
  have htz : (s.extract b s.size).size ≤ 8192 := by simp [ByteArray.size_extract]; omega
  go_quiet ((go_at_call 52; exact (par_q _ _ _ htz HTP.out).quiet_of_same))
  revert nq; intro nq1
  clear htz p1
  have hgood : (k == 0 || decide (k > 64)) = true ∨ (0 < k ∧ k ≤ 64) := by
    by_cases hh : 0 < k ∧ k ≤ 64
    · exact .inr hh
    · left; simp; omega
  rcases hgood with hbad | ⟨hk0, hk64⟩
  · have HRE : Hid (R = .err (s.size - b) 61) := Lib.hid (by rw [← HR.out, paramG, HK.out, if_pos hbad, drop_len])
    clear HR
    cases hk0 : k == 0
    case true =>
      obtain rfl : k = 0 := by simpa using hk0
      go_wp2_with (go_at_call 24; refine (fail_calls _ _ _ _).mono ?_; rintro e w1 ⟨rfl, rfl⟩)
      refine ⟨rfl, ?_⟩
      rw [HRE.out]
      exact ⟨b, by omega, rfl, rfl, KP.out.chg.drewN _⟩
    case false =>
      have hk1 : ((k : Int) == 0) = false := by simp at hk0 ⊢; omega
      have hk64 : decide ((64 : Int) < (k : Int)) = true := by rw [hk0] at hbad; simp at hbad ⊢; omega
      clear hk0 hbad
      go_wp2_with (go_at_call 24; refine (fail_calls _ _ _ _).mono ?_; rintro e w1 ⟨rfl, rfl⟩)
      refine ⟨rfl, ?_⟩
      rw [HRE.out]
      exact ⟨b, by omega, rfl, rfl, KP.out.chg.drewN _⟩
  · have HF : Hid (finish (s.size - a) q ((s.data.toList.drop b).take k) (opM (s.data.toList.drop (b + k))) (if opM (s.data.toList.drop (b + k)) == [] then .ok [] (s.data.toList.drop (b + k)) else wordF n (d + 1) true q [] (s.data.toList.drop (b + k + (opM (s.data.toList.drop (b + k))).length))) = R) := Lib.hid (by
      rw [← HR.out, paramG, HK.out, if_neg (show ¬ (k == 0 || decide (k > 64)) = true by simp; omega)]
      simp only [Bool.false_or, Bool.false_eq_true, if_false, List.drop_drop])
    have hk1 : ((k : Int) == 0) = false := by simp; omega
    have hk2 : decide ((64 : Int) < (k : Int)) = false := by simp; omega
    have p1 : (b : Int) ≤ (b : Int) + (k : Int) := by omega
    have p3 : (0 : Int) ≤ (k : Int) := by omega
    have p4 : IntKind.i64.wrap ((b : Int) + (k : Int)) = (b : Int) + (k : Int) := IntWalk.i64_in _ (by omega)
    have p5 : ((b : Int) + (k : Int)).toNat = b + k := by omega
    have p2 : (b : Int) + (k : Int) ≤ (s.size : Int) := by omega
    have hxt := extract_bstr s b (b + k)
    rw [show b + k - b = k by omega] at hxt
    have HXT := Lib.hid hxt; clear hxt
    go_wp2
    refine still_tail2 16 (by kernel_rfl) (by kernel_rfl) ?_
    simp only [List.take_succ_cons, List.take_zero, List.drop_succ_cons, List.drop_zero]
    repeat still_step
    refine wpStill_nil ?_
    go_wp2
    have kP : ParAt w (((wr2.drewN (nq1 + 1)).setCell ⟨w.heap.size + 1, 2, none⟩ (.string (s.extract b (b + k)))).setCell ⟨g, 1, none⟩ (.int .i64 ((b : Int) + (k : Int)))) g s (b + k) (d + 1) q (s.extract b (b + k)) ⟨#[]⟩ (.slice none 0 0) := ((KP.out.drewN (nq1 + 1)).text (s.extract b (b + k))).at' (b + k)
    clear h0 h1 h2 f1 f2 hgl kcl kfr kcl0 kfr0 hsz hgo hn1 hn2 hn3 hn4 KP
    revert kP
    generalize ((wr2.drewN (nq1 + 1)).setCell ⟨w.heap.size + 1, 2, none⟩ (.string (s.extract b (b + k)))).setCell ⟨g, 1, none⟩ (.int .i64 ((b : Int) + (k : Int))) = wr3
    intro kP
    clear p0 p1 p2 p3 p4 p5 hk1 hk2 HTP HK HR e1 wr2
    have hTl : ((s.data.toList.drop b).take k).length ≤ 64 := by simp; omega
    revert hTl
    revert kP
    revert HXT
    revert HF
    generalize s.extract b (b + k) = tx
    generalize (s.data.toList.drop b).take k = T
    obtain ⟨c, hc⟩ : ∃ c, c = b + k := ⟨_, rfl⟩
    rw [← hc] at hkle ⊢
    intro HF HXT kP hTl
    have hac : a + 3 ≤ c := by omega
    clear hc hba hb0 hk0 hk64
    obtain ⟨h0, h1, h2, f1, f2, hgl⟩ := kP.scan.cells
    have kcl := row_cells kP.part
    have kfr := row_free kP.part
    have kcl0 := row_cells kP.res
    have kfr0 := row_free kP.res
    have hsz := row_lt kP.part
    have hgo := kP.old
    have hn1 : ¬ w.heap.size + 1 = g := by omega
    have hn2 : ¬ g = w.heap.size + 1 := by omega
    have hn3 : ¬ w.heap.size = g := by omega
    have hn4 : ¬ g = w.heap.size := by omega
    have KP := Lib.hid kP; clear kP
    by_cases hcs : c < s.size
    · have t1 : decide ((c : Int) < (s.size : Int)) = true := by simp; omega
      have t0 : (0 : Int) ≤ (c : Int) := by omega
      have t2 : (c : Int) ≤ (s.size : Int) := by omega
      go_quiet (fail)
      have hO : opM (s.extract c s.size).data.toList = opM (s.data.toList.drop c) := by rw [Lib.extract_to_end]
      have hOl : (opM (s.data.toList.drop c)).length ≤ s.size - c := by have := opL_prefix ops (s.data.toList.drop c); rwa [drop_len] at this
      revert HF hO hOl
      generalize opM (s.data.toList.drop c) = O
      intro HF hO hOl
      have HO := Lib.hid hO; clear hO
      go_wp2
      go_region_held3 (fun w' => w'.cell? ⟨g, 0, none⟩ = some (.string s) ∧ w'.cell? ⟨g, 1, none⟩ = some (.int .i64 c))
        (first
          | go_keep
          | (go_split_ands; exact ⟨hC1.cell (by assumption) (fun e => e), hC1.cell (by assumption) (fun e => e)⟩))
        (first | (go_at_call 53; refine (op_calls _ _).mono ?_; rintro e w1 ⟨rfl, hC1⟩; have kP5 := ParAt.step0 (KP.out.drewN _) hC1; have kcl5 := row_cells kP5.part; have kfr5 := row_free kP5.part; have KP5 := Lib.hid kP5; clear kP5))
      have hO' : opM (List.take (s.size - c) (s.data.toList.drop c)) = O := by rw [List.take_of_length_le (by rw [drop_len]; omega), ← HO.out, Lib.extract_to_end]
      simp only [hO']
      have kP : ParAt w (w1.setCell ⟨w.heap.size + 1, 3, none⟩ (.string (bstr O))) g s (c) (d + 1) q tx (bstr O) (.slice none 0 0) := ParAt.op' KP5.out (bstr O)
      clear h0 h1 h2 f1 f2 hgl kcl kfr kcl0 kfr0 hsz hgo hn1 hn2 hn3 hn4 KP
      revert kP
      generalize w1.setCell ⟨w.heap.size + 1, 3, none⟩ (.string (bstr O)) = wr4
      intro kP
      clear kcl5 kfr5 KP5 hC1 wr3 HO hO' t1 t2
      have hos : (bstr O).size = O.length := by rw [← len_data, bstr_toList]
      revert hos
      revert kP
      generalize hob : bstr O = ob
      intro kP hos
      have HOB := Lib.hid hob.symm; clear hob
      obtain ⟨h0, h1, h2, f1, f2, hgl⟩ := kP.scan.cells
      have kcl := row_cells kP.part
      have kfr := row_free kP.part
      have kcl0 := row_cells kP.res
      have kfr0 := row_free kP.res
      have hsz := row_lt kP.part
      have hgo := kP.old
      have hn1 : ¬ w.heap.size + 1 = g := by omega
      have hn2 : ¬ g = w.heap.size + 1 := by omega
      have hn3 : ¬ w.heap.size = g := by omega
      have hn4 : ¬ g = w.heap.size := by omega
      have KP := Lib.hid kP; clear kP
      have t1 : IntKind.i64.wrap ((c : Int) + (ob.size : Int)) = (c : Int) + (ob.size : Int) := IntWalk.i64_in _ (by omega)
      go_wp2
      refine still_tail2 10 (by kernel_rfl) (by kernel_rfl) ?_
      simp only [List.take_succ_cons, List.take_zero, List.drop_succ_cons, List.drop_zero]
      repeat still_step
      refine wpStill_nil ?_
      by_cases hO : O = []
      · have hoe : ob.toList.isEmpty = true := by rw [ByteArray.toList_eq, HOB.out, bstr_toList, hO]; rfl
        obtain ⟨l, hl, HF1⟩ : ∃ l, l = ([] : List Part) ∧ Hid (finish (s.size - a) q T O (.ok l (s.data.toList.drop (c + O.length))) = R) := ⟨[], rfl, Lib.hid (by rw [← HF.out, if_pos (by rw [hO]; rfl), hO]; rfl)⟩
        clear HF
        have HF := HF1; clear HF1
        have hcl2 : c + O.length ≤ s.size := by omega
        clear hO
        go_wp2
        have kP : ParAt w ((wr4.setCell ⟨g, 1, none⟩ (.int .i64 ((c : Int) + (O.length : Int)))).drew) g s (c + O.length) (d + 1) q tx ob (.slice none 0 0) := (KP.out.at' (c + O.length)).drewN 1
        clear h0 h1 h2 f1 f2 hgl kcl kfr kcl0 kfr0 hsz hgo hn1 hn2 hn3 hn4 KP
        revert kP
        generalize (wr4.setCell ⟨g, 1, none⟩ (.int .i64 ((c : Int) + (O.length : Int)))).drew = wr5
        intro kP
        have hac2 : a + 3 ≤ c + O.length := by omega
        clear hoe t0 t1 hcs hac hkle
        revert hac2; revert hcl2; revert kP; revert HF
        generalize c + O.length = c2
        intro HF kP hcl2 hac2
        have HV : Rep wr5 (fun j => w.heap.size + 2 ≤ j) (.sl 32 5 (Part.ds l)) [.slice none 0 0] := by rw [hl]; exact (Own.nil _ _ _ _).rep
        have hwl : Part.wts l ≤ 20000 := by rw [hl]; simp [Part.wts]
        clear hl
        obtain ⟨h0, h1, h2, f1, f2, hgl⟩ := kP.scan.cells
        have kcl := row_cells kP.part
        have kfr := row_free kP.part
        have kcl0 := row_cells kP.res
        have kfr0 := row_free kP.res
        have hsz := row_lt kP.part
        have hgo := kP.old
        have hn1 : ¬ w.heap.size + 1 = g := by omega
        have hn2 : ¬ g = w.heap.size + 1 := by omega
        have hn3 : ¬ w.heap.size = g := by omega
        have hn4 : ¬ g = w.heap.size := by omega
        have KP := Lib.hid kP; clear kP
        have t0 : (0 : Int) ≤ (c2 : Int) := by omega
        go_quiet (fail)
        by_cases hend : c2 = s.size
        · have t1 : ((c2 : Int) == (s.size : Int)) = true := by simp; omega
          go_wp2_with (go_at_call 24; refine (fail_calls _ _ _ _).mono ?_; rintro e w1 ⟨rfl, rfl⟩)
          refine ⟨rfl, ?_⟩
          rw [← HF.out, drop_end s c2 (by omega)]
          exact ⟨a, by omega, rfl, rfl, ((KP.out.chg.drewN _).mono (fun _ h _ => h))⟩
        · have t1 : ((c2 : Int) == (s.size : Int)) = false := by simp; omega
          have hclt : c2 < s.size := by omega
          have hHB : isAt (s.data.toList.drop c2) 0 125 = (s[c2] == 125) := by rw [byte_drop s c2 hclt]; rfl
          have HFE : Hid (R = if s[c2] == 125 then .ok (allB (.mk 2 q T O l) q) (s.data.toList.drop (c2 + 1)) else .err (s.size - c2) 61) := Lib.hid (by
            rw [← HF.out, byte_drop s c2 hclt]
            simp only [finish, drop_len]
            split
            · rfl
            · rw [show s.size - (c2 + 1) + 1 = s.size - c2 by omega])
          clear HF
          have hA := KP.out.scan
          go_wp2_with fail
          cases hbr : s[c2] == 125
          case false =>
            rw [hbr] at hHB
            refine Calls.mono (is_brace g s c2 _ _ (hA.drewN _) (by omega) hs _ hHB) ?_
            rintro e w' ⟨rfl, m, rfl⟩
            go_wp2_with (go_at_call 24; refine (fail_calls _ _ _ _).mono ?_; rintro e w1 ⟨rfl, rfl⟩)
            refine ⟨rfl, ?_⟩
            rw [HFE.out, hbr]
            exact ⟨c2, by omega, rfl, rfl, KP.out.chg.drewN _⟩
          case true =>
            rw [hbr] at hHB
            refine Calls.mono (is_brace g s c2 _ _ (hA.drewN _) (by omega) hs _ hHB) ?_
            rintro e w' ⟨rfl, m, rfl⟩
            go_wp2_with fail
            have hrep : Rep wr5 (fun j => w.heap.size + 2 ≤ j) (Part.d (.mk 2 q T O l)) [.int .i64 2, .bool q, .string tx, .string ob, (.slice none 0 0)] := part_rep.2 ⟨_, by rw [HXT.out, HOB.out], HV⟩
            refine (all_calls _ (fun j => w.heap.size + 2 ≤ j) (.mk 2 q T O l) q [.int .i64 2, .bool q, .string tx, .string ob, (.slice none 0 0)] (by simp only [Part.wt]; omega) ?_).mono ?_
            · exact hrep.stay ((((Chg.refl (· = g) _).drewN _).setCell (fun _ => rfl) _).setCell (fun _ => rfl) _) (fun j h e => by omega)
            · rintro e w4 ⟨cs', rfl, hr', hC'⟩
              have kP4 : ParAt w w4 g s (c2 + 1) d q tx ob (.slice none 0 0) := ParAt.step0 (((KP.out.drewN _).at' (c2 + 1)).deep' d) hC'
              have hz : wr5.heap.size ≤ w4.heap.size := by simpa using hC'.size
              have HR1 : Hid (R = .ok (allB (.mk 2 q T O l) q) (s.data.toList.drop (c2 + 1))) := Lib.hid (by rw [HFE.out, if_pos hbr])
              clear HFE
              revert hr' HR1
              generalize allB (.mk 2 q T O l) q = pp
              obtain ⟨kd, qd, td, od, wd⟩ := pp
              intro hr' HR1
              obtain ⟨A', c', rfl, hwv, _, _⟩ := part_rep2 hr'
              have HREP := Lib.hid hr'; clear hr'
              clear h0 h1 h2 f1 f2 hgl kcl kfr kcl0 kfr0 KP hHB hbr hA
              have kcl0 := row_cells kP4.res
              have kfr0 := row_free kP4.res
              have hlt0 := row_lt kP4.res
              have KP := Lib.hid kP4; clear kP4
              go_wp2
              refine bodyPost_ret (v := .agg #[.int .i64 kd, .bool qd, .string (bstr td), .string (bstr od), .slice A' wd.length c']) (by simp [results, Tryd.results39, go_sem, kcl0]) rfl ?_
              rw [HR1.out]
              refine ⟨_, c2 + 1, rfl, hclt, rfl, ⟨_, rfl, ?_⟩, ?_, ?_⟩
              · refine (HREP.out.stay (((((((Chg.refl (fun j => j = w.heap.size) _).setCell (fun _ => rfl) _).setCell (fun _ => rfl) _).setCell (fun _ => rfl) _).setCell (fun _ => rfl) _).setCell (fun _ => rfl) _)) (fun j hj e => ?_)).mono (fun j hj _ => ?_)
                · simp at hj; omega
                · simp at hj; omega
              · exact row_far (row_far (row_far (row_far (row_far KP.out.scan hn4 _) hn4 _) hn4 _) hn4 _) hn4 _
              · exact ((((KP.out.chg.setCell (fun h => absurd h (by simp)) _).setCell (fun h => absurd h (by simp)) _).setCell (fun h => absurd h (by simp)) _).setCell (fun h => absurd h (by simp)) _).setCell (fun h => absurd h (by simp)) _
      · have hoe : ob.toList.isEmpty = false := by
          rw [ByteArray.toList_eq, HOB.out, bstr_toList]
          cases O with
          | nil => exact absurd rfl hO
          | cons x y => rfl
        have hOp : 0 < O.length := by
          cases O with
          | nil => exact absurd rfl hO
          | cons x y => simp
        have HF1 : Hid (∀ RW, wordF n (d + 1) true q [] (s.data.toList.drop (c + O.length)) = RW → finish (s.size - a) q T O RW = R) := Lib.hid (by
          rintro RW rfl
          rw [← HF.out, if_neg (by simpa using hO)])
        clear HF
        have HL := Lib.hid ((scan_len n).word (d + 1) true q [] (s.data.toList.drop (c + O.length)))
        go_wp2_with fail
        have hA4 : ScanAt ((wr4.setCell ⟨g, 1, none⟩ (.int .i64 ((c : Int) + (O.length : Int)))).drew) g s ((c + O.length : Nat) : Int) ((d + 1 : Nat) : Int) := (KP.out.at' (c + O.length)).scan
        refine (IH _ g s (c + O.length) (d + 1) true q hA4 (by omega) hs (by omega) (by omega)).mono ?_
        intro e w5 hpost
        generalize hRW : wordF n (d + 1) true q [] (s.data.toList.drop (c + O.length)) = RW at hpost HL
        have HF2 := Lib.hid (HF1.out RW hRW); clear HF1 hRW
        cases RW with
        | err left code =>
          obtain ⟨k5, hk5, hl5, rfl, hC5⟩ := hpost
          refine ⟨rfl, ?_⟩
          rw [← HF2.out]
          exact ⟨k5, hk5, hl5, rfl, ((KP.out.at' (c + O.length)).drewN 1).chg.trans hC5 (fun _ h _ => h)⟩
        | ok l rest =>
          obtain ⟨v5, k5, rfl, hk5, rfl, hO5, hA5, hC5⟩ := hpost
          have hL := HL.out _ _ rfl
          rw [drop_len, drop_len] at hL
          have hwl : Part.wts l ≤ 20000 := by simp only [Part.wts] at hL; omega
          have hac5 : a + 3 ≤ k5 := by omega
          have kP := ((KP.out.at' (c + O.length)).drewN 1).step hA5 hC5
          obtain ⟨A5, c5, rfl, _, hm5⟩ := Own.form hO5
          have hsz' : w.heap.size + 1 < (wr4.setCell ⟨g, 1, none⟩ (.int .i64 ((c : Int) + (O.length : Int)))).drew.heap.size := by simp; omega
          have HV5 : Rep w5 (fun j => w.heap.size + 2 ≤ j) (.sl 32 5 (Part.ds l)) [.slice A5 (Part.ds l).length c5] := (Own.rep hO5).mono (fun j h _ => h.elim (fun h => h.elim) (fun h => by omega))
          have HF := Lib.hid HF2.out
          clear HF2 HL hL hO5 hA5 hC5 hsz' hA4 hoe hOp hO t0 t1 hcs hac hkle KP h0 h1 h2 f1 f2 hgl kcl kfr kcl0 kfr0 hsz hgo hn1 hn2 hn3 hn4
          obtain ⟨h0, h1, h2, f1, f2, hgl⟩ := kP.scan.cells
          have kcl := row_cells kP.part
          have kfr := row_free kP.part
          have kcl0 := row_cells kP.res
          have kfr0 := row_free kP.res
          have hsz := row_lt kP.part
          have hgo := kP.old
          have hn1 : ¬ w.heap.size + 1 = g := by omega
          have hn2 : ¬ g = w.heap.size + 1 := by omega
          have hn3 : ¬ w.heap.size = g := by omega
          have hn4 : ¬ g = w.heap.size := by omega
          have KP := Lib.hid kP; clear kP
          go_wp2
          have HV6 := HV5.stay ((Chg.refl (fun j => j = w.heap.size + 1) _).setCell (p := ⟨w.heap.size + 1, 4, none⟩) (fun _ => rfl) (.slice A5 (Part.ds l).length c5)) (fun j h e => by omega)
          clear HV5
          revert HV6
          have kP : ParAt w (w5.setCell ⟨w.heap.size + 1, 4, none⟩ (.slice A5 (Part.ds l).length c5)) g s (k5) (d + 1) q tx ob (.slice A5 (Part.ds l).length c5) := KP.out.word (.slice A5 (Part.ds l).length c5)
          clear h0 h1 h2 f1 f2 hgl kcl kfr kcl0 kfr0 hsz hgo hn1 hn2 hn3 hn4 KP
          revert kP
          generalize w5.setCell ⟨w.heap.size + 1, 4, none⟩ (.slice A5 (Part.ds l).length c5) = wr6
          intro kP
          intro HV
          obtain ⟨h0, h1, h2, f1, f2, hgl⟩ := kP.scan.cells
          have kcl := row_cells kP.part
          have kfr := row_free kP.part
          have kcl0 := row_cells kP.res
          have kfr0 := row_free kP.res
          have hsz := row_lt kP.part
          have hgo := kP.old
          have hn1 : ¬ w.heap.size + 1 = g := by omega
          have hn2 : ¬ g = w.heap.size + 1 := by omega
          have hn3 : ¬ w.heap.size = g := by omega
          have hn4 : ¬ g = w.heap.size := by omega
          have KP := Lib.hid kP; clear kP
          have t0 : (0 : Int) ≤ (k5 : Int) := by omega
          go_quiet (fail)
          by_cases hend : k5 = s.size
          · have t1 : ((k5 : Int) == (s.size : Int)) = true := by simp; omega
            go_wp2_with (go_at_call 24; refine (fail_calls _ _ _ _).mono ?_; rintro e w1 ⟨rfl, rfl⟩)
            refine ⟨rfl, ?_⟩
            rw [← HF.out, drop_end s k5 (by omega)]
            exact ⟨a, by omega, rfl, rfl, ((KP.out.chg.drewN _).mono (fun _ h _ => h))⟩
          · have t1 : ((k5 : Int) == (s.size : Int)) = false := by simp; omega
            have hclt : k5 < s.size := by omega
            have hHB : isAt (s.data.toList.drop k5) 0 125 = (s[k5] == 125) := by rw [byte_drop s k5 hclt]; rfl
            have HFE : Hid (R = if s[k5] == 125 then .ok (allB (.mk 2 q T O l) q) (s.data.toList.drop (k5 + 1)) else .err (s.size - k5) 61) := Lib.hid (by
              rw [← HF.out, byte_drop s k5 hclt]
              simp only [finish, drop_len]
              split
              · rfl
              · rw [show s.size - (k5 + 1) + 1 = s.size - k5 by omega])
            clear HF
            have hA := KP.out.scan
            go_wp2_with fail
            cases hbr : s[k5] == 125
            case false =>
              rw [hbr] at hHB
              refine Calls.mono (is_brace g s k5 _ _ (hA.drewN _) (by omega) hs _ hHB) ?_
              rintro e w' ⟨rfl, m, rfl⟩
              go_wp2_with (go_at_call 24; refine (fail_calls _ _ _ _).mono ?_; rintro e w1 ⟨rfl, rfl⟩)
              refine ⟨rfl, ?_⟩
              rw [HFE.out, hbr]
              exact ⟨k5, by omega, rfl, rfl, KP.out.chg.drewN _⟩
            case true =>
              rw [hbr] at hHB
              refine Calls.mono (is_brace g s k5 _ _ (hA.drewN _) (by omega) hs _ hHB) ?_
              rintro e w' ⟨rfl, m, rfl⟩
              go_wp2_with fail
              have hrep : Rep wr6 (fun j => w.heap.size + 2 ≤ j) (Part.d (.mk 2 q T O l)) [.int .i64 2, .bool q, .string tx, .string ob, (.slice A5 (Part.ds l).length c5)] := part_rep.2 ⟨_, by rw [HXT.out, HOB.out], HV⟩
              refine (all_calls _ (fun j => w.heap.size + 2 ≤ j) (.mk 2 q T O l) q [.int .i64 2, .bool q, .string tx, .string ob, (.slice A5 (Part.ds l).length c5)] (by simp only [Part.wt]; omega) ?_).mono ?_
              · exact hrep.stay ((((Chg.refl (· = g) _).drewN _).setCell (fun _ => rfl) _).setCell (fun _ => rfl) _) (fun j h e => by omega)
              · rintro e w4 ⟨cs', rfl, hr', hC'⟩
                have kP4 : ParAt w w4 g s (k5 + 1) d q tx ob (.slice A5 (Part.ds l).length c5) := ParAt.step0 (((KP.out.drewN _).at' (k5 + 1)).deep' d) hC'
                have hz : wr6.heap.size ≤ w4.heap.size := by simpa using hC'.size
                have HR1 : Hid (R = .ok (allB (.mk 2 q T O l) q) (s.data.toList.drop (k5 + 1))) := Lib.hid (by rw [HFE.out, if_pos hbr])
                clear HFE
                revert hr' HR1
                generalize allB (.mk 2 q T O l) q = pp
                obtain ⟨kd, qd, td, od, wd⟩ := pp
                intro hr' HR1
                obtain ⟨A', c', rfl, hwv, _, _⟩ := part_rep2 hr'
                have HREP := Lib.hid hr'; clear hr'
                clear h0 h1 h2 f1 f2 hgl kcl kfr kcl0 kfr0 KP hHB hbr hA
                have kcl0 := row_cells kP4.res
                have kfr0 := row_free kP4.res
                have hlt0 := row_lt kP4.res
                have KP := Lib.hid kP4; clear kP4
                go_wp2
                refine bodyPost_ret (v := .agg #[.int .i64 kd, .bool qd, .string (bstr td), .string (bstr od), .slice A' wd.length c']) (by simp [results, Tryd.results39, go_sem, kcl0]) rfl ?_
                rw [HR1.out]
                refine ⟨_, k5 + 1, rfl, hclt, rfl, ⟨_, rfl, ?_⟩, ?_, ?_⟩
                · refine (HREP.out.stay (((((((Chg.refl (fun j => j = w.heap.size) _).setCell (fun _ => rfl) _).setCell (fun _ => rfl) _).setCell (fun _ => rfl) _).setCell (fun _ => rfl) _).setCell (fun _ => rfl) _)) (fun j hj e => ?_)).mono (fun j hj _ => ?_)
                  · simp at hj; omega
                  · simp at hj; omega
                · exact row_far (row_far (row_far (row_far (row_far KP.out.scan hn4 _) hn4 _) hn4 _) hn4 _) hn4 _
                · exact ((((KP.out.chg.setCell (fun h => absurd h (by simp)) _).setCell (fun h => absurd h (by simp)) _).setCell (fun h => absurd h (by simp)) _).setCell (fun h => absurd h (by simp)) _).setCell (fun h => absurd h (by simp)) _
    · have t1 : decide ((c : Int) < (s.size : Int)) = false := by simp; omega
      obtain ⟨O, l, hO, hl, HF1⟩ : ∃ O l, O = ([] : Bytes) ∧ l = ([] : List Part) ∧ Hid (finish (s.size - a) q T O (.ok l (s.data.toList.drop c)) = R) := ⟨[], [], rfl, rfl, Lib.hid (by rw [← HF.out, drop_end s c hcs]; rfl)⟩
      clear HF
      have HF := HF1; clear HF1
      have hOl : O.length ≤ 64 := by rw [hO]; decide
      have HOB : Hid (⟨#[]⟩ = bstr O) := Lib.hid (by rw [hO]; rfl)
      clear hO
      have HV : Rep wr3 (fun j => w.heap.size + 2 ≤ j) (.sl 32 5 (Part.ds l)) [.slice none 0 0] := by rw [hl]; exact (Own.nil _ _ _ _).rep
      have hwl : Part.wts l ≤ 20000 := by rw [hl]; simp [Part.wts]
      clear hl
      go_quiet (fail)
      go_wp2
      have t0 : (0 : Int) ≤ (c : Int) := by omega
      go_quiet (fail)
      have t1 : ((c : Int) == (s.size : Int)) = true := by simp; omega
      go_wp2_with (go_at_call 24; refine (fail_calls _ _ _ _).mono ?_; rintro e w1 ⟨rfl, rfl⟩)
      refine ⟨rfl, ?_⟩
      rw [← HF.out, drop_end s c (by omega)]
      exact ⟨a, by omega, rfl, rfl, ((KP.out.chg.drewN _).mono (fun _ h _ => h))⟩
set_option maxRecDepth 100000 in
set_option maxHeartbeats 4000000 in
theorem param_op2 (n : Nat) (IH : WordSaid n) (w : World) (g : Nat) (s : ByteArray) (a d : Nat) (q : Bool) (h : ScanAt w g s a d) (ha : a + 2 ≤ s.size) (hs : s.size ≤ 8192) (hd : ¬ 16 < d + 1) (hf : 4 * (s.size - a) ≤ n + 1) (i0 : isAt (s.data.toList.drop (a + 2)) 0 35 = true) (hnl : ¬ a + 3 < s.size) :
    Calls Tryd.prog 39 #[.pointer (some ⟨g, 0, none⟩), .bool q] w (ScanPost w g s d (paramF (n + 1) d q (s.data.toList.drop (a + 2))) (fun _ => False) (PartVal w)) := by
  generalize hR : paramF (n + 1) d q (s.data.toList.drop (a + 2)) = R
  have hlen : lenB (s.data.toList.drop (a + 2)) = false := by rw [lenB_is, drop_len]; simp [i0]; omega
  rw [paramF, if_neg hd, hlen, if_neg (by simp), drop_len, show s.size - (a + 2) + 2 = s.size - a by omega] at hR
  have HR := Lib.hid hR; clear hR hlen
  obtain ⟨h0, h1, h2, f1, f2, hgl⟩ := h.cells
  have e1 : decide ((16 : Int) < (d : Int) + 1) = false := by simp; omega
  have kP := ParAt.start h q (a + 2) (d + 1)
  have i2 : decide ((a : Int) + 2 + 1 < (s.size : Int)) = false := by simp; omega
  go_enter Tryd.func39, Tryd.ntmps39
  go_wp2
  simp only [Int.natCast_add, Int.cast_ofNat_Int] at kP
  revert kP
  generalize (((w.setCell ⟨g, 2, none⟩ (.int .i64 ((d : Int) + 1))).setCell ⟨g, 1, none⟩ (.int .i64 ((a : Int) + 2))).alloc (.cells #[.int .i64 0, .bool false, .string ⟨#[]⟩, .string ⟨#[]⟩, .slice none 0 0] 32)).alloc (.cells #[.int .i64 2, .bool q, .string ⟨#[]⟩, .string ⟨#[]⟩, .slice none 0 0] 32) = wr
  intro kP
  clear h0 h1 h2 f1 f2 hgl h
  have hA : ScanAt wr g s ((a + 2 : Nat) : Int) ((d : Int) + 1) := kP.scan
  obtain ⟨h0, h1, h2, f1, f2, hgl⟩ := kP.scan.cells
  have kcl := row_cells kP.part
  have kfr := row_free kP.part
  have kcl0 := row_cells kP.res
  have kfr0 := row_free kP.res
  have hsz := row_lt kP.part
  have hgo := kP.old
  have hn1 : ¬ w.heap.size + 1 = g := by omega
  have hn2 : ¬ g = w.heap.size + 1 := by omega
  have hn3 : ¬ w.heap.size = g := by omega
  have hn4 : ¬ g = w.heap.size := by omega
  have KP := Lib.hid kP; clear kP
  go_quiet ((go_at_call 51; exact (is_hash g s (a + 2) _ _ (hA.drewN _) ha hs _ i0).quiet_of))
  go_wp2
  have kP : ParAt w (wr.drewN nq) g s (a + 2) (d + 1) q ⟨#[]⟩ ⟨#[]⟩ (.slice none 0 0) := KP.out.drewN nq
  clear h0 h1 h2 f1 f2 hgl kcl kfr kcl0 kfr0 hsz hgo hn1 hn2 hn3 hn4 KP
  revert kP
  generalize wr.drewN nq = wr2
  intro kP
  clear hA wr
  clear i0 i2 hnl
  obtain ⟨b, hbe⟩ : ∃ b, b = a + 2 := ⟨_, rfl⟩
  rw [← hbe] at kP HR
  have hb0 : b ≤ s.size := by omega
  have hba : a + 2 ≤ b := by omega
  clear hbe
  obtain ⟨h0, h1, h2, f1, f2, hgl⟩ := kP.scan.cells
  have kcl := row_cells kP.part
  have kfr := row_free kP.part
  have kcl0 := row_cells kP.res
  have kfr0 := row_free kP.res
  have hsz := row_lt kP.part
  have hgo := kP.old
  have hn1 : ¬ w.heap.size + 1 = g := by omega
  have hn2 : ¬ g = w.heap.size + 1 := by omega
  have hn3 : ¬ w.heap.size = g := by omega
  have hn4 : ¬ g = w.heap.size := by omega
  have KP := Lib.hid kP; clear kP
  generalize hk : parameter (s.data.toList.drop b) = k at HR
  have hkle : b + k ≤ s.size := by have := parameter_le (s.data.toList.drop b); rw [hk, drop_len] at this; omega
  have HK := Lib.hid hk
  have HTP : Hid (parameter (s.extract b s.size).data.toList = k) := Lib.hid (by rw [Lib.extract_to_end]; exact hk)
  clear hk
  have p0 : (0 : Int) ≤ (b : Int) := by omega
  have p1 : (b : Int) ≤ (s.size : Int) := by omega
  have htz : (s.extract b s.size).size ≤ 8192 := by simp [ByteArray.size_extract]; omega
  go_quiet ((go_at_call 52; exact (par_q _ _ _ htz HTP.out).quiet_of_same))
  revert nq; intro nq1
  clear htz p1
  have hgood : (k == 0 || decide (k > 64)) = true ∨ (0 < k ∧ k ≤ 64) := by
    by_cases hh : 0 < k ∧ k ≤ 64
    · exact .inr hh
    · left; simp; omega
  rcases hgood with hbad | ⟨hk0, hk64⟩
  · have HRE : Hid (R = .err (s.size - b) 61) := Lib.hid (by rw [← HR.out, paramG, HK.out, if_pos hbad, drop_len])
    clear HR
    cases hk0 : k == 0
    case true =>
      obtain rfl : k = 0 := by simpa using hk0
      go_wp2_with (go_at_call 24; refine (fail_calls _ _ _ _).mono ?_; rintro e w1 ⟨rfl, rfl⟩)
      refine ⟨rfl, ?_⟩
      rw [HRE.out]
      exact ⟨b, by omega, rfl, rfl, KP.out.chg.drewN _⟩
    case false =>
      have hk1 : ((k : Int) == 0) = false := by simp at hk0 ⊢; omega
      have hk64 : decide ((64 : Int) < (k : Int)) = true := by rw [hk0] at hbad; simp at hbad ⊢; omega
      clear hk0 hbad
      go_wp2_with (go_at_call 24; refine (fail_calls _ _ _ _).mono ?_; rintro e w1 ⟨rfl, rfl⟩)
      refine ⟨rfl, ?_⟩
      rw [HRE.out]
      exact ⟨b, by omega, rfl, rfl, KP.out.chg.drewN _⟩
  · have HF : Hid (finish (s.size - a) q ((s.data.toList.drop b).take k) (opM (s.data.toList.drop (b + k))) (if opM (s.data.toList.drop (b + k)) == [] then .ok [] (s.data.toList.drop (b + k)) else wordF n (d + 1) true q [] (s.data.toList.drop (b + k + (opM (s.data.toList.drop (b + k))).length))) = R) := Lib.hid (by
      rw [← HR.out, paramG, HK.out, if_neg (show ¬ (k == 0 || decide (k > 64)) = true by simp; omega)]
      simp only [Bool.false_or, Bool.false_eq_true, if_false, List.drop_drop])
    have hk1 : ((k : Int) == 0) = false := by simp; omega
    have hk2 : decide ((64 : Int) < (k : Int)) = false := by simp; omega
    have p1 : (b : Int) ≤ (b : Int) + (k : Int) := by omega
    have p3 : (0 : Int) ≤ (k : Int) := by omega
    have p4 : IntKind.i64.wrap ((b : Int) + (k : Int)) = (b : Int) + (k : Int) := IntWalk.i64_in _ (by omega)
    have p5 : ((b : Int) + (k : Int)).toNat = b + k := by omega
    have p2 : (b : Int) + (k : Int) ≤ (s.size : Int) := by omega
    have hxt := extract_bstr s b (b + k)
    rw [show b + k - b = k by omega] at hxt
    have HXT := Lib.hid hxt; clear hxt
    go_wp2
    refine still_tail2 16 (by kernel_rfl) (by kernel_rfl) ?_
    simp only [List.take_succ_cons, List.take_zero, List.drop_succ_cons, List.drop_zero]
    repeat still_step
    refine wpStill_nil ?_
    go_wp2
    have kP : ParAt w (((wr2.drewN (nq1 + 1)).setCell ⟨w.heap.size + 1, 2, none⟩ (.string (s.extract b (b + k)))).setCell ⟨g, 1, none⟩ (.int .i64 ((b : Int) + (k : Int)))) g s (b + k) (d + 1) q (s.extract b (b + k)) ⟨#[]⟩ (.slice none 0 0) := ((KP.out.drewN (nq1 + 1)).text (s.extract b (b + k))).at' (b + k)
    clear h0 h1 h2 f1 f2 hgl kcl kfr kcl0 kfr0 hsz hgo hn1 hn2 hn3 hn4 KP
    revert kP
    generalize ((wr2.drewN (nq1 + 1)).setCell ⟨w.heap.size + 1, 2, none⟩ (.string (s.extract b (b + k)))).setCell ⟨g, 1, none⟩ (.int .i64 ((b : Int) + (k : Int))) = wr3
    intro kP
    clear p0 p1 p2 p3 p4 p5 hk1 hk2 HTP HK HR e1 wr2
    have hTl : ((s.data.toList.drop b).take k).length ≤ 64 := by simp; omega
    revert hTl
    revert kP
    revert HXT
    revert HF
    generalize s.extract b (b + k) = tx
    generalize (s.data.toList.drop b).take k = T
    obtain ⟨c, hc⟩ : ∃ c, c = b + k := ⟨_, rfl⟩
    rw [← hc] at hkle ⊢
    intro HF HXT kP hTl
    have hac : a + 3 ≤ c := by omega
    clear hc hba hb0 hk0 hk64
    obtain ⟨h0, h1, h2, f1, f2, hgl⟩ := kP.scan.cells
    have kcl := row_cells kP.part
    have kfr := row_free kP.part
    have kcl0 := row_cells kP.res
    have kfr0 := row_free kP.res
    have hsz := row_lt kP.part
    have hgo := kP.old
    have hn1 : ¬ w.heap.size + 1 = g := by omega
    have hn2 : ¬ g = w.heap.size + 1 := by omega
    have hn3 : ¬ w.heap.size = g := by omega
    have hn4 : ¬ g = w.heap.size := by omega
    have KP := Lib.hid kP; clear kP
    by_cases hcs : c < s.size
    · have t1 : decide ((c : Int) < (s.size : Int)) = true := by simp; omega
      have t0 : (0 : Int) ≤ (c : Int) := by omega
      have t2 : (c : Int) ≤ (s.size : Int) := by omega
      go_quiet (fail)
      have hO : opM (s.extract c s.size).data.toList = opM (s.data.toList.drop c) := by rw [Lib.extract_to_end]
      have hOl : (opM (s.data.toList.drop c)).length ≤ s.size - c := by have := opL_prefix ops (s.data.toList.drop c); rwa [drop_len] at this
      revert HF hO hOl
      generalize opM (s.data.toList.drop c) = O
      intro HF hO hOl
      have HO := Lib.hid hO; clear hO
      go_wp2
      go_region_held3 (fun w' => w'.cell? ⟨g, 0, none⟩ = some (.string s) ∧ w'.cell? ⟨g, 1, none⟩ = some (.int .i64 c))
        (first
          | go_keep
          | (go_split_ands; exact ⟨hC1.cell (by assumption) (fun e => e), hC1.cell (by assumption) (fun e => e)⟩))
        (first | (go_at_call 53; refine (op_calls _ _).mono ?_; rintro e w1 ⟨rfl, hC1⟩; have kP5 := ParAt.step0 (KP.out.drewN _) hC1; have kcl5 := row_cells kP5.part; have kfr5 := row_free kP5.part; have KP5 := Lib.hid kP5; clear kP5))
      have hO' : opM (List.take (s.size - c) (s.data.toList.drop c)) = O := by rw [List.take_of_length_le (by rw [drop_len]; omega), ← HO.out, Lib.extract_to_end]
      simp only [hO']
      have kP : ParAt w (w1.setCell ⟨w.heap.size + 1, 3, none⟩ (.string (bstr O))) g s (c) (d + 1) q tx (bstr O) (.slice none 0 0) := ParAt.op' KP5.out (bstr O)
      clear h0 h1 h2 f1 f2 hgl kcl kfr kcl0 kfr0 hsz hgo hn1 hn2 hn3 hn4 KP
      revert kP
      generalize w1.setCell ⟨w.heap.size + 1, 3, none⟩ (.string (bstr O)) = wr4
      intro kP
      clear kcl5 kfr5 KP5 hC1 wr3 HO hO' t1 t2
      have hos : (bstr O).size = O.length := by rw [← len_data, bstr_toList]
      revert hos
      revert kP
      generalize hob : bstr O = ob
      intro kP hos
      have HOB := Lib.hid hob.symm; clear hob
      obtain ⟨h0, h1, h2, f1, f2, hgl⟩ := kP.scan.cells
      have kcl := row_cells kP.part
      have kfr := row_free kP.part
      have kcl0 := row_cells kP.res
      have kfr0 := row_free kP.res
      have hsz := row_lt kP.part
      have hgo := kP.old
      have hn1 : ¬ w.heap.size + 1 = g := by omega
      have hn2 : ¬ g = w.heap.size + 1 := by omega
      have hn3 : ¬ w.heap.size = g := by omega
      have hn4 : ¬ g = w.heap.size := by omega
      have KP := Lib.hid kP; clear kP
      have t1 : IntKind.i64.wrap ((c : Int) + (ob.size : Int)) = (c : Int) + (ob.size : Int) := IntWalk.i64_in _ (by omega)
      go_wp2
      refine still_tail2 10 (by kernel_rfl) (by kernel_rfl) ?_
      simp only [List.take_succ_cons, List.take_zero, List.drop_succ_cons, List.drop_zero]
      repeat still_step
      refine wpStill_nil ?_
      by_cases hO : O = []
      · have hoe : ob.toList.isEmpty = true := by rw [ByteArray.toList_eq, HOB.out, bstr_toList, hO]; rfl
        obtain ⟨l, hl, HF1⟩ : ∃ l, l = ([] : List Part) ∧ Hid (finish (s.size - a) q T O (.ok l (s.data.toList.drop (c + O.length))) = R) := ⟨[], rfl, Lib.hid (by rw [← HF.out, if_pos (by rw [hO]; rfl), hO]; rfl)⟩
        clear HF
        have HF := HF1; clear HF1
        have hcl2 : c + O.length ≤ s.size := by omega
        clear hO
        go_wp2
        have kP : ParAt w ((wr4.setCell ⟨g, 1, none⟩ (.int .i64 ((c : Int) + (O.length : Int)))).drew) g s (c + O.length) (d + 1) q tx ob (.slice none 0 0) := (KP.out.at' (c + O.length)).drewN 1
        clear h0 h1 h2 f1 f2 hgl kcl kfr kcl0 kfr0 hsz hgo hn1 hn2 hn3 hn4 KP
        revert kP
        generalize (wr4.setCell ⟨g, 1, none⟩ (.int .i64 ((c : Int) + (O.length : Int)))).drew = wr5
        intro kP
        have hac2 : a + 3 ≤ c + O.length := by omega
        clear hoe t0 t1 hcs hac hkle
        revert hac2; revert hcl2; revert kP; revert HF
        generalize c + O.length = c2
        intro HF kP hcl2 hac2
        have HV : Rep wr5 (fun j => w.heap.size + 2 ≤ j) (.sl 32 5 (Part.ds l)) [.slice none 0 0] := by rw [hl]; exact (Own.nil _ _ _ _).rep
        have hwl : Part.wts l ≤ 20000 := by rw [hl]; simp [Part.wts]
        clear hl
        obtain ⟨h0, h1, h2, f1, f2, hgl⟩ := kP.scan.cells
        have kcl := row_cells kP.part
        have kfr := row_free kP.part
        have kcl0 := row_cells kP.res
        have kfr0 := row_free kP.res
        have hsz := row_lt kP.part
        have hgo := kP.old
        have hn1 : ¬ w.heap.size + 1 = g := by omega
        have hn2 : ¬ g = w.heap.size + 1 := by omega
        have hn3 : ¬ w.heap.size = g := by omega
        have hn4 : ¬ g = w.heap.size := by omega
        have KP := Lib.hid kP; clear kP
        have t0 : (0 : Int) ≤ (c2 : Int) := by omega
        go_quiet (fail)
        by_cases hend : c2 = s.size
        · have t1 : ((c2 : Int) == (s.size : Int)) = true := by simp; omega
          go_wp2_with (go_at_call 24; refine (fail_calls _ _ _ _).mono ?_; rintro e w1 ⟨rfl, rfl⟩)
          refine ⟨rfl, ?_⟩
          rw [← HF.out, drop_end s c2 (by omega)]
          exact ⟨a, by omega, rfl, rfl, ((KP.out.chg.drewN _).mono (fun _ h _ => h))⟩
        · have t1 : ((c2 : Int) == (s.size : Int)) = false := by simp; omega
          have hclt : c2 < s.size := by omega
          have hHB : isAt (s.data.toList.drop c2) 0 125 = (s[c2] == 125) := by rw [byte_drop s c2 hclt]; rfl
          have HFE : Hid (R = if s[c2] == 125 then .ok (allB (.mk 2 q T O l) q) (s.data.toList.drop (c2 + 1)) else .err (s.size - c2) 61) := Lib.hid (by
            rw [← HF.out, byte_drop s c2 hclt]
            simp only [finish, drop_len]
            split
            · rfl
            · rw [show s.size - (c2 + 1) + 1 = s.size - c2 by omega])
          clear HF
          have hA := KP.out.scan
          go_wp2_with fail
          cases hbr : s[c2] == 125
          case false =>
            rw [hbr] at hHB
            refine Calls.mono (is_brace g s c2 _ _ (hA.drewN _) (by omega) hs _ hHB) ?_
            rintro e w' ⟨rfl, m, rfl⟩
            go_wp2_with (go_at_call 24; refine (fail_calls _ _ _ _).mono ?_; rintro e w1 ⟨rfl, rfl⟩)
            refine ⟨rfl, ?_⟩
            rw [HFE.out, hbr]
            exact ⟨c2, by omega, rfl, rfl, KP.out.chg.drewN _⟩
          case true =>
            rw [hbr] at hHB
            refine Calls.mono (is_brace g s c2 _ _ (hA.drewN _) (by omega) hs _ hHB) ?_
            rintro e w' ⟨rfl, m, rfl⟩
            go_wp2_with fail
            have hrep : Rep wr5 (fun j => w.heap.size + 2 ≤ j) (Part.d (.mk 2 q T O l)) [.int .i64 2, .bool q, .string tx, .string ob, (.slice none 0 0)] := part_rep.2 ⟨_, by rw [HXT.out, HOB.out], HV⟩
            refine (all_calls _ (fun j => w.heap.size + 2 ≤ j) (.mk 2 q T O l) q [.int .i64 2, .bool q, .string tx, .string ob, (.slice none 0 0)] (by simp only [Part.wt]; omega) ?_).mono ?_
            · exact hrep.stay ((((Chg.refl (· = g) _).drewN _).setCell (fun _ => rfl) _).setCell (fun _ => rfl) _) (fun j h e => by omega)
            · rintro e w4 ⟨cs', rfl, hr', hC'⟩
              have kP4 : ParAt w w4 g s (c2 + 1) d q tx ob (.slice none 0 0) := ParAt.step0 (((KP.out.drewN _).at' (c2 + 1)).deep' d) hC'
              have hz : wr5.heap.size ≤ w4.heap.size := by simpa using hC'.size
              have HR1 : Hid (R = .ok (allB (.mk 2 q T O l) q) (s.data.toList.drop (c2 + 1))) := Lib.hid (by rw [HFE.out, if_pos hbr])
              clear HFE
              revert hr' HR1
              generalize allB (.mk 2 q T O l) q = pp
              obtain ⟨kd, qd, td, od, wd⟩ := pp
              intro hr' HR1
              obtain ⟨A', c', rfl, hwv, _, _⟩ := part_rep2 hr'
              have HREP := Lib.hid hr'; clear hr'
              clear h0 h1 h2 f1 f2 hgl kcl kfr kcl0 kfr0 KP hHB hbr hA
              have kcl0 := row_cells kP4.res
              have kfr0 := row_free kP4.res
              have hlt0 := row_lt kP4.res
              have KP := Lib.hid kP4; clear kP4
              go_wp2
              refine bodyPost_ret (v := .agg #[.int .i64 kd, .bool qd, .string (bstr td), .string (bstr od), .slice A' wd.length c']) (by simp [results, Tryd.results39, go_sem, kcl0]) rfl ?_
              rw [HR1.out]
              refine ⟨_, c2 + 1, rfl, hclt, rfl, ⟨_, rfl, ?_⟩, ?_, ?_⟩
              · refine (HREP.out.stay (((((((Chg.refl (fun j => j = w.heap.size) _).setCell (fun _ => rfl) _).setCell (fun _ => rfl) _).setCell (fun _ => rfl) _).setCell (fun _ => rfl) _).setCell (fun _ => rfl) _)) (fun j hj e => ?_)).mono (fun j hj _ => ?_)
                · simp at hj; omega
                · simp at hj; omega
              · exact row_far (row_far (row_far (row_far (row_far KP.out.scan hn4 _) hn4 _) hn4 _) hn4 _) hn4 _
              · exact ((((KP.out.chg.setCell (fun h => absurd h (by simp)) _).setCell (fun h => absurd h (by simp)) _).setCell (fun h => absurd h (by simp)) _).setCell (fun h => absurd h (by simp)) _).setCell (fun h => absurd h (by simp)) _
      · have hoe : ob.toList.isEmpty = false := by
          rw [ByteArray.toList_eq, HOB.out, bstr_toList]
          cases O with
          | nil => exact absurd rfl hO
          | cons x y => rfl
        have hOp : 0 < O.length := by
          cases O with
          | nil => exact absurd rfl hO
          | cons x y => simp
        have HF1 : Hid (∀ RW, wordF n (d + 1) true q [] (s.data.toList.drop (c + O.length)) = RW → finish (s.size - a) q T O RW = R) := Lib.hid (by
          rintro RW rfl
          rw [← HF.out, if_neg (by simpa using hO)])
        clear HF
        have HL := Lib.hid ((scan_len n).word (d + 1) true q [] (s.data.toList.drop (c + O.length)))
        go_wp2_with fail
        have hA4 : ScanAt ((wr4.setCell ⟨g, 1, none⟩ (.int .i64 ((c : Int) + (O.length : Int)))).drew) g s ((c + O.length : Nat) : Int) ((d + 1 : Nat) : Int) := (KP.out.at' (c + O.length)).scan
        refine (IH _ g s (c + O.length) (d + 1) true q hA4 (by omega) hs (by omega) (by omega)).mono ?_
        intro e w5 hpost
        generalize hRW : wordF n (d + 1) true q [] (s.data.toList.drop (c + O.length)) = RW at hpost HL
        have HF2 := Lib.hid (HF1.out RW hRW); clear HF1 hRW
        cases RW with
        | err left code =>
          obtain ⟨k5, hk5, hl5, rfl, hC5⟩ := hpost
          refine ⟨rfl, ?_⟩
          rw [← HF2.out]
          exact ⟨k5, hk5, hl5, rfl, ((KP.out.at' (c + O.length)).drewN 1).chg.trans hC5 (fun _ h _ => h)⟩
        | ok l rest =>
          obtain ⟨v5, k5, rfl, hk5, rfl, hO5, hA5, hC5⟩ := hpost
          have hL := HL.out _ _ rfl
          rw [drop_len, drop_len] at hL
          have hwl : Part.wts l ≤ 20000 := by simp only [Part.wts] at hL; omega
          have hac5 : a + 3 ≤ k5 := by omega
          have kP := ((KP.out.at' (c + O.length)).drewN 1).step hA5 hC5
          obtain ⟨A5, c5, rfl, _, hm5⟩ := Own.form hO5
          have hsz' : w.heap.size + 1 < (wr4.setCell ⟨g, 1, none⟩ (.int .i64 ((c : Int) + (O.length : Int)))).drew.heap.size := by simp; omega
          have HV5 : Rep w5 (fun j => w.heap.size + 2 ≤ j) (.sl 32 5 (Part.ds l)) [.slice A5 (Part.ds l).length c5] := (Own.rep hO5).mono (fun j h _ => h.elim (fun h => h.elim) (fun h => by omega))
          have HF := Lib.hid HF2.out
          clear HF2 HL hL hO5 hA5 hC5 hsz' hA4 hoe hOp hO t0 t1 hcs hac hkle KP h0 h1 h2 f1 f2 hgl kcl kfr kcl0 kfr0 hsz hgo hn1 hn2 hn3 hn4
          obtain ⟨h0, h1, h2, f1, f2, hgl⟩ := kP.scan.cells
          have kcl := row_cells kP.part
          have kfr := row_free kP.part
          have kcl0 := row_cells kP.res
          have kfr0 := row_free kP.res
          have hsz := row_lt kP.part
          have hgo := kP.old
          have hn1 : ¬ w.heap.size + 1 = g := by omega
          have hn2 : ¬ g = w.heap.size + 1 := by omega
          have hn3 : ¬ w.heap.size = g := by omega
          have hn4 : ¬ g = w.heap.size := by omega
          have KP := Lib.hid kP; clear kP
          go_wp2
          have HV6 := HV5.stay ((Chg.refl (fun j => j = w.heap.size + 1) _).setCell (p := ⟨w.heap.size + 1, 4, none⟩) (fun _ => rfl) (.slice A5 (Part.ds l).length c5)) (fun j h e => by omega)
          clear HV5
          revert HV6
          have kP : ParAt w (w5.setCell ⟨w.heap.size + 1, 4, none⟩ (.slice A5 (Part.ds l).length c5)) g s (k5) (d + 1) q tx ob (.slice A5 (Part.ds l).length c5) := KP.out.word (.slice A5 (Part.ds l).length c5)
          clear h0 h1 h2 f1 f2 hgl kcl kfr kcl0 kfr0 hsz hgo hn1 hn2 hn3 hn4 KP
          revert kP
          generalize w5.setCell ⟨w.heap.size + 1, 4, none⟩ (.slice A5 (Part.ds l).length c5) = wr6
          intro kP
          intro HV
          obtain ⟨h0, h1, h2, f1, f2, hgl⟩ := kP.scan.cells
          have kcl := row_cells kP.part
          have kfr := row_free kP.part
          have kcl0 := row_cells kP.res
          have kfr0 := row_free kP.res
          have hsz := row_lt kP.part
          have hgo := kP.old
          have hn1 : ¬ w.heap.size + 1 = g := by omega
          have hn2 : ¬ g = w.heap.size + 1 := by omega
          have hn3 : ¬ w.heap.size = g := by omega
          have hn4 : ¬ g = w.heap.size := by omega
          have KP := Lib.hid kP; clear kP
          have t0 : (0 : Int) ≤ (k5 : Int) := by omega
          go_quiet (fail)
          by_cases hend : k5 = s.size
          · have t1 : ((k5 : Int) == (s.size : Int)) = true := by simp; omega
            go_wp2_with (go_at_call 24; refine (fail_calls _ _ _ _).mono ?_; rintro e w1 ⟨rfl, rfl⟩)
            refine ⟨rfl, ?_⟩
            rw [← HF.out, drop_end s k5 (by omega)]
            exact ⟨a, by omega, rfl, rfl, ((KP.out.chg.drewN _).mono (fun _ h _ => h))⟩
          · have t1 : ((k5 : Int) == (s.size : Int)) = false := by simp; omega
            have hclt : k5 < s.size := by omega
            have hHB : isAt (s.data.toList.drop k5) 0 125 = (s[k5] == 125) := by rw [byte_drop s k5 hclt]; rfl
            have HFE : Hid (R = if s[k5] == 125 then .ok (allB (.mk 2 q T O l) q) (s.data.toList.drop (k5 + 1)) else .err (s.size - k5) 61) := Lib.hid (by
              rw [← HF.out, byte_drop s k5 hclt]
              simp only [finish, drop_len]
              split
              · rfl
              · rw [show s.size - (k5 + 1) + 1 = s.size - k5 by omega])
            clear HF
            have hA := KP.out.scan
            go_wp2_with fail
            cases hbr : s[k5] == 125
            case false =>
              rw [hbr] at hHB
              refine Calls.mono (is_brace g s k5 _ _ (hA.drewN _) (by omega) hs _ hHB) ?_
              rintro e w' ⟨rfl, m, rfl⟩
              go_wp2_with (go_at_call 24; refine (fail_calls _ _ _ _).mono ?_; rintro e w1 ⟨rfl, rfl⟩)
              refine ⟨rfl, ?_⟩
              rw [HFE.out, hbr]
              exact ⟨k5, by omega, rfl, rfl, KP.out.chg.drewN _⟩
            case true =>
              rw [hbr] at hHB
              refine Calls.mono (is_brace g s k5 _ _ (hA.drewN _) (by omega) hs _ hHB) ?_
              rintro e w' ⟨rfl, m, rfl⟩
              go_wp2_with fail
              have hrep : Rep wr6 (fun j => w.heap.size + 2 ≤ j) (Part.d (.mk 2 q T O l)) [.int .i64 2, .bool q, .string tx, .string ob, (.slice A5 (Part.ds l).length c5)] := part_rep.2 ⟨_, by rw [HXT.out, HOB.out], HV⟩
              refine (all_calls _ (fun j => w.heap.size + 2 ≤ j) (.mk 2 q T O l) q [.int .i64 2, .bool q, .string tx, .string ob, (.slice A5 (Part.ds l).length c5)] (by simp only [Part.wt]; omega) ?_).mono ?_
              · exact hrep.stay ((((Chg.refl (· = g) _).drewN _).setCell (fun _ => rfl) _).setCell (fun _ => rfl) _) (fun j h e => by omega)
              · rintro e w4 ⟨cs', rfl, hr', hC'⟩
                have kP4 : ParAt w w4 g s (k5 + 1) d q tx ob (.slice A5 (Part.ds l).length c5) := ParAt.step0 (((KP.out.drewN _).at' (k5 + 1)).deep' d) hC'
                have hz : wr6.heap.size ≤ w4.heap.size := by simpa using hC'.size
                have HR1 : Hid (R = .ok (allB (.mk 2 q T O l) q) (s.data.toList.drop (k5 + 1))) := Lib.hid (by rw [HFE.out, if_pos hbr])
                clear HFE
                revert hr' HR1
                generalize allB (.mk 2 q T O l) q = pp
                obtain ⟨kd, qd, td, od, wd⟩ := pp
                intro hr' HR1
                obtain ⟨A', c', rfl, hwv, _, _⟩ := part_rep2 hr'
                have HREP := Lib.hid hr'; clear hr'
                clear h0 h1 h2 f1 f2 hgl kcl kfr kcl0 kfr0 KP hHB hbr hA
                have kcl0 := row_cells kP4.res
                have kfr0 := row_free kP4.res
                have hlt0 := row_lt kP4.res
                have KP := Lib.hid kP4; clear kP4
                go_wp2
                refine bodyPost_ret (v := .agg #[.int .i64 kd, .bool qd, .string (bstr td), .string (bstr od), .slice A' wd.length c']) (by simp [results, Tryd.results39, go_sem, kcl0]) rfl ?_
                rw [HR1.out]
                refine ⟨_, k5 + 1, rfl, hclt, rfl, ⟨_, rfl, ?_⟩, ?_, ?_⟩
                · refine (HREP.out.stay (((((((Chg.refl (fun j => j = w.heap.size) _).setCell (fun _ => rfl) _).setCell (fun _ => rfl) _).setCell (fun _ => rfl) _).setCell (fun _ => rfl) _).setCell (fun _ => rfl) _)) (fun j hj e => ?_)).mono (fun j hj _ => ?_)
                  · simp at hj; omega
                  · simp at hj; omega
                · exact row_far (row_far (row_far (row_far (row_far KP.out.scan hn4 _) hn4 _) hn4 _) hn4 _) hn4 _
                · exact ((((KP.out.chg.setCell (fun h => absurd h (by simp)) _).setCell (fun h => absurd h (by simp)) _).setCell (fun h => absurd h (by simp)) _).setCell (fun h => absurd h (by simp)) _).setCell (fun h => absurd h (by simp)) _
    · have t1 : decide ((c : Int) < (s.size : Int)) = false := by simp; omega
      obtain ⟨O, l, hO, hl, HF1⟩ : ∃ O l, O = ([] : Bytes) ∧ l = ([] : List Part) ∧ Hid (finish (s.size - a) q T O (.ok l (s.data.toList.drop c)) = R) := ⟨[], [], rfl, rfl, Lib.hid (by rw [← HF.out, drop_end s c hcs]; rfl)⟩
      clear HF
      have HF := HF1; clear HF1
      have hOl : O.length ≤ 64 := by rw [hO]; decide
      have HOB : Hid (⟨#[]⟩ = bstr O) := Lib.hid (by rw [hO]; rfl)
      clear hO
      have HV : Rep wr3 (fun j => w.heap.size + 2 ≤ j) (.sl 32 5 (Part.ds l)) [.slice none 0 0] := by rw [hl]; exact (Own.nil _ _ _ _).rep
      have hwl : Part.wts l ≤ 20000 := by rw [hl]; simp [Part.wts]
      clear hl
      go_quiet (fail)
      go_wp2
      have t0 : (0 : Int) ≤ (c : Int) := by omega
      go_quiet (fail)
      have t1 : ((c : Int) == (s.size : Int)) = true := by simp; omega
      go_wp2_with (go_at_call 24; refine (fail_calls _ _ _ _).mono ?_; rintro e w1 ⟨rfl, rfl⟩)
      refine ⟨rfl, ?_⟩
      rw [← HF.out, drop_end s c (by omega)]
      exact ⟨a, by omega, rfl, rfl, ((KP.out.chg.drewN _).mono (fun _ h _ => h))⟩
set_option maxRecDepth 100000 in
set_option maxHeartbeats 4000000 in
theorem param_op3 (n : Nat) (IH : WordSaid n) (w : World) (g : Nat) (s : ByteArray) (a d : Nat) (q : Bool) (h : ScanAt w g s a d) (ha : a + 2 ≤ s.size) (hs : s.size ≤ 8192) (hd : ¬ 16 < d + 1) (hf : 4 * (s.size - a) ≤ n + 1) (i0 : isAt (s.data.toList.drop (a + 2)) 0 35 = true) (hl : a + 3 < s.size) (i1 : isAt (s.data.toList.drop (a + 2)) 1 125 = true) :
    Calls Tryd.prog 39 #[.pointer (some ⟨g, 0, none⟩), .bool q] w (ScanPost w g s d (paramF (n + 1) d q (s.data.toList.drop (a + 2))) (fun _ => False) (PartVal w)) := by
  generalize hR : paramF (n + 1) d q (s.data.toList.drop (a + 2)) = R
  have hlen : lenB (s.data.toList.drop (a + 2)) = false := by rw [lenB_is, drop_len]; simp [i0, i1]
  rw [paramF, if_neg hd, hlen, if_neg (by simp), drop_len, show s.size - (a + 2) + 2 = s.size - a by omega] at hR
  have HR := Lib.hid hR; clear hR hlen
  obtain ⟨h0, h1, h2, f1, f2, hgl⟩ := h.cells
  have e1 : decide ((16 : Int) < (d : Int) + 1) = false := by simp; omega
  have kP := ParAt.start h q (a + 2) (d + 1)
  have i23 : (a : Int) + 2 + 1 < (s.size : Int) ∧ (a : Int) + 3 < (s.size : Int) := (by omega); obtain ⟨i2, i3⟩ := i23
  go_enter Tryd.func39, Tryd.ntmps39
  go_wp2
  simp only [Int.natCast_add, Int.cast_ofNat_Int] at kP
  revert kP
  generalize (((w.setCell ⟨g, 2, none⟩ (.int .i64 ((d : Int) + 1))).setCell ⟨g, 1, none⟩ (.int .i64 ((a : Int) + 2))).alloc (.cells #[.int .i64 0, .bool false, .string ⟨#[]⟩, .string ⟨#[]⟩, .slice none 0 0] 32)).alloc (.cells #[.int .i64 2, .bool q, .string ⟨#[]⟩, .string ⟨#[]⟩, .slice none 0 0] 32) = wr
  intro kP
  clear h0 h1 h2 f1 f2 hgl h
  have hA : ScanAt wr g s ((a + 2 : Nat) : Int) ((d : Int) + 1) := kP.scan
  obtain ⟨h0, h1, h2, f1, f2, hgl⟩ := kP.scan.cells
  have kcl := row_cells kP.part
  have kfr := row_free kP.part
  have kcl0 := row_cells kP.res
  have kfr0 := row_free kP.res
  have hsz := row_lt kP.part
  have hgo := kP.old
  have hn1 : ¬ w.heap.size + 1 = g := by omega
  have hn2 : ¬ g = w.heap.size + 1 := by omega
  have hn3 : ¬ w.heap.size = g := by omega
  have hn4 : ¬ g = w.heap.size := by omega
  have KP := Lib.hid kP; clear kP
  go_quiet ((go_at_call 51; first | with_reducible exact (is_hash g s (a + 2) _ _ (hA.drewN _) ha hs _ i0).quiet_of | with_reducible exact (is_brace1 g s (a + 2) _ _ (hA.drewN _) ha hs _ i1).quiet_of))
  go_wp2
  have kP : ParAt w (wr.drewN nq) g s (a + 2) (d + 1) q ⟨#[]⟩ ⟨#[]⟩ (.slice none 0 0) := KP.out.drewN nq
  clear h0 h1 h2 f1 f2 hgl kcl kfr kcl0 kfr0 hsz hgo hn1 hn2 hn3 hn4 KP
  revert kP
  generalize wr.drewN nq = wr2
  intro kP
  clear hA wr
  clear i0 i1 i2 i3 hl
  obtain ⟨b, hbe⟩ : ∃ b, b = a + 2 := ⟨_, rfl⟩
  rw [← hbe] at kP HR
  have hb0 : b ≤ s.size := by omega
  have hba : a + 2 ≤ b := by omega
  clear hbe
  obtain ⟨h0, h1, h2, f1, f2, hgl⟩ := kP.scan.cells
  have kcl := row_cells kP.part
  have kfr := row_free kP.part
  have kcl0 := row_cells kP.res
  have kfr0 := row_free kP.res
  have hsz := row_lt kP.part
  have hgo := kP.old
  have hn1 : ¬ w.heap.size + 1 = g := by omega
  have hn2 : ¬ g = w.heap.size + 1 := by omega
  have hn3 : ¬ w.heap.size = g := by omega
  have hn4 : ¬ g = w.heap.size := by omega
  have KP := Lib.hid kP; clear kP
  generalize hk : parameter (s.data.toList.drop b) = k at HR
  have hkle : b + k ≤ s.size := by have := parameter_le (s.data.toList.drop b); rw [hk, drop_len] at this; omega
  have HK := Lib.hid hk
  have HTP : Hid (parameter (s.extract b s.size).data.toList = k) := Lib.hid (by rw [Lib.extract_to_end]; exact hk)
  clear hk
  have p0 : (0 : Int) ≤ (b : Int) := by omega
  have p1 : (b : Int) ≤ (s.size : Int) := by omega
  have htz : (s.extract b s.size).size ≤ 8192 := by simp [ByteArray.size_extract]; omega
  go_quiet ((go_at_call 52; exact (par_q _ _ _ htz HTP.out).quiet_of_same))
  revert nq; intro nq1
  clear htz p1
  have hgood : (k == 0 || decide (k > 64)) = true ∨ (0 < k ∧ k ≤ 64) := by
    by_cases hh : 0 < k ∧ k ≤ 64
    · exact .inr hh
    · left; simp; omega
  rcases hgood with hbad | ⟨hk0, hk64⟩
  · have HRE : Hid (R = .err (s.size - b) 61) := Lib.hid (by rw [← HR.out, paramG, HK.out, if_pos hbad, drop_len])
    clear HR
    cases hk0 : k == 0
    case true =>
      obtain rfl : k = 0 := by simpa using hk0
      go_wp2_with (go_at_call 24; refine (fail_calls _ _ _ _).mono ?_; rintro e w1 ⟨rfl, rfl⟩)
      refine ⟨rfl, ?_⟩
      rw [HRE.out]
      exact ⟨b, by omega, rfl, rfl, KP.out.chg.drewN _⟩
    case false =>
      have hk1 : ((k : Int) == 0) = false := by simp at hk0 ⊢; omega
      have hk64 : decide ((64 : Int) < (k : Int)) = true := by rw [hk0] at hbad; simp at hbad ⊢; omega
      clear hk0 hbad
      go_wp2_with (go_at_call 24; refine (fail_calls _ _ _ _).mono ?_; rintro e w1 ⟨rfl, rfl⟩)
      refine ⟨rfl, ?_⟩
      rw [HRE.out]
      exact ⟨b, by omega, rfl, rfl, KP.out.chg.drewN _⟩
  · have HF : Hid (finish (s.size - a) q ((s.data.toList.drop b).take k) (opM (s.data.toList.drop (b + k))) (if opM (s.data.toList.drop (b + k)) == [] then .ok [] (s.data.toList.drop (b + k)) else wordF n (d + 1) true q [] (s.data.toList.drop (b + k + (opM (s.data.toList.drop (b + k))).length))) = R) := Lib.hid (by
      rw [← HR.out, paramG, HK.out, if_neg (show ¬ (k == 0 || decide (k > 64)) = true by simp; omega)]
      simp only [Bool.false_or, Bool.false_eq_true, if_false, List.drop_drop])
    have hk1 : ((k : Int) == 0) = false := by simp; omega
    have hk2 : decide ((64 : Int) < (k : Int)) = false := by simp; omega
    have p1 : (b : Int) ≤ (b : Int) + (k : Int) := by omega
    have p3 : (0 : Int) ≤ (k : Int) := by omega
    have p4 : IntKind.i64.wrap ((b : Int) + (k : Int)) = (b : Int) + (k : Int) := IntWalk.i64_in _ (by omega)
    have p5 : ((b : Int) + (k : Int)).toNat = b + k := by omega
    have p2 : (b : Int) + (k : Int) ≤ (s.size : Int) := by omega
    have hxt := extract_bstr s b (b + k)
    rw [show b + k - b = k by omega] at hxt
    have HXT := Lib.hid hxt; clear hxt
    go_wp2
    refine still_tail2 16 (by kernel_rfl) (by kernel_rfl) ?_
    simp only [List.take_succ_cons, List.take_zero, List.drop_succ_cons, List.drop_zero]
    repeat still_step
    refine wpStill_nil ?_
    go_wp2
    have kP : ParAt w (((wr2.drewN (nq1 + 1)).setCell ⟨w.heap.size + 1, 2, none⟩ (.string (s.extract b (b + k)))).setCell ⟨g, 1, none⟩ (.int .i64 ((b : Int) + (k : Int)))) g s (b + k) (d + 1) q (s.extract b (b + k)) ⟨#[]⟩ (.slice none 0 0) := ((KP.out.drewN (nq1 + 1)).text (s.extract b (b + k))).at' (b + k)
    clear h0 h1 h2 f1 f2 hgl kcl kfr kcl0 kfr0 hsz hgo hn1 hn2 hn3 hn4 KP
    revert kP
    generalize ((wr2.drewN (nq1 + 1)).setCell ⟨w.heap.size + 1, 2, none⟩ (.string (s.extract b (b + k)))).setCell ⟨g, 1, none⟩ (.int .i64 ((b : Int) + (k : Int))) = wr3
    intro kP
    clear p0 p1 p2 p3 p4 p5 hk1 hk2 HTP HK HR e1 wr2
    have hTl : ((s.data.toList.drop b).take k).length ≤ 64 := by simp; omega
    revert hTl
    revert kP
    revert HXT
    revert HF
    generalize s.extract b (b + k) = tx
    generalize (s.data.toList.drop b).take k = T
    obtain ⟨c, hc⟩ : ∃ c, c = b + k := ⟨_, rfl⟩
    rw [← hc] at hkle ⊢
    intro HF HXT kP hTl
    have hac : a + 3 ≤ c := by omega
    clear hc hba hb0 hk0 hk64
    obtain ⟨h0, h1, h2, f1, f2, hgl⟩ := kP.scan.cells
    have kcl := row_cells kP.part
    have kfr := row_free kP.part
    have kcl0 := row_cells kP.res
    have kfr0 := row_free kP.res
    have hsz := row_lt kP.part
    have hgo := kP.old
    have hn1 : ¬ w.heap.size + 1 = g := by omega
    have hn2 : ¬ g = w.heap.size + 1 := by omega
    have hn3 : ¬ w.heap.size = g := by omega
    have hn4 : ¬ g = w.heap.size := by omega
    have KP := Lib.hid kP; clear kP
    by_cases hcs : c < s.size
    · have t1 : decide ((c : Int) < (s.size : Int)) = true := by simp; omega
      have t0 : (0 : Int) ≤ (c : Int) := by omega
      have t2 : (c : Int) ≤ (s.size : Int) := by omega
      go_quiet (fail)
      have hO : opM (s.extract c s.size).data.toList = opM (s.data.toList.drop c) := by rw [Lib.extract_to_end]
      have hOl : (opM (s.data.toList.drop c)).length ≤ s.size - c := by have := opL_prefix ops (s.data.toList.drop c); rwa [drop_len] at this
      revert HF hO hOl
      generalize opM (s.data.toList.drop c) = O
      intro HF hO hOl
      have HO := Lib.hid hO; clear hO
      go_wp2
      go_region_held3 (fun w' => w'.cell? ⟨g, 0, none⟩ = some (.string s) ∧ w'.cell? ⟨g, 1, none⟩ = some (.int .i64 c))
        (first
          | go_keep
          | (go_split_ands; exact ⟨hC1.cell (by assumption) (fun e => e), hC1.cell (by assumption) (fun e => e)⟩))
        (first | (go_at_call 53; refine (op_calls _ _).mono ?_; rintro e w1 ⟨rfl, hC1⟩; have kP5 := ParAt.step0 (KP.out.drewN _) hC1; have kcl5 := row_cells kP5.part; have kfr5 := row_free kP5.part; have KP5 := Lib.hid kP5; clear kP5))
      have hO' : opM (List.take (s.size - c) (s.data.toList.drop c)) = O := by rw [List.take_of_length_le (by rw [drop_len]; omega), ← HO.out, Lib.extract_to_end]
      simp only [hO']
      have kP : ParAt w (w1.setCell ⟨w.heap.size + 1, 3, none⟩ (.string (bstr O))) g s (c) (d + 1) q tx (bstr O) (.slice none 0 0) := ParAt.op' KP5.out (bstr O)
      clear h0 h1 h2 f1 f2 hgl kcl kfr kcl0 kfr0 hsz hgo hn1 hn2 hn3 hn4 KP
      revert kP
      generalize w1.setCell ⟨w.heap.size + 1, 3, none⟩ (.string (bstr O)) = wr4
      intro kP
      clear kcl5 kfr5 KP5 hC1 wr3 HO hO' t1 t2
      have hos : (bstr O).size = O.length := by rw [← len_data, bstr_toList]
      revert hos
      revert kP
      generalize hob : bstr O = ob
      intro kP hos
      have HOB := Lib.hid hob.symm; clear hob
      obtain ⟨h0, h1, h2, f1, f2, hgl⟩ := kP.scan.cells
      have kcl := row_cells kP.part
      have kfr := row_free kP.part
      have kcl0 := row_cells kP.res
      have kfr0 := row_free kP.res
      have hsz := row_lt kP.part
      have hgo := kP.old
      have hn1 : ¬ w.heap.size + 1 = g := by omega
      have hn2 : ¬ g = w.heap.size + 1 := by omega
      have hn3 : ¬ w.heap.size = g := by omega
      have hn4 : ¬ g = w.heap.size := by omega
      have KP := Lib.hid kP; clear kP
      have t1 : IntKind.i64.wrap ((c : Int) + (ob.size : Int)) = (c : Int) + (ob.size : Int) := IntWalk.i64_in _ (by omega)
      go_wp2
      refine still_tail2 10 (by kernel_rfl) (by kernel_rfl) ?_
      simp only [List.take_succ_cons, List.take_zero, List.drop_succ_cons, List.drop_zero]
      repeat still_step
      refine wpStill_nil ?_
      by_cases hO : O = []
      · have hoe : ob.toList.isEmpty = true := by rw [ByteArray.toList_eq, HOB.out, bstr_toList, hO]; rfl
        obtain ⟨l, hl, HF1⟩ : ∃ l, l = ([] : List Part) ∧ Hid (finish (s.size - a) q T O (.ok l (s.data.toList.drop (c + O.length))) = R) := ⟨[], rfl, Lib.hid (by rw [← HF.out, if_pos (by rw [hO]; rfl), hO]; rfl)⟩
        clear HF
        have HF := HF1; clear HF1
        have hcl2 : c + O.length ≤ s.size := by omega
        clear hO
        go_wp2
        have kP : ParAt w ((wr4.setCell ⟨g, 1, none⟩ (.int .i64 ((c : Int) + (O.length : Int)))).drew) g s (c + O.length) (d + 1) q tx ob (.slice none 0 0) := (KP.out.at' (c + O.length)).drewN 1
        clear h0 h1 h2 f1 f2 hgl kcl kfr kcl0 kfr0 hsz hgo hn1 hn2 hn3 hn4 KP
        revert kP
        generalize (wr4.setCell ⟨g, 1, none⟩ (.int .i64 ((c : Int) + (O.length : Int)))).drew = wr5
        intro kP
        have hac2 : a + 3 ≤ c + O.length := by omega
        clear hoe t0 t1 hcs hac hkle
        revert hac2; revert hcl2; revert kP; revert HF
        generalize c + O.length = c2
        intro HF kP hcl2 hac2
        have HV : Rep wr5 (fun j => w.heap.size + 2 ≤ j) (.sl 32 5 (Part.ds l)) [.slice none 0 0] := by rw [hl]; exact (Own.nil _ _ _ _).rep
        have hwl : Part.wts l ≤ 20000 := by rw [hl]; simp [Part.wts]
        clear hl
        obtain ⟨h0, h1, h2, f1, f2, hgl⟩ := kP.scan.cells
        have kcl := row_cells kP.part
        have kfr := row_free kP.part
        have kcl0 := row_cells kP.res
        have kfr0 := row_free kP.res
        have hsz := row_lt kP.part
        have hgo := kP.old
        have hn1 : ¬ w.heap.size + 1 = g := by omega
        have hn2 : ¬ g = w.heap.size + 1 := by omega
        have hn3 : ¬ w.heap.size = g := by omega
        have hn4 : ¬ g = w.heap.size := by omega
        have KP := Lib.hid kP; clear kP
        have t0 : (0 : Int) ≤ (c2 : Int) := by omega
        go_quiet (fail)
        by_cases hend : c2 = s.size
        · have t1 : ((c2 : Int) == (s.size : Int)) = true := by simp; omega
          go_wp2_with (go_at_call 24; refine (fail_calls _ _ _ _).mono ?_; rintro e w1 ⟨rfl, rfl⟩)
          refine ⟨rfl, ?_⟩
          rw [← HF.out, drop_end s c2 (by omega)]
          exact ⟨a, by omega, rfl, rfl, ((KP.out.chg.drewN _).mono (fun _ h _ => h))⟩
        · have t1 : ((c2 : Int) == (s.size : Int)) = false := by simp; omega
          have hclt : c2 < s.size := by omega
          have hHB : isAt (s.data.toList.drop c2) 0 125 = (s[c2] == 125) := by rw [byte_drop s c2 hclt]; rfl
          have HFE : Hid (R = if s[c2] == 125 then .ok (allB (.mk 2 q T O l) q) (s.data.toList.drop (c2 + 1)) else .err (s.size - c2) 61) := Lib.hid (by
            rw [← HF.out, byte_drop s c2 hclt]
            simp only [finish, drop_len]
            split
            · rfl
            · rw [show s.size - (c2 + 1) + 1 = s.size - c2 by omega])
          clear HF
          have hA := KP.out.scan
          go_wp2_with fail
          cases hbr : s[c2] == 125
          case false =>
            rw [hbr] at hHB
            refine Calls.mono (is_brace g s c2 _ _ (hA.drewN _) (by omega) hs _ hHB) ?_
            rintro e w' ⟨rfl, m, rfl⟩
            go_wp2_with (go_at_call 24; refine (fail_calls _ _ _ _).mono ?_; rintro e w1 ⟨rfl, rfl⟩)
            refine ⟨rfl, ?_⟩
            rw [HFE.out, hbr]
            exact ⟨c2, by omega, rfl, rfl, KP.out.chg.drewN _⟩
          case true =>
            rw [hbr] at hHB
            refine Calls.mono (is_brace g s c2 _ _ (hA.drewN _) (by omega) hs _ hHB) ?_
            rintro e w' ⟨rfl, m, rfl⟩
            go_wp2_with fail
            have hrep : Rep wr5 (fun j => w.heap.size + 2 ≤ j) (Part.d (.mk 2 q T O l)) [.int .i64 2, .bool q, .string tx, .string ob, (.slice none 0 0)] := part_rep.2 ⟨_, by rw [HXT.out, HOB.out], HV⟩
            refine (all_calls _ (fun j => w.heap.size + 2 ≤ j) (.mk 2 q T O l) q [.int .i64 2, .bool q, .string tx, .string ob, (.slice none 0 0)] (by simp only [Part.wt]; omega) ?_).mono ?_
            · exact hrep.stay ((((Chg.refl (· = g) _).drewN _).setCell (fun _ => rfl) _).setCell (fun _ => rfl) _) (fun j h e => by omega)
            · rintro e w4 ⟨cs', rfl, hr', hC'⟩
              have kP4 : ParAt w w4 g s (c2 + 1) d q tx ob (.slice none 0 0) := ParAt.step0 (((KP.out.drewN _).at' (c2 + 1)).deep' d) hC'
              have hz : wr5.heap.size ≤ w4.heap.size := by simpa using hC'.size
              have HR1 : Hid (R = .ok (allB (.mk 2 q T O l) q) (s.data.toList.drop (c2 + 1))) := Lib.hid (by rw [HFE.out, if_pos hbr])
              clear HFE
              revert hr' HR1
              generalize allB (.mk 2 q T O l) q = pp
              obtain ⟨kd, qd, td, od, wd⟩ := pp
              intro hr' HR1
              obtain ⟨A', c', rfl, hwv, _, _⟩ := part_rep2 hr'
              have HREP := Lib.hid hr'; clear hr'
              clear h0 h1 h2 f1 f2 hgl kcl kfr kcl0 kfr0 KP hHB hbr hA
              have kcl0 := row_cells kP4.res
              have kfr0 := row_free kP4.res
              have hlt0 := row_lt kP4.res
              have KP := Lib.hid kP4; clear kP4
              go_wp2
              refine bodyPost_ret (v := .agg #[.int .i64 kd, .bool qd, .string (bstr td), .string (bstr od), .slice A' wd.length c']) (by simp [results, Tryd.results39, go_sem, kcl0]) rfl ?_
              rw [HR1.out]
              refine ⟨_, c2 + 1, rfl, hclt, rfl, ⟨_, rfl, ?_⟩, ?_, ?_⟩
              · refine (HREP.out.stay (((((((Chg.refl (fun j => j = w.heap.size) _).setCell (fun _ => rfl) _).setCell (fun _ => rfl) _).setCell (fun _ => rfl) _).setCell (fun _ => rfl) _).setCell (fun _ => rfl) _)) (fun j hj e => ?_)).mono (fun j hj _ => ?_)
                · simp at hj; omega
                · simp at hj; omega
              · exact row_far (row_far (row_far (row_far (row_far KP.out.scan hn4 _) hn4 _) hn4 _) hn4 _) hn4 _
              · exact ((((KP.out.chg.setCell (fun h => absurd h (by simp)) _).setCell (fun h => absurd h (by simp)) _).setCell (fun h => absurd h (by simp)) _).setCell (fun h => absurd h (by simp)) _).setCell (fun h => absurd h (by simp)) _
      · have hoe : ob.toList.isEmpty = false := by
          rw [ByteArray.toList_eq, HOB.out, bstr_toList]
          cases O with
          | nil => exact absurd rfl hO
          | cons x y => rfl
        have hOp : 0 < O.length := by
          cases O with
          | nil => exact absurd rfl hO
          | cons x y => simp
        have HF1 : Hid (∀ RW, wordF n (d + 1) true q [] (s.data.toList.drop (c + O.length)) = RW → finish (s.size - a) q T O RW = R) := Lib.hid (by
          rintro RW rfl
          rw [← HF.out, if_neg (by simpa using hO)])
        clear HF
        have HL := Lib.hid ((scan_len n).word (d + 1) true q [] (s.data.toList.drop (c + O.length)))
        go_wp2_with fail
        have hA4 : ScanAt ((wr4.setCell ⟨g, 1, none⟩ (.int .i64 ((c : Int) + (O.length : Int)))).drew) g s ((c + O.length : Nat) : Int) ((d + 1 : Nat) : Int) := (KP.out.at' (c + O.length)).scan
        refine (IH _ g s (c + O.length) (d + 1) true q hA4 (by omega) hs (by omega) (by omega)).mono ?_
        intro e w5 hpost
        generalize hRW : wordF n (d + 1) true q [] (s.data.toList.drop (c + O.length)) = RW at hpost HL
        have HF2 := Lib.hid (HF1.out RW hRW); clear HF1 hRW
        cases RW with
        | err left code =>
          obtain ⟨k5, hk5, hl5, rfl, hC5⟩ := hpost
          refine ⟨rfl, ?_⟩
          rw [← HF2.out]
          exact ⟨k5, hk5, hl5, rfl, ((KP.out.at' (c + O.length)).drewN 1).chg.trans hC5 (fun _ h _ => h)⟩
        | ok l rest =>
          obtain ⟨v5, k5, rfl, hk5, rfl, hO5, hA5, hC5⟩ := hpost
          have hL := HL.out _ _ rfl
          rw [drop_len, drop_len] at hL
          have hwl : Part.wts l ≤ 20000 := by simp only [Part.wts] at hL; omega
          have hac5 : a + 3 ≤ k5 := by omega
          have kP := ((KP.out.at' (c + O.length)).drewN 1).step hA5 hC5
          obtain ⟨A5, c5, rfl, _, hm5⟩ := Own.form hO5
          have hsz' : w.heap.size + 1 < (wr4.setCell ⟨g, 1, none⟩ (.int .i64 ((c : Int) + (O.length : Int)))).drew.heap.size := by simp; omega
          have HV5 : Rep w5 (fun j => w.heap.size + 2 ≤ j) (.sl 32 5 (Part.ds l)) [.slice A5 (Part.ds l).length c5] := (Own.rep hO5).mono (fun j h _ => h.elim (fun h => h.elim) (fun h => by omega))
          have HF := Lib.hid HF2.out
          clear HF2 HL hL hO5 hA5 hC5 hsz' hA4 hoe hOp hO t0 t1 hcs hac hkle KP h0 h1 h2 f1 f2 hgl kcl kfr kcl0 kfr0 hsz hgo hn1 hn2 hn3 hn4
          obtain ⟨h0, h1, h2, f1, f2, hgl⟩ := kP.scan.cells
          have kcl := row_cells kP.part
          have kfr := row_free kP.part
          have kcl0 := row_cells kP.res
          have kfr0 := row_free kP.res
          have hsz := row_lt kP.part
          have hgo := kP.old
          have hn1 : ¬ w.heap.size + 1 = g := by omega
          have hn2 : ¬ g = w.heap.size + 1 := by omega
          have hn3 : ¬ w.heap.size = g := by omega
          have hn4 : ¬ g = w.heap.size := by omega
          have KP := Lib.hid kP; clear kP
          go_wp2
          have HV6 := HV5.stay ((Chg.refl (fun j => j = w.heap.size + 1) _).setCell (p := ⟨w.heap.size + 1, 4, none⟩) (fun _ => rfl) (.slice A5 (Part.ds l).length c5)) (fun j h e => by omega)
          clear HV5
          revert HV6
          have kP : ParAt w (w5.setCell ⟨w.heap.size + 1, 4, none⟩ (.slice A5 (Part.ds l).length c5)) g s (k5) (d + 1) q tx ob (.slice A5 (Part.ds l).length c5) := KP.out.word (.slice A5 (Part.ds l).length c5)
          clear h0 h1 h2 f1 f2 hgl kcl kfr kcl0 kfr0 hsz hgo hn1 hn2 hn3 hn4 KP
          revert kP
          generalize w5.setCell ⟨w.heap.size + 1, 4, none⟩ (.slice A5 (Part.ds l).length c5) = wr6
          intro kP
          intro HV
          obtain ⟨h0, h1, h2, f1, f2, hgl⟩ := kP.scan.cells
          have kcl := row_cells kP.part
          have kfr := row_free kP.part
          have kcl0 := row_cells kP.res
          have kfr0 := row_free kP.res
          have hsz := row_lt kP.part
          have hgo := kP.old
          have hn1 : ¬ w.heap.size + 1 = g := by omega
          have hn2 : ¬ g = w.heap.size + 1 := by omega
          have hn3 : ¬ w.heap.size = g := by omega
          have hn4 : ¬ g = w.heap.size := by omega
          have KP := Lib.hid kP; clear kP
          have t0 : (0 : Int) ≤ (k5 : Int) := by omega
          go_quiet (fail)
          by_cases hend : k5 = s.size
          · have t1 : ((k5 : Int) == (s.size : Int)) = true := by simp; omega
            go_wp2_with (go_at_call 24; refine (fail_calls _ _ _ _).mono ?_; rintro e w1 ⟨rfl, rfl⟩)
            refine ⟨rfl, ?_⟩
            rw [← HF.out, drop_end s k5 (by omega)]
            exact ⟨a, by omega, rfl, rfl, ((KP.out.chg.drewN _).mono (fun _ h _ => h))⟩
          · have t1 : ((k5 : Int) == (s.size : Int)) = false := by simp; omega
            have hclt : k5 < s.size := by omega
            have hHB : isAt (s.data.toList.drop k5) 0 125 = (s[k5] == 125) := by rw [byte_drop s k5 hclt]; rfl
            have HFE : Hid (R = if s[k5] == 125 then .ok (allB (.mk 2 q T O l) q) (s.data.toList.drop (k5 + 1)) else .err (s.size - k5) 61) := Lib.hid (by
              rw [← HF.out, byte_drop s k5 hclt]
              simp only [finish, drop_len]
              split
              · rfl
              · rw [show s.size - (k5 + 1) + 1 = s.size - k5 by omega])
            clear HF
            have hA := KP.out.scan
            go_wp2_with fail
            cases hbr : s[k5] == 125
            case false =>
              rw [hbr] at hHB
              refine Calls.mono (is_brace g s k5 _ _ (hA.drewN _) (by omega) hs _ hHB) ?_
              rintro e w' ⟨rfl, m, rfl⟩
              go_wp2_with (go_at_call 24; refine (fail_calls _ _ _ _).mono ?_; rintro e w1 ⟨rfl, rfl⟩)
              refine ⟨rfl, ?_⟩
              rw [HFE.out, hbr]
              exact ⟨k5, by omega, rfl, rfl, KP.out.chg.drewN _⟩
            case true =>
              rw [hbr] at hHB
              refine Calls.mono (is_brace g s k5 _ _ (hA.drewN _) (by omega) hs _ hHB) ?_
              rintro e w' ⟨rfl, m, rfl⟩
              go_wp2_with fail
              have hrep : Rep wr6 (fun j => w.heap.size + 2 ≤ j) (Part.d (.mk 2 q T O l)) [.int .i64 2, .bool q, .string tx, .string ob, (.slice A5 (Part.ds l).length c5)] := part_rep.2 ⟨_, by rw [HXT.out, HOB.out], HV⟩
              refine (all_calls _ (fun j => w.heap.size + 2 ≤ j) (.mk 2 q T O l) q [.int .i64 2, .bool q, .string tx, .string ob, (.slice A5 (Part.ds l).length c5)] (by simp only [Part.wt]; omega) ?_).mono ?_
              · exact hrep.stay ((((Chg.refl (· = g) _).drewN _).setCell (fun _ => rfl) _).setCell (fun _ => rfl) _) (fun j h e => by omega)
              · rintro e w4 ⟨cs', rfl, hr', hC'⟩
                have kP4 : ParAt w w4 g s (k5 + 1) d q tx ob (.slice A5 (Part.ds l).length c5) := ParAt.step0 (((KP.out.drewN _).at' (k5 + 1)).deep' d) hC'
                have hz : wr6.heap.size ≤ w4.heap.size := by simpa using hC'.size
                have HR1 : Hid (R = .ok (allB (.mk 2 q T O l) q) (s.data.toList.drop (k5 + 1))) := Lib.hid (by rw [HFE.out, if_pos hbr])
                clear HFE
                revert hr' HR1
                generalize allB (.mk 2 q T O l) q = pp
                obtain ⟨kd, qd, td, od, wd⟩ := pp
                intro hr' HR1
                obtain ⟨A', c', rfl, hwv, _, _⟩ := part_rep2 hr'
                have HREP := Lib.hid hr'; clear hr'
                clear h0 h1 h2 f1 f2 hgl kcl kfr kcl0 kfr0 KP hHB hbr hA
                have kcl0 := row_cells kP4.res
                have kfr0 := row_free kP4.res
                have hlt0 := row_lt kP4.res
                have KP := Lib.hid kP4; clear kP4
                go_wp2
                refine bodyPost_ret (v := .agg #[.int .i64 kd, .bool qd, .string (bstr td), .string (bstr od), .slice A' wd.length c']) (by simp [results, Tryd.results39, go_sem, kcl0]) rfl ?_
                rw [HR1.out]
                refine ⟨_, k5 + 1, rfl, hclt, rfl, ⟨_, rfl, ?_⟩, ?_, ?_⟩
                · refine (HREP.out.stay (((((((Chg.refl (fun j => j = w.heap.size) _).setCell (fun _ => rfl) _).setCell (fun _ => rfl) _).setCell (fun _ => rfl) _).setCell (fun _ => rfl) _).setCell (fun _ => rfl) _)) (fun j hj e => ?_)).mono (fun j hj _ => ?_)
                  · simp at hj; omega
                  · simp at hj; omega
                · exact row_far (row_far (row_far (row_far (row_far KP.out.scan hn4 _) hn4 _) hn4 _) hn4 _) hn4 _
                · exact ((((KP.out.chg.setCell (fun h => absurd h (by simp)) _).setCell (fun h => absurd h (by simp)) _).setCell (fun h => absurd h (by simp)) _).setCell (fun h => absurd h (by simp)) _).setCell (fun h => absurd h (by simp)) _
    · have t1 : decide ((c : Int) < (s.size : Int)) = false := by simp; omega
      obtain ⟨O, l, hO, hl, HF1⟩ : ∃ O l, O = ([] : Bytes) ∧ l = ([] : List Part) ∧ Hid (finish (s.size - a) q T O (.ok l (s.data.toList.drop c)) = R) := ⟨[], [], rfl, rfl, Lib.hid (by rw [← HF.out, drop_end s c hcs]; rfl)⟩
      clear HF
      have HF := HF1; clear HF1
      have hOl : O.length ≤ 64 := by rw [hO]; decide
      have HOB : Hid (⟨#[]⟩ = bstr O) := Lib.hid (by rw [hO]; rfl)
      clear hO
      have HV : Rep wr3 (fun j => w.heap.size + 2 ≤ j) (.sl 32 5 (Part.ds l)) [.slice none 0 0] := by rw [hl]; exact (Own.nil _ _ _ _).rep
      have hwl : Part.wts l ≤ 20000 := by rw [hl]; simp [Part.wts]
      clear hl
      go_quiet (fail)
      go_wp2
      have t0 : (0 : Int) ≤ (c : Int) := by omega
      go_quiet (fail)
      have t1 : ((c : Int) == (s.size : Int)) = true := by simp; omega
      go_wp2_with (go_at_call 24; refine (fail_calls _ _ _ _).mono ?_; rintro e w1 ⟨rfl, rfl⟩)
      refine ⟨rfl, ?_⟩
      rw [← HF.out, drop_end s c (by omega)]
      exact ⟨a, by omega, rfl, rfl, ((KP.out.chg.drewN _).mono (fun _ h _ => h))⟩

theorem param_said (n : Nat) (IH : WordSaid n) : ParamSaid (n + 1) := by
  intro w g s a d q h ha hs hd hf
  by_cases hdeep : 16 < d + 1
  · exact param_deep n w g s a d q h ha hs hd hdeep
  · cases i0 : isAt (s.data.toList.drop (a + 2)) 0 35 with
    | false => exact param_op1 n IH w g s a d q h ha hs hdeep hf i0
    | true =>
      by_cases hl : a + 3 < s.size
      · cases i1 : isAt (s.data.toList.drop (a + 2)) 1 125 with
        | true => exact param_op3 n IH w g s a d q h ha hs hdeep hf i0 hl i1
        | false => exact param_len n IH w g s a d q h ha hs hdeep (by rw [lenB_is, i0, i1, drop_len]; simp; omega)
      · exact param_op2 n IH w g s a d q h ha hs hdeep hf i0 hl
end Go.Proofs.YtdfnkmiabmjolaaDoor
namespace Go.Proofs.YtdfnkmiabmjolaaDoor
open Go.RowKit
set_option linter.unusedVariables false
set_option linter.unusedSimpArgs false

theorem word_nil (n d : Nat) (br q : Bool) (l : List Part) : wordF (n + 1) d br q l [] = .ok l [] := by rw [wordF]
theorem word_cons (n d : Nat) (br q : Bool) (l : List Part) (c : UInt8) (r : Bytes) : wordF (n + 1) d br q l (c :: r) =
    if (br && c == 125) || (!br && metaB c) then .ok l (c :: r)
    else if c == 92 then (match escape l (c :: r) with | .ok l' r' => wordF n d br q l' r' | .err a e => .err a e)
    else if c == 39 then (match idx 39 r with | none => .err (r.length + 1) 60 | some k => wordF n d br q (add l (lit (r.take k) true)) (r.drop (k + 1)))
    else if c == 34 then (match doubleF n d (r.length + 1) l r with | .ok l' r' => wordF n d br q l' r' | .err a e => .err a e)
    else if c == 96 then .err (r.length + 1) 61
    else if c == 36 then (match dollarF n d q r with | .ok p r' => wordF n d br q (add l p) r' | .err a e => .err a e)
    else wordF n d br q (add l (lit [c] q)) r := by rw [wordF]; rfl

theorem indexByte_idx (c : UInt8) : ∀ l : Bytes, Lib.indexByte l c = (match idx c l with | none => (-1 : Int) | some k => (k : Int))
  | [] => rfl
  | b :: l => by
    have h := indexByte_idx c l
    rw [Lib.indexByte, idx, h]
    by_cases e : (b == c) = true
    · rw [if_pos e, if_pos e]; rfl
    · rw [if_neg e, if_neg e]
      cases idx c l with
      | none => rfl
      | some k =>
        have : (((k : Int) == -1) = true) = False := by simp
        simp [this]

theorem ix_q (t : ByteArray) (w : World) (x : Int) (hx : Lib.indexByte t.data.toList 39 = x) : Calls Tryd.prog 23 #[.string t, .int .u8 39] w fun e w' => e = .returned (.int .i64 x) ∧ w' = w :=
  (Tryd.strings_IndexByte t 39 w).mono fun _ _ hh => ⟨by rw [← hx]; exact hh.1, by first | exact hh.2 | exact hh.2.symm⟩

/-- What holds at the head of a round, in a word. -/
def WordRel (w : World) (g : Nat) (s : ByteArray) (a d : Nat) (br q : Bool) (R : Rs (List Part)) (k : Nat) (v : Value) (wr : World) (b : Nat) (l : List Part) : Prop :=
  ScanAt wr g s b d ∧ a ≤ b ∧ b ≤ s.size ∧ 4 * (s.size - b) + 3 ≤ k ∧ Own wr (fun j => w.heap.size ≤ j) 32 5 v (Part.ds l) ∧ Chg (fun j => j = g ∨ False) w wr ∧
    Part.wts l + 2 * (s.size - b) ≤ 40000 ∧ wordF k d br q l (s.data.toList.drop b) = R


set_option maxRecDepth 100000 in
set_option maxHeartbeats 1000000 in
theorem word_said (n : Nat) (IH : ∀ m, m < n → DoubleSaid m ∧ DollarSaid m) : WordSaid n := by
  intro w g s a d br q h ha hs hd hf
  generalize hR : wordF n d br q [] (s.data.toList.drop a) = R
  have HR := Lib.hid hR; clear hR
  obtain ⟨h0, h1, h2, f1, _, hgl⟩ := h.cells
  have hgw := hgl
  go_enter Tryd.func15, Tryd.ntmps15
  go_wp2
  go_loopg [7] n (fun k v' wr => k ≤ n ∧ ∃ b l', WordRel w g s a d br q R k v' wr b l')
  case atStart =>
    exact ⟨Nat.le_refl _, a, [], h, by omega, by omega, by omega, Own.nil _ _ _ _, Chg.refl _ _, by simp [Part.wts]; omega, HR.out⟩
  case round =>
    obtain ⟨hkn, b, l', hA, hb1, hb2, hk, hO', hC, hwt, HK0⟩ := hrel
    have HK := Lib.hid HK0; clear HK0
    obtain ⟨A0, c0, hv0, _, _⟩ := hO'.form
    have HV := Lib.hid hv0; clear hv0
    obtain ⟨k0, k1, k2, kf1, _, kgl⟩ := hA.cells
    clear h0 h1 h2 f1 hgl
    have hSg : ∀ k, w.heap.size ≤ k → ¬ k = g := fun k hk e => by omega
    have hugb : ∀ j, u7.ownBlock = some j → j ≠ g := fun j hj => hSg j (hO'.block hj)
    by_cases hlt : b < s.size
    · cases br
      case true =>
        obtain ⟨m, rfl⟩ : ∃ m, gk = m + 1 := ⟨gk - 1, by omega⟩
        have HD := Lib.hid (byte_drop s b hlt)
        have HCONS := Lib.hid (word_cons m d true q l' s[b] (s.data.toList.drop (b + 1)))
        have hx := extract_one s b hlt
        have q0 : (0 : Int) ≤ (b : Int) := by omega
        have q1 : (b : Int) < (s.size : Int) := by omega
        have hq125 : ((s[b].toNat : Int) == 125) = (s[b] == 125) := byte_eqn s[b] 125 (by decide)
        have hq39 : ((s[b].toNat : Int) == 39) = (s[b] == 39) := byte_eqn s[b] 39 (by decide)
        have hq34 : ((s[b].toNat : Int) == 34) = (s[b] == 34) := byte_eqn s[b] 34 (by decide)
        have hq96 : ((s[b].toNat : Int) == 96) = (s[b] == 96) := byte_eqn s[b] 96 (by decide)
        have hq36 : ((s[b].toNat : Int) == 36) = (s[b] == 36) := byte_eqn s[b] 36 (by decide)
        have hq92 : ((s[b].toNat : Int) == 92) = (s[b] == 92) := byte_eqn s[b] 92 (by decide)
        go_wp2
        go_quiet (fail)
        go_wp2
        go_quiet (fail)
        generalize s[b] = c at *
        have HSTOP : Hid (((true && c == 125) || (!true && metaB c)) = (c == 125)) := Lib.hid (by simp)
        cases hstop : (c == 125)
        case true =>
          rw [hstop] at hq125
          have HR1 : Hid (R = .ok l' (s.data.toList.drop b)) := Lib.hid (by
            rw [← HK.out, HD.out, HCONS.out, HSTOP.out, hstop, if_pos rfl])
          go_wp2_with (fail)
          go_ret
          rw [HR1.out]
          exact ⟨u7, b, rfl, by omega, rfl, (hO'.stay ((Chg.refl (fun _ => False) _).drewN _) (fun _ _ e => e)).mono (fun j h _ => .inr h), hA, hC.drewN _⟩
        case false =>
          rw [hstop] at hq125
          have HNS : Hid (((true && c == 125) || (!true && metaB c)) = false) := Lib.hid (by rw [HSTOP.out, hstop])
          clear HSTOP
          cases h92 : c == 92
          case true =>
            rw [h92] at hq92
            go_wp2_with (fail)
            have HD1 : Hid (∀ RD, escape l' (s.data.toList.drop b) = RD → (match RD with | .ok l1 r' => wordF m d true q l1 r' | .err a e => .err a e) = R) := Lib.hid (by
              rintro RD rfl
              rw [← HK.out, HD.out, HCONS.out, HNS.out, if_neg (by simp), if_pos h92])
            have HL := Lib.hid (escape_len l')
            refine (escape_calls g s b d (fun j => w.heap.size ≤ j) u7 l' (wr.drewN _) hA hlt hs (hO'.stay ((Chg.refl (fun _ => False) _).drewN _) (fun _ _ e => e)) (fun e => hSg g e rfl) (by omega)).mono ?_
            intro e w1 hpost
            generalize hRD : escape l' (s.data.toList.drop b) = RD at hpost
            have HD2 := Lib.hid (HD1.out RD hRD); clear HD1
            have HRD := Lib.hid hRD; clear hRD
            clear HCONS HK hx
            cases RD with
            | err left code =>
              obtain ⟨k, hk', hl, rfl, hC1⟩ := hpost
              refine ⟨rfl, ?_⟩
              rw [← HD2.out]
              exact ⟨k, hk', hl, rfl, (hC.drewN _).trans hC1 (fun j e hl => e.elim .inl (fun e => absurd (hO'.block e.symm) (by omega)))⟩
            | ok l1 rest =>
              obtain ⟨v2, k, rfl, hk', rfl, ⟨hO2, hat2⟩, hA2, hC2⟩ := hpost
              have hL := HL.out _ _ _ HRD.out
              rw [drop_len, drop_len] at hL
              have hz0 := hC.size
              have hC02 : Chg (fun j => j = g ∨ False) w w1 := (hC.drewN _).trans hC2 (fun j e hl => e.elim .inl (fun e => absurd (hO'.block e.symm) (by omega)))
              have hO2' := hO2.mono (S' := fun j => w.heap.size ≤ j) (fun j h _ => h.elim id (fun h => Nat.le_trans hz0 h))
              clear hO2
              go_wp2
              go_roundg m
              case measure => omega
              case rel => exact ⟨by omega, k, _, hA2, by omega, hk', by omega, hO2', hC02, by omega, HD2.out⟩
          case false =>
            rw [h92] at hq92
            cases h39 : c == 39
            case true =>
              rw [h39] at hq39
              have r0 : (0 : Int) ≤ (b : Int) + 1 := by omega
              have r1 : (b : Int) + 1 ≤ (s.size : Int) := by omega
              have r2 : ((b : Int) + 1).toNat = b + 1 := by omega
              have hwr : IntKind.i64.wrap ((b : Int) + 1) = (b : Int) + 1 := IntWalk.i64_in _ (by omega)
              have hIX : Lib.indexByte (s.extract (b + 1) s.size).data.toList 39 = (match idx 39 (s.data.toList.drop (b + 1)) with | none => (-1 : Int) | some k => (k : Int)) := by
                rw [Lib.extract_to_end, indexByte_idx]
              cases hidx : idx 39 (s.data.toList.drop (b + 1)) with
              | none =>
                rw [hidx] at hIX
                have HIX := Lib.hid hIX; clear hIX
                go_wp2_with (fail)
                go_quiet ((go_at_call 23; exact (ix_q _ _ _ HIX.out).mono (fun _ _ hh => ⟨hh.1, _, hh.2⟩)))
                go_wp2_with (go_at_call 24; refine (fail_calls _ _ _ _).mono ?_; rintro e w1 ⟨rfl, rfl⟩)
                refine ⟨rfl, ?_⟩
                rw [← HK.out, HD.out, HCONS.out, HNS.out, if_neg (by simp), if_neg (by simp [h92]), if_pos h39, hidx, drop_len]
                exact ⟨b, by omega, by omega, rfl, hC.drewN _⟩
              | some k =>
                rw [hidx] at hIX
                have HIX := Lib.hid hIX; clear hIX
                have hkl := idx_lt _ _ _ hidx
                rw [drop_len] at hkl
                have HNEXT : Hid (wordF m d true q (add l' (lit ((s.data.toList.drop (b + 1)).take k) true)) (s.data.toList.drop (b + (k + 2))) = R) := Lib.hid (by
                  rw [← HK.out, HD.out, HCONS.out, HNS.out, if_neg (by simp), if_neg (by simp [h92]), if_pos h39, hidx]
                  simp only [List.drop_drop]
                  rw [show b + 1 + (k + 1) = b + (k + 2) by omega])
                have hx2 := extract_bstr s (b + 1) (b + 1 + k)
                rw [show b + 1 + k - (b + 1) = k by omega] at hx2
                have hTl : ((s.data.toList.drop (b + 1)).take k).length ≤ k := by simp; omega
                revert hTl; revert hx2; revert HNEXT
                generalize (s.data.toList.drop (b + 1)).take k = T
                intro HNEXT hx2 hTl
                clear hidx HD HCONS HK hx HNS
                have r3 : decide ((k : Int) < 0) = false := by simp
                have r5 : (b : Int) + 1 ≤ (b : Int) + 1 + (k : Int) := by omega
                have r6 : (b : Int) + 1 + (k : Int) ≤ (s.size : Int) := by omega
                have r7 : IntKind.i64.wrap ((b : Int) + 1 + (k : Int)) = (b : Int) + 1 + (k : Int) := IntWalk.i64_in _ (by omega)
                have r8 : ((b : Int) + 1 + (k : Int)).toNat = b + 1 + k := by omega
                have r9 : (0 : Int) ≤ (k : Int) := by omega
                have r10 : IntKind.i64.wrap ((b : Int) + ((k : Int) + 2)) = (b : Int) + ((k : Int) + 2) := IntWalk.i64_in _ (by omega)
                go_wp2_with (fail)
                go_quiet ((go_at_call 23; exact (ix_q _ _ _ HIX.out).mono (fun _ _ hh => ⟨hh.1, _, hh.2⟩)))
                go_wp2
                have hne : ¬ some g = u7.ownBlock := fun e => hugb g e.symm rfl
                have r3 : (b : Int) ≤ (b : Int) + 1 := by omega
                have r4 : (b : Int) + 1 ≤ (s.size : Int) := by omega
                go_region_held3 (fun w' => w'.cell? ⟨g, 0, none⟩ = some (.string s) ∧ w'.cell? ⟨g, 1, none⟩ = some (.int .i64 b))
                  (first
                    | go_keep
                    | (go_split_ands; exact ⟨(Chg.of_below hb1').cell (by assumption) (fun e => e), (Chg.of_below hb1').cell (by assumption) (fun e => e)⟩)
                    | (go_split_ands; exact ⟨hC2.cell (by assumption) hne, hC2.cell (by assumption) hne⟩))
                  (first
                    | (go_at_call 26; refine (lit_calls _ _ _).mono ?_; rintro e w1 ⟨rfl, hb1'⟩)
                    | (go_at_call 25; refine (add_calls _ (fun j => w.heap.size ≤ j) (fun _ => False) u7 l' (lit T true) [.int .i64 1, .bool true, .string (bstr (T)), .string ⟨#[]⟩, .slice none 0 0] ((hO'.stay ((Chg.refl (fun _ => False) _).drewN _) (fun _ _ e => e)).stay (Chg.of_below hb1') (fun _ _ e => e)) (lit_rep _ (T) true) (fun _ h => h.elim) (by rw [lit_wt]; omega)).mono ?_; rintro e w2 ⟨v2, rfl, hO2, hC2, hat2⟩))
                have hz0 := hC.size
                have hz1 : wr.heap.size ≤ w1.heap.size := hb1'.size
                have hz2 := hC2.size
                have hA1 : ScanAt w1 g s (b : Nat) d := ScanAt.chg (w := wr.drewN _) hA (Chg.of_below hb1') (fun e => e)
                have hA2 := hA1.chg hC2 hne
                obtain ⟨j0, j1, j2, jf1, _, jgl⟩ := hA2.cells
                have haw := add_wt l' (lit T true)
                rw [lit_wt] at haw
                have hC02 : Chg (fun j => j = g ∨ False) w w2 := ((hC.drewN _).trans (Chg.of_below hb1') (fun _ h _ => h.elim)).trans hC2 (fun j e hl => absurd (hO'.block e.symm) (by omega))
                have hO2' := (hO2.mono (S' := fun j => w.heap.size ≤ j) (fun j h _ => h.elim id (fun h => by omega))).stay (((Chg.refl (· = g) _)).setCell (p := ⟨g, 1, none⟩) (fun _ => rfl) (.int .i64 (b + (k + 2) : Int))) hSg
                have hA3 := hA2.at' (b + (k + 2) : Int)
                have HC03 := hC02.setCell (p := ⟨g, 1, none⟩) (fun _ => .inl rfl) (.int .i64 (b + (k + 2) : Int))
                clear hO2 hA1
                go_wp2
                go_roundg m
                case measure => omega
                case rel => exact ⟨by omega, b + (k + 2), _, hA3, by omega, by omega, by omega, hO2', HC03, by omega, HNEXT.out⟩
            case false =>
              rw [h39] at hq39
              cases h34 : c == 34
              case true =>
                rw [h34] at hq34
                go_wp2_with (fail)
                have HD1 : Hid (∀ RD, doubleF m d ((s.data.toList.drop (b + 1)).length + 1) l' (s.data.toList.drop (b + 1)) = RD → (match RD with | .ok l1 r' => wordF m d true q l1 r' | .err a e => .err a e) = R) := Lib.hid (by
                  rintro RD rfl
                  rw [← HK.out, HD.out, HCONS.out, HNS.out, if_neg (by simp), if_neg (by simp [h92]), if_neg (by simp [h39]), if_pos h34])
                rw [drop_len, show s.size - (b + 1) + 1 = s.size - b by omega] at HD1
                have HL := Lib.hid ((scan_len m).double d (s.size - b) l' (s.data.toList.drop (b + 1)))
                refine ((IH m (by omega)).1 (wr.drewN _) g s b d (fun j => w.heap.size ≤ j) u7 l' hA hlt hs hd (by omega) (hO'.stay ((Chg.refl (fun _ => False) _).drewN _) (fun _ _ e => e)) (fun e => hSg g e rfl) (by omega)).mono ?_
                intro e w1 hpost
                generalize hRD : doubleF m d (s.size - b) l' (s.data.toList.drop (b + 1)) = RD at hpost
                have HD2 := Lib.hid (HD1.out RD hRD); clear HD1
                have HRD := Lib.hid hRD; clear hRD
                clear HCONS HK hx
                cases RD with
                | err left code =>
                  obtain ⟨k, hk', hl, rfl, hC1⟩ := hpost
                  refine ⟨rfl, ?_⟩
                  rw [← HD2.out]
                  exact ⟨k, hk', hl, rfl, (hC.drewN _).trans hC1 (fun j e hl => e.elim .inl (fun e => absurd (hO'.block e.symm) (by omega)))⟩
                | ok l1 rest =>
                  obtain ⟨v2, k, rfl, hk', rfl, hO2, hA2, hC2⟩ := hpost
                  have hL := HL.out _ _ HRD.out
                  rw [drop_len, drop_len] at hL
                  have hz0 := hC.size
                  have hC02 : Chg (fun j => j = g ∨ False) w w1 := (hC.drewN _).trans hC2 (fun j e hl => e.elim .inl (fun e => absurd (hO'.block e.symm) (by omega)))
                  have hO2' := hO2.mono (S' := fun j => w.heap.size ≤ j) (fun j h _ => h.elim id (fun h => Nat.le_trans hz0 h))
                  clear hO2
                  go_wp2
                  go_roundg m
                  case measure => omega
                  case rel => exact ⟨by omega, k, _, hA2, by omega, hk', by omega, hO2', hC02, by omega, HD2.out⟩
              case false =>
                rw [h34] at hq34
                cases h96 : c == 96
                case true =>
                  rw [h96] at hq96
                  go_wp2_with (first | (go_at_call 24; refine (fail_calls _ _ _ _).mono ?_; rintro e w1 ⟨rfl, rfl⟩) | fail)
                  refine ⟨rfl, ?_⟩
                  rw [← HK.out, HD.out, HCONS.out, HNS.out, if_neg (by simp), if_neg (by simp [h92]), if_neg (by simp [h39]), if_neg (by simp [h34]), if_pos h96, drop_len]
                  exact ⟨b, by omega, by omega, rfl, hC.drewN _⟩
                case false =>
                  rw [h96] at hq96
                  cases h36 : c == 36
                  case true =>
                    rw [h36] at hq36
                    go_wp2_with (fail)
                    have HD1 : Hid (∀ RD, dollarF m d q (s.data.toList.drop (b + 1)) = RD → (match RD with | .ok p r' => wordF m d true q (add l' p) r' | .err a e => .err a e) = R) := Lib.hid (by
                      rintro RD rfl
                      rw [← HK.out, HD.out, HCONS.out, HNS.out, if_neg (by simp), if_neg (by simp [h92]), if_neg (by simp [h39]), if_neg (by simp [h34]), if_neg (by simp [h96]), if_pos h36])
                    have HL := Lib.hid ((scan_len m).dollar d q (s.data.toList.drop (b + 1)))
                    refine ((IH m (by omega)).2 (wr.drewN _) g s b d q hA hlt hs hd (by omega)).mono ?_
                    intro e w1 hpost
                    generalize hRD : dollarF m d q (s.data.toList.drop (b + 1)) = RD at hpost HL
                    have HD2 := Lib.hid (HD1.out RD hRD); clear HD1 hRD
                    clear HD HCONS HK hx
                    cases RD with
                    | err left code =>
                      obtain ⟨k, hk', hl, rfl, hC1⟩ := hpost
                      refine ⟨rfl, ?_⟩
                      rw [← HD2.out]
                      exact ⟨k, hk', hl, rfl, (hC.drewN _).trans hC1 (fun _ h _ => h)⟩
                    | ok p rest =>
                      obtain ⟨v1, k, rfl, hk', rfl, ⟨cs, rfl, hrep⟩, hA1, hC1⟩ := hpost
                      have hL := HL.out p _ rfl
                      rw [drop_len, drop_len] at hL
                      have hz0 := hC.size
                      have hO1 : Own w1 (fun j => w.heap.size ≤ j) 32 5 u7 (Part.ds l') := hO'.stay (((Chg.refl (fun j => j = g ∨ False) _).drewN _).trans hC1 (fun _ h _ => h)) (fun k hk e => e.elim (hSg k hk) id)
                      have hub : ∀ j, some j = u7.ownBlock → j < wr.heap.size := fun j e => Own.lt hO' e.symm
                      go_wp2_with fail
                      refine (add_calls w1 _ _ u7 l' p cs hO1 hrep (fun j hj hl => ⟨by simp at hj; omega, fun e => by have := hub j e; simp at hj; omega⟩) (by omega)).mono ?_
                      rintro e w2 ⟨v2, rfl, hO2, hC2, hat2⟩
                      have hz1 : wr.heap.size ≤ w1.heap.size := hC1.size
                      have hz2 := hC2.size
                      have hne : ¬ some g = u7.ownBlock := fun e => hugb g e.symm rfl
                      have haw := add_wt l' p
                      have hC02 : Chg (fun j => j = g ∨ False) w w2 := ((hC.drewN _).trans hC1 (fun _ h _ => h)).trans hC2 (fun j e hl => absurd (hO'.block e.symm) (by omega))
                      have hO2' := hO2.mono (S' := fun j => w.heap.size ≤ j) (fun j h _ => h.elim id (fun h => by omega))
                      have hA2 := hA1.chg hC2 hne
                      clear hub hO1 hrep
                      go_wp2
                      go_roundg m
                      case measure => omega
                      case rel => exact ⟨by omega, k, _, hA2, by omega, hk', by omega, hO2', hC02, by omega, HD2.out⟩
                  case false =>
                    rw [h36] at hq36
                    have HNEXT : Hid (wordF m d true q (add l' (lit [c] q)) (s.data.toList.drop (b + 1)) = R) := Lib.hid (by
                      rw [← HK.out, HD.out, HCONS.out, HNS.out, if_neg (by simp), if_neg (by simp [h92]), if_neg (by simp [h39]), if_neg (by simp [h34]), if_neg (by simp [h96]), if_neg (by simp [h36])])
                    clear HD HCONS HK HNS
                    have hTl : ([c] : Bytes).length = 1 := rfl
                    have hwr : IntKind.i64.wrap ((b : Int) + 1) = (b : Int) + 1 := IntWalk.i64_in _ (by omega)
                    go_wp2_with (fail)
                    have hne : ¬ some g = u7.ownBlock := fun e => hugb g e.symm rfl
                    have r3 : (b : Int) ≤ (b : Int) + 1 := by omega
                    have r4 : (b : Int) + 1 ≤ (s.size : Int) := by omega
                    go_region_held3 (fun w' => w'.cell? ⟨g, 0, none⟩ = some (.string s) ∧ w'.cell? ⟨g, 1, none⟩ = some (.int .i64 b))
                      (first
                        | go_keep
                        | (go_split_ands; exact ⟨(Chg.of_below hb1').cell (by assumption) (fun e => e), (Chg.of_below hb1').cell (by assumption) (fun e => e)⟩)
                        | (go_split_ands; exact ⟨hC2.cell (by assumption) hne, hC2.cell (by assumption) hne⟩))
                      (first
                        | (go_at_call 26; refine (lit_calls _ _ _).mono ?_; rintro e w1 ⟨rfl, hb1'⟩)
                        | (go_at_call 25; refine (add_calls _ (fun j => w.heap.size ≤ j) (fun _ => False) u7 l' (lit [c] q) [.int .i64 1, .bool q, .string (bstr ([c])), .string ⟨#[]⟩, .slice none 0 0] ((hO'.stay ((Chg.refl (fun _ => False) _).drewN _) (fun _ _ e => e)).stay (Chg.of_below hb1') (fun _ _ e => e)) (lit_rep _ ([c]) q) (fun _ h => h.elim) (by rw [lit_wt]; omega)).mono ?_; rintro e w2 ⟨v2, rfl, hO2, hC2, hat2⟩))
                    have hz0 := hC.size
                    have hz1 : wr.heap.size ≤ w1.heap.size := hb1'.size
                    have hz2 := hC2.size
                    have hA1 : ScanAt w1 g s (b : Nat) d := ScanAt.chg (w := wr.drewN _) hA (Chg.of_below hb1') (fun e => e)
                    have hA2 := hA1.chg hC2 hne
                    obtain ⟨j0, j1, j2, jf1, _, jgl⟩ := hA2.cells
                    have haw := add_wt l' (lit [c] q)
                    rw [lit_wt] at haw
                    have hC02 : Chg (fun j => j = g ∨ False) w w2 := ((hC.drewN _).trans (Chg.of_below hb1') (fun _ h _ => h.elim)).trans hC2 (fun j e hl => absurd (hO'.block e.symm) (by omega))
                    have hO2' := (hO2.mono (S' := fun j => w.heap.size ≤ j) (fun j h _ => h.elim id (fun h => by omega))).stay (((Chg.refl (· = g) _)).setCell (p := ⟨g, 1, none⟩) (fun _ => rfl) (.int .i64 (b + 1 : Int))) hSg
                    have hA3 := hA2.at' (b + 1 : Int)
                    have HC03 := hC02.setCell (p := ⟨g, 1, none⟩) (fun _ => .inl rfl) (.int .i64 (b + 1 : Int))
                    clear hO2 hA1
                    go_wp2
                    go_roundg m
                    case measure => omega
                    case rel => exact ⟨by omega, b + 1, _, hA3, by omega, by omega, by omega, hO2', HC03, by omega, HNEXT.out⟩
      case false =>
        obtain ⟨m, rfl⟩ : ∃ m, gk = m + 1 := ⟨gk - 1, by omega⟩
        have HD := Lib.hid (byte_drop s b hlt)
        have HCONS := Lib.hid (word_cons m d false q l' s[b] (s.data.toList.drop (b + 1)))
        have hx := extract_one s b hlt
        have q0 : (0 : Int) ≤ (b : Int) := by omega
        have q1 : (b : Int) < (s.size : Int) := by omega
        have hq125 : ((s[b].toNat : Int) == 125) = (s[b] == 125) := byte_eqn s[b] 125 (by decide)
        have hq39 : ((s[b].toNat : Int) == 39) = (s[b] == 39) := byte_eqn s[b] 39 (by decide)
        have hq34 : ((s[b].toNat : Int) == 34) = (s[b] == 34) := byte_eqn s[b] 34 (by decide)
        have hq96 : ((s[b].toNat : Int) == 96) = (s[b] == 96) := byte_eqn s[b] 96 (by decide)
        have hq36 : ((s[b].toNat : Int) == 36) = (s[b] == 36) := byte_eqn s[b] 36 (by decide)
        have hq92 : ((s[b].toNat : Int) == 92) = (s[b] == 92) := byte_eqn s[b] 92 (by decide)
        go_wp2
        go_quiet (fail)
        go_wp2
        go_quiet (fail)
        generalize s[b] = c at *
        have HSTOP : Hid (((false && c == 125) || (!false && metaB c)) = (metaB c)) := Lib.hid (by simp)
        cases hstop : (metaB c)
        case true =>
          skip
          have HR1 : Hid (R = .ok l' (s.data.toList.drop b)) := Lib.hid (by
            rw [← HK.out, HD.out, HCONS.out, HSTOP.out, hstop, if_pos rfl])
          go_wp2_with ((go_at_call 21; refine (meta_calls _ _).mono ?_; rintro e w' ⟨rfl, rfl⟩; rw [hstop]))
          go_ret
          rw [HR1.out]
          exact ⟨u7, b, rfl, by omega, rfl, (hO'.stay ((Chg.refl (fun _ => False) _).drewN _) (fun _ _ e => e)).mono (fun j h _ => .inr h), hA, hC.drewN _⟩
        case false =>
          skip
          have HNS : Hid (((false && c == 125) || (!false && metaB c)) = false) := Lib.hid (by rw [HSTOP.out, hstop])
          clear HSTOP
          cases h92 : c == 92
          case true =>
            rw [h92] at hq92
            go_wp2_with ((go_at_call 21; refine (meta_calls _ _).mono ?_; rintro e w' ⟨rfl, rfl⟩; rw [hstop]))
            have HD1 : Hid (∀ RD, escape l' (s.data.toList.drop b) = RD → (match RD with | .ok l1 r' => wordF m d false q l1 r' | .err a e => .err a e) = R) := Lib.hid (by
              rintro RD rfl
              rw [← HK.out, HD.out, HCONS.out, HNS.out, if_neg (by simp), if_pos h92])
            have HL := Lib.hid (escape_len l')
            refine (escape_calls g s b d (fun j => w.heap.size ≤ j) u7 l' (wr.drewN _) hA hlt hs (hO'.stay ((Chg.refl (fun _ => False) _).drewN _) (fun _ _ e => e)) (fun e => hSg g e rfl) (by omega)).mono ?_
            intro e w1 hpost
            generalize hRD : escape l' (s.data.toList.drop b) = RD at hpost
            have HD2 := Lib.hid (HD1.out RD hRD); clear HD1
            have HRD := Lib.hid hRD; clear hRD
            clear HCONS HK hx
            cases RD with
            | err left code =>
              obtain ⟨k, hk', hl, rfl, hC1⟩ := hpost
              refine ⟨rfl, ?_⟩
              rw [← HD2.out]
              exact ⟨k, hk', hl, rfl, (hC.drewN _).trans hC1 (fun j e hl => e.elim .inl (fun e => absurd (hO'.block e.symm) (by omega)))⟩
            | ok l1 rest =>
              obtain ⟨v2, k, rfl, hk', rfl, ⟨hO2, hat2⟩, hA2, hC2⟩ := hpost
              have hL := HL.out _ _ _ HRD.out
              rw [drop_len, drop_len] at hL
              have hz0 := hC.size
              have hC02 : Chg (fun j => j = g ∨ False) w w1 := (hC.drewN _).trans hC2 (fun j e hl => e.elim .inl (fun e => absurd (hO'.block e.symm) (by omega)))
              have hO2' := hO2.mono (S' := fun j => w.heap.size ≤ j) (fun j h _ => h.elim id (fun h => Nat.le_trans hz0 h))
              clear hO2
              go_wp2
              go_roundg m
              case measure => omega
              case rel => exact ⟨by omega, k, _, hA2, by omega, hk', by omega, hO2', hC02, by omega, HD2.out⟩
          case false =>
            rw [h92] at hq92
            cases h39 : c == 39
            case true =>
              rw [h39] at hq39
              have r0 : (0 : Int) ≤ (b : Int) + 1 := by omega
              have r1 : (b : Int) + 1 ≤ (s.size : Int) := by omega
              have r2 : ((b : Int) + 1).toNat = b + 1 := by omega
              have hwr : IntKind.i64.wrap ((b : Int) + 1) = (b : Int) + 1 := IntWalk.i64_in _ (by omega)
              have hIX : Lib.indexByte (s.extract (b + 1) s.size).data.toList 39 = (match idx 39 (s.data.toList.drop (b + 1)) with | none => (-1 : Int) | some k => (k : Int)) := by
                rw [Lib.extract_to_end, indexByte_idx]
              cases hidx : idx 39 (s.data.toList.drop (b + 1)) with
              | none =>
                rw [hidx] at hIX
                have HIX := Lib.hid hIX; clear hIX
                go_wp2_with ((go_at_call 21; refine (meta_calls _ _).mono ?_; rintro e w' ⟨rfl, rfl⟩; rw [hstop]))
                go_quiet ((go_at_call 23; exact (ix_q _ _ _ HIX.out).mono (fun _ _ hh => ⟨hh.1, _, hh.2⟩)))
                go_wp2_with (go_at_call 24; refine (fail_calls _ _ _ _).mono ?_; rintro e w1 ⟨rfl, rfl⟩)
                refine ⟨rfl, ?_⟩
                rw [← HK.out, HD.out, HCONS.out, HNS.out, if_neg (by simp), if_neg (by simp [h92]), if_pos h39, hidx, drop_len]
                exact ⟨b, by omega, by omega, rfl, hC.drewN _⟩
              | some k =>
                rw [hidx] at hIX
                have HIX := Lib.hid hIX; clear hIX
                have hkl := idx_lt _ _ _ hidx
                rw [drop_len] at hkl
                have HNEXT : Hid (wordF m d false q (add l' (lit ((s.data.toList.drop (b + 1)).take k) true)) (s.data.toList.drop (b + (k + 2))) = R) := Lib.hid (by
                  rw [← HK.out, HD.out, HCONS.out, HNS.out, if_neg (by simp), if_neg (by simp [h92]), if_pos h39, hidx]
                  simp only [List.drop_drop]
                  rw [show b + 1 + (k + 1) = b + (k + 2) by omega])
                have hx2 := extract_bstr s (b + 1) (b + 1 + k)
                rw [show b + 1 + k - (b + 1) = k by omega] at hx2
                have hTl : ((s.data.toList.drop (b + 1)).take k).length ≤ k := by simp; omega
                revert hTl; revert hx2; revert HNEXT
                generalize (s.data.toList.drop (b + 1)).take k = T
                intro HNEXT hx2 hTl
                clear hidx HD HCONS HK hx HNS
                have r3 : decide ((k : Int) < 0) = false := by simp
                have r5 : (b : Int) + 1 ≤ (b : Int) + 1 + (k : Int) := by omega
                have r6 : (b : Int) + 1 + (k : Int) ≤ (s.size : Int) := by omega
                have r7 : IntKind.i64.wrap ((b : Int) + 1 + (k : Int)) = (b : Int) + 1 + (k : Int) := IntWalk.i64_in _ (by omega)
                have r8 : ((b : Int) + 1 + (k : Int)).toNat = b + 1 + k := by omega
                have r9 : (0 : Int) ≤ (k : Int) := by omega
                have r10 : IntKind.i64.wrap ((b : Int) + ((k : Int) + 2)) = (b : Int) + ((k : Int) + 2) := IntWalk.i64_in _ (by omega)
                go_wp2_with ((go_at_call 21; refine (meta_calls _ _).mono ?_; rintro e w' ⟨rfl, rfl⟩; rw [hstop]))
                go_quiet ((go_at_call 23; exact (ix_q _ _ _ HIX.out).mono (fun _ _ hh => ⟨hh.1, _, hh.2⟩)))
                go_wp2
                have hne : ¬ some g = u7.ownBlock := fun e => hugb g e.symm rfl
                have r3 : (b : Int) ≤ (b : Int) + 1 := by omega
                have r4 : (b : Int) + 1 ≤ (s.size : Int) := by omega
                go_region_held3 (fun w' => w'.cell? ⟨g, 0, none⟩ = some (.string s) ∧ w'.cell? ⟨g, 1, none⟩ = some (.int .i64 b))
                  (first
                    | go_keep
                    | (go_split_ands; exact ⟨(Chg.of_below hb1').cell (by assumption) (fun e => e), (Chg.of_below hb1').cell (by assumption) (fun e => e)⟩)
                    | (go_split_ands; exact ⟨hC2.cell (by assumption) hne, hC2.cell (by assumption) hne⟩))
                  (first
                    | (go_at_call 26; refine (lit_calls _ _ _).mono ?_; rintro e w1 ⟨rfl, hb1'⟩)
                    | (go_at_call 25; refine (add_calls _ (fun j => w.heap.size ≤ j) (fun _ => False) u7 l' (lit T true) [.int .i64 1, .bool true, .string (bstr (T)), .string ⟨#[]⟩, .slice none 0 0] ((hO'.stay ((Chg.refl (fun _ => False) _).drewN _) (fun _ _ e => e)).stay (Chg.of_below hb1') (fun _ _ e => e)) (lit_rep _ (T) true) (fun _ h => h.elim) (by rw [lit_wt]; omega)).mono ?_; rintro e w2 ⟨v2, rfl, hO2, hC2, hat2⟩))
                have hz0 := hC.size
                have hz1 : wr.heap.size ≤ w1.heap.size := hb1'.size
                have hz2 := hC2.size
                have hA1 : ScanAt w1 g s (b : Nat) d := ScanAt.chg (w := wr.drewN _) hA (Chg.of_below hb1') (fun e => e)
                have hA2 := hA1.chg hC2 hne
                obtain ⟨j0, j1, j2, jf1, _, jgl⟩ := hA2.cells
                have haw := add_wt l' (lit T true)
                rw [lit_wt] at haw
                have hC02 : Chg (fun j => j = g ∨ False) w w2 := ((hC.drewN _).trans (Chg.of_below hb1') (fun _ h _ => h.elim)).trans hC2 (fun j e hl => absurd (hO'.block e.symm) (by omega))
                have hO2' := (hO2.mono (S' := fun j => w.heap.size ≤ j) (fun j h _ => h.elim id (fun h => by omega))).stay (((Chg.refl (· = g) _)).setCell (p := ⟨g, 1, none⟩) (fun _ => rfl) (.int .i64 (b + (k + 2) : Int))) hSg
                have hA3 := hA2.at' (b + (k + 2) : Int)
                have HC03 := hC02.setCell (p := ⟨g, 1, none⟩) (fun _ => .inl rfl) (.int .i64 (b + (k + 2) : Int))
                clear hO2 hA1
                go_wp2
                go_roundg m
                case measure => omega
                case rel => exact ⟨by omega, b + (k + 2), _, hA3, by omega, by omega, by omega, hO2', HC03, by omega, HNEXT.out⟩
            case false =>
              rw [h39] at hq39
              cases h34 : c == 34
              case true =>
                rw [h34] at hq34
                go_wp2_with ((go_at_call 21; refine (meta_calls _ _).mono ?_; rintro e w' ⟨rfl, rfl⟩; rw [hstop]))
                have HD1 : Hid (∀ RD, doubleF m d ((s.data.toList.drop (b + 1)).length + 1) l' (s.data.toList.drop (b + 1)) = RD → (match RD with | .ok l1 r' => wordF m d false q l1 r' | .err a e => .err a e) = R) := Lib.hid (by
                  rintro RD rfl
                  rw [← HK.out, HD.out, HCONS.out, HNS.out, if_neg (by simp), if_neg (by simp [h92]), if_neg (by simp [h39]), if_pos h34])
                rw [drop_len, show s.size - (b + 1) + 1 = s.size - b by omega] at HD1
                have HL := Lib.hid ((scan_len m).double d (s.size - b) l' (s.data.toList.drop (b + 1)))
                refine ((IH m (by omega)).1 (wr.drewN _) g s b d (fun j => w.heap.size ≤ j) u7 l' hA hlt hs hd (by omega) (hO'.stay ((Chg.refl (fun _ => False) _).drewN _) (fun _ _ e => e)) (fun e => hSg g e rfl) (by omega)).mono ?_
                intro e w1 hpost
                generalize hRD : doubleF m d (s.size - b) l' (s.data.toList.drop (b + 1)) = RD at hpost
                have HD2 := Lib.hid (HD1.out RD hRD); clear HD1
                have HRD := Lib.hid hRD; clear hRD
                clear HCONS HK hx
                cases RD with
                | err left code =>
                  obtain ⟨k, hk', hl, rfl, hC1⟩ := hpost
                  refine ⟨rfl, ?_⟩
                  rw [← HD2.out]
                  exact ⟨k, hk', hl, rfl, (hC.drewN _).trans hC1 (fun j e hl => e.elim .inl (fun e => absurd (hO'.block e.symm) (by omega)))⟩
                | ok l1 rest =>
                  obtain ⟨v2, k, rfl, hk', rfl, hO2, hA2, hC2⟩ := hpost
                  have hL := HL.out _ _ HRD.out
                  rw [drop_len, drop_len] at hL
                  have hz0 := hC.size
                  have hC02 : Chg (fun j => j = g ∨ False) w w1 := (hC.drewN _).trans hC2 (fun j e hl => e.elim .inl (fun e => absurd (hO'.block e.symm) (by omega)))
                  have hO2' := hO2.mono (S' := fun j => w.heap.size ≤ j) (fun j h _ => h.elim id (fun h => Nat.le_trans hz0 h))
                  clear hO2
                  go_wp2
                  go_roundg m
                  case measure => omega
                  case rel => exact ⟨by omega, k, _, hA2, by omega, hk', by omega, hO2', hC02, by omega, HD2.out⟩
              case false =>
                rw [h34] at hq34
                cases h96 : c == 96
                case true =>
                  rw [h96] at hq96
                  go_wp2_with (first | (go_at_call 24; refine (fail_calls _ _ _ _).mono ?_; rintro e w1 ⟨rfl, rfl⟩) | (go_at_call 21; refine (meta_calls _ _).mono ?_; rintro e w' ⟨rfl, rfl⟩; rw [hstop]))
                  refine ⟨rfl, ?_⟩
                  rw [← HK.out, HD.out, HCONS.out, HNS.out, if_neg (by simp), if_neg (by simp [h92]), if_neg (by simp [h39]), if_neg (by simp [h34]), if_pos h96, drop_len]
                  exact ⟨b, by omega, by omega, rfl, hC.drewN _⟩
                case false =>
                  rw [h96] at hq96
                  cases h36 : c == 36
                  case true =>
                    rw [h36] at hq36
                    go_wp2_with ((go_at_call 21; refine (meta_calls _ _).mono ?_; rintro e w' ⟨rfl, rfl⟩; rw [hstop]))
                    have HD1 : Hid (∀ RD, dollarF m d q (s.data.toList.drop (b + 1)) = RD → (match RD with | .ok p r' => wordF m d false q (add l' p) r' | .err a e => .err a e) = R) := Lib.hid (by
                      rintro RD rfl
                      rw [← HK.out, HD.out, HCONS.out, HNS.out, if_neg (by simp), if_neg (by simp [h92]), if_neg (by simp [h39]), if_neg (by simp [h34]), if_neg (by simp [h96]), if_pos h36])
                    have HL := Lib.hid ((scan_len m).dollar d q (s.data.toList.drop (b + 1)))
                    refine ((IH m (by omega)).2 (wr.drewN _) g s b d q hA hlt hs hd (by omega)).mono ?_
                    intro e w1 hpost
                    generalize hRD : dollarF m d q (s.data.toList.drop (b + 1)) = RD at hpost HL
                    have HD2 := Lib.hid (HD1.out RD hRD); clear HD1 hRD
                    clear HD HCONS HK hx
                    cases RD with
                    | err left code =>
                      obtain ⟨k, hk', hl, rfl, hC1⟩ := hpost
                      refine ⟨rfl, ?_⟩
                      rw [← HD2.out]
                      exact ⟨k, hk', hl, rfl, (hC.drewN _).trans hC1 (fun _ h _ => h)⟩
                    | ok p rest =>
                      obtain ⟨v1, k, rfl, hk', rfl, ⟨cs, rfl, hrep⟩, hA1, hC1⟩ := hpost
                      have hL := HL.out p _ rfl
                      rw [drop_len, drop_len] at hL
                      have hz0 := hC.size
                      have hO1 : Own w1 (fun j => w.heap.size ≤ j) 32 5 u7 (Part.ds l') := hO'.stay (((Chg.refl (fun j => j = g ∨ False) _).drewN _).trans hC1 (fun _ h _ => h)) (fun k hk e => e.elim (hSg k hk) id)
                      have hub : ∀ j, some j = u7.ownBlock → j < wr.heap.size := fun j e => Own.lt hO' e.symm
                      go_wp2_with fail
                      refine (add_calls w1 _ _ u7 l' p cs hO1 hrep (fun j hj hl => ⟨by simp at hj; omega, fun e => by have := hub j e; simp at hj; omega⟩) (by omega)).mono ?_
                      rintro e w2 ⟨v2, rfl, hO2, hC2, hat2⟩
                      have hz1 : wr.heap.size ≤ w1.heap.size := hC1.size
                      have hz2 := hC2.size
                      have hne : ¬ some g = u7.ownBlock := fun e => hugb g e.symm rfl
                      have haw := add_wt l' p
                      have hC02 : Chg (fun j => j = g ∨ False) w w2 := ((hC.drewN _).trans hC1 (fun _ h _ => h)).trans hC2 (fun j e hl => absurd (hO'.block e.symm) (by omega))
                      have hO2' := hO2.mono (S' := fun j => w.heap.size ≤ j) (fun j h _ => h.elim id (fun h => by omega))
                      have hA2 := hA1.chg hC2 hne
                      clear hub hO1 hrep
                      go_wp2
                      go_roundg m
                      case measure => omega
                      case rel => exact ⟨by omega, k, _, hA2, by omega, hk', by omega, hO2', hC02, by omega, HD2.out⟩
                  case false =>
                    rw [h36] at hq36
                    have HNEXT : Hid (wordF m d false q (add l' (lit [c] q)) (s.data.toList.drop (b + 1)) = R) := Lib.hid (by
                      rw [← HK.out, HD.out, HCONS.out, HNS.out, if_neg (by simp), if_neg (by simp [h92]), if_neg (by simp [h39]), if_neg (by simp [h34]), if_neg (by simp [h96]), if_neg (by simp [h36])])
                    clear HD HCONS HK HNS
                    have hTl : ([c] : Bytes).length = 1 := rfl
                    have hwr : IntKind.i64.wrap ((b : Int) + 1) = (b : Int) + 1 := IntWalk.i64_in _ (by omega)
                    go_wp2_with ((go_at_call 21; refine (meta_calls _ _).mono ?_; rintro e w' ⟨rfl, rfl⟩; rw [hstop]))
                    have hne : ¬ some g = u7.ownBlock := fun e => hugb g e.symm rfl
                    have r3 : (b : Int) ≤ (b : Int) + 1 := by omega
                    have r4 : (b : Int) + 1 ≤ (s.size : Int) := by omega
                    go_region_held3 (fun w' => w'.cell? ⟨g, 0, none⟩ = some (.string s) ∧ w'.cell? ⟨g, 1, none⟩ = some (.int .i64 b))
                      (first
                        | go_keep
                        | (go_split_ands; exact ⟨(Chg.of_below hb1').cell (by assumption) (fun e => e), (Chg.of_below hb1').cell (by assumption) (fun e => e)⟩)
                        | (go_split_ands; exact ⟨hC2.cell (by assumption) hne, hC2.cell (by assumption) hne⟩))
                      (first
                        | (go_at_call 26; refine (lit_calls _ _ _).mono ?_; rintro e w1 ⟨rfl, hb1'⟩)
                        | (go_at_call 25; refine (add_calls _ (fun j => w.heap.size ≤ j) (fun _ => False) u7 l' (lit [c] q) [.int .i64 1, .bool q, .string (bstr ([c])), .string ⟨#[]⟩, .slice none 0 0] ((hO'.stay ((Chg.refl (fun _ => False) _).drewN _) (fun _ _ e => e)).stay (Chg.of_below hb1') (fun _ _ e => e)) (lit_rep _ ([c]) q) (fun _ h => h.elim) (by rw [lit_wt]; omega)).mono ?_; rintro e w2 ⟨v2, rfl, hO2, hC2, hat2⟩))
                    have hz0 := hC.size
                    have hz1 : wr.heap.size ≤ w1.heap.size := hb1'.size
                    have hz2 := hC2.size
                    have hA1 : ScanAt w1 g s (b : Nat) d := ScanAt.chg (w := wr.drewN _) hA (Chg.of_below hb1') (fun e => e)
                    have hA2 := hA1.chg hC2 hne
                    obtain ⟨j0, j1, j2, jf1, _, jgl⟩ := hA2.cells
                    have haw := add_wt l' (lit [c] q)
                    rw [lit_wt] at haw
                    have hC02 : Chg (fun j => j = g ∨ False) w w2 := ((hC.drewN _).trans (Chg.of_below hb1') (fun _ h _ => h.elim)).trans hC2 (fun j e hl => absurd (hO'.block e.symm) (by omega))
                    have hO2' := (hO2.mono (S' := fun j => w.heap.size ≤ j) (fun j h _ => h.elim id (fun h => by omega))).stay (((Chg.refl (· = g) _)).setCell (p := ⟨g, 1, none⟩) (fun _ => rfl) (.int .i64 (b + 1 : Int))) hSg
                    have hA3 := hA2.at' (b + 1 : Int)
                    have HC03 := hC02.setCell (p := ⟨g, 1, none⟩) (fun _ => .inl rfl) (.int .i64 (b + 1 : Int))
                    clear hO2 hA1
                    go_wp2
                    go_roundg m
                    case measure => omega
                    case rel => exact ⟨by omega, b + 1, _, hA3, by omega, by omega, by omega, hO2', HC03, by omega, HNEXT.out⟩
    · have q1 : decide ((b : Int) < (s.size : Int)) = false := by simp; omega
      obtain ⟨m, rfl⟩ : ∃ m, gk = m + 1 := ⟨gk - 1, by omega⟩
      have HR1 : Hid (R = .ok l' (s.data.toList.drop b)) := Lib.hid (by rw [← HK.out, drop_end s b hlt, word_nil])
      go_wp2
      go_quiet (fail)
      go_wp2
      go_ret
      rw [HR1.out]
      exact ⟨u7, b, rfl, by omega, rfl, (hO'.stay ((Chg.refl (fun _ => False) _).drewN _) (fun _ _ e => e)).mono (fun j h _ => .inr h), hA, hC.drewN _⟩
end Go.Proofs.YtdfnkmiabmjolaaDoor
namespace Go.Proofs.YtdfnkmiabmjolaaDoor
open Go.RowKit

structure ScanSaid (n : Nat) : Prop where
  word : WordSaid n
  double : DoubleSaid n
  dollar : DollarSaid n
  param : ParamSaid n

theorem scan_said (n : Nat) : ScanSaid n := by
  induction n using Nat.strongRecOn with
  | _ n ih =>
    refine ⟨word_said n (fun m h => ⟨(ih m h).double, (ih m h).dollar⟩), double_said n (fun m h => (ih m h).dollar), ?_, ?_⟩
    · cases n with
      | zero => intro w g s a d q h ha hs hd hf; exact absurd hf (by omega)
      | succ n => exact dollar_said n (ih n (by omega)).param
    · cases n with
      | zero => intro w g s a d q h ha hs hd hf; exact absurd hf (by omega)
      | succ n => exact param_said n (ih n (by omega)).word

theorem word_calls (w : World) (g : Nat) (s : ByteArray) (a : Nat) (h : ScanAt w g s a 0) (ha : a ≤ s.size) (hs : s.size ≤ 8192) :
    Calls Tryd.prog 15 #[.pointer (some ⟨g, 0, none⟩), .bool false, .bool false] w (ScanPost w g s 0 (scan (s.data.toList.drop a)) (fun _ => False) (RowVal w (fun _ => False))) :=
  (scan_said _).word w g s a 0 false false h ha hs (by decide) (by rw [fuel, drop_len]; exact Nat.le_refl _)
end Go.Proofs.YtdfnkmiabmjolaaDoor
