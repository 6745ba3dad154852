/- Walks of package word's writing: a part, and parts. And what stands with it. -/
import Derived.Test.YtdfnkmiabmjolaaGreatDoorJ6
import Derived.Deep.DeepMust
import Derived.Deep.RegionHeld3
set_option linter.unusedVariables false
set_option linter.unusedSimpArgs false
namespace Go.Proofs.YtdfnkmiabmjolaaGreatDoor
open Go.RowKit
def HM (w : World) : Prop := ∃ m : Int, w.cell? ⟨0, 0, none⟩ = some (.int .i64 m)
theorem HM.stay {B : Nat → Prop} {w w' : World} (h : HM w) (hc : Chg B w w') (hn : ¬ B 0) : HM w' := by
 obtain ⟨m, h⟩ := h
 exact ⟨m, hc.cell h hn⟩
theorem cat_law {P : Program} (x y : ByteArray) (a b c : Bytes) (hx : x = bstr a) (hy : y = bstr b) (hc : c = a ++ b) (hl : a.length + b.length ≤ 1000000) (w : World) : (Op.stringOp .add x y).run P w = .ok (.string (bstr c)) w := by
 rw [run_string_add_sum w x y (by rw [hx, hy, bstr_size, bstr_size]; omega), hx, hy, bstr_append, hc]
theorem replace_calls (t : Bytes) (w : World) (hm : HM w) (ht : t.length ≤ 1000000) :
  Calls Tryz.prog 140 #[.string (bstr t), .string ⟨#[39]⟩, .string ⟨#[39, 92, 39, 39]⟩] w fun e w' => e = .returned (.string (bstr (quoteP t))) ∧ Chg (fun _ => False) w w' := by
 obtain ⟨m, hm⟩ := hm
 have hc : Lib.countB (bstr t) (⟨#[39]⟩ : ByteArray) ≤ t.length := by
  show Lib.count (bstr t).data.toList [39] ≤ _
  rw [bstr_toList, Lib.count_one]
  exact List.count_le_length
 refine (Tryz.strings_ReplaceAll (bstr t) ⟨#[39]⟩ ⟨#[39, 92, 39, 39]⟩ m w (by rw [bstr_size]; omega) hm (by decide) (by
  rw [bstr_size]
  have h4 : (⟨#[39, 92, 39, 39]⟩ : ByteArray).size = 4 := rfl
  rw [h4]
  omega)).mono ?_
 rintro e w' ⟨rfl, hb⟩
 refine ⟨?_, Chg.of_below hb⟩
 have h1 : (⟨#[39]⟩ : ByteArray).data.toList = [39] := rfl
 have h2 : (⟨#[39, 92, 39, 39]⟩ : ByteArray).data.toList = [39, 92, 39, 39] := rfl
 rw [h1, h2, bstr_toList, replaceAll_quote]
 rfl
def TextSaid (n : Nat) : Prop := ∀ (w : World) (S : Nat → Prop) (v : Value) (ps : List Part), Part.wts ps < n → Part.wts ps ≤ 20000 → HM w → Rep w S (.sl 103 5 (Part.ds ps)) [v] →
 Calls Tryz.prog 94 #[v] w fun e w' => e = .returned (.string (bstr (textP ps))) ∧ Chg (fun _ => False) w w'
def OneSaid (n : Nat) : Prop := ∀ (w : World) (S : Nat → Prop) (cs : List Value) (p : Part), p.wt < n → p.wt ≤ 20000 → HM w → Rep w S p.d cs →
 Calls Tryz.prog 106 #[.agg cs.toArray] w fun e w' => e = .returned (.string (bstr (oneP p))) ∧ Chg (fun _ => False) w w'
set_option maxRecDepth 100000 in
set_option maxHeartbeats 4000000 in
theorem one_step (n : Nat) (IH : TextSaid n) : OneSaid (n + 1) := by
 intro w S cs p hn hb hm h
 obtain ⟨kd, qd, td, od, wd⟩ := p
 obtain ⟨A, c, rfl, hW, hc1, hc2⟩ := part_rep2 h
 have hwl := textP_len wd
 rw [Part.wt] at hn hb
 have e1 : ((bstr od).toList == [108, 101, 110]) = (od == [108, 101, 110]) := by rw [ByteArray.toList_eq, bstr_toList]
 by_cases k1 : kd = 1
 ·subst k1
  cases qd with
  | true =>
   have hO : oneP (.mk 1 true td od wd) = [39] ++ quoteP td ++ [39] := by rw [oneP]; rfl
   rw [hO]
   have hq := quoteP_len td
   have c1 := cat_law (P := Tryz.prog) ⟨#[39]⟩ (bstr (quoteP td)) [39] (quoteP td) ([39] ++ quoteP td) rfl rfl rfl (by simp; omega)
   have c2 := cat_law (P := Tryz.prog) (bstr ([39] ++ quoteP td)) ⟨#[39]⟩ ([39] ++ quoteP td) [39] ([39] ++ quoteP td ++ [39]) rfl rfl rfl (by simp; omega)
   have HR := Lib.hid (fun w' (hm : HM w') => replace_calls td w' hm (by omega))
   have hm1 := hm.stay ((Chg.refl (fun _ => False) w).alloc (.cells #[.int .i64 1, .bool true, .string (bstr td), .string (bstr od), .slice A wd.length c] 103)) (fun e => e)
   clear hq hO hW h hwl
   generalize quoteP td = qt at *
   generalize hx1 : bstr ([39] ++ qt) = x1 at *
   generalize hx2 : bstr ([39] ++ qt ++ [39]) = x2 at *
   clear hx1 hx2
   go_enter Tryz.func106, Tryz.ntmps106
   go_wp2_with (go_at_call 140; refine Calls.mono (HR.out _ hm1) ?_; rintro e w' ⟨rfl, hC⟩)
   go_ret
   exact ⟨rfl, ((Chg.refl (fun _ => False) w).alloc _).trans hC (fun _ h _ => h)⟩
  | false =>
   have hO : oneP (.mk 1 false td od wd) = td := by rw [oneP]; rfl
   rw [hO]
   go_enter Tryz.func106, Tryz.ntmps106
   go_wp2
   go_ret
   exact ⟨rfl, (Chg.refl (fun _ => False) w).alloc _⟩
 ·have k1b : (kd == 1) = false := by simpa using k1
  by_cases k2 : kd = 2
  ·subst k2
   cases ho : (od == [108, 101, 110]) with
   | true =>
    rw [ho] at e1
    have hO : oneP (.mk 2 qd td od wd) = [36, 123, 35] ++ td ++ [125] := by rw [oneP, ho]; rfl
    rw [hO]
    have c1 := cat_law (P := Tryz.prog) ⟨#[36, 123, 35]⟩ (bstr td) [36, 123, 35] td ([36, 123, 35] ++ td) rfl rfl rfl (by simp; omega)
    have c2 := cat_law (P := Tryz.prog) (bstr ([36, 123, 35] ++ td)) ⟨#[125]⟩ ([36, 123, 35] ++ td) [125] ([36, 123, 35] ++ td ++ [125]) rfl rfl rfl (by simp; omega)
    clear hwl hW h
    generalize hx1 : bstr ([36, 123, 35] ++ td) = x1 at *
    generalize hx2 : bstr ([36, 123, 35] ++ td ++ [125]) = x2 at *
    clear hx1 hx2
    generalize bstr td = tb at *
    generalize bstr od = ob at *
    go_enter Tryz.func106, Tryz.ntmps106
    go_wp2
    go_ret
    exact ⟨rfl, (Chg.refl (fun _ => False) w).alloc _⟩
   | false =>
    rw [ho] at e1
    have hO : oneP (.mk 2 qd td od wd) = [36, 123] ++ td ++ od ++ textP wd ++ [125] := by rw [oneP, ho]; rfl
    rw [hO]
    have c1 := cat_law (P := Tryz.prog) ⟨#[36, 123]⟩ (bstr td) [36, 123] td ([36, 123] ++ td) rfl rfl rfl (by simp; omega)
    have c2 := cat_law (P := Tryz.prog) (bstr ([36, 123] ++ td)) (bstr od) ([36, 123] ++ td) od ([36, 123] ++ td ++ od) rfl rfl rfl (by simp; omega)
    have c3 := cat_law (P := Tryz.prog) (bstr ([36, 123] ++ td ++ od)) (bstr (textP wd)) ([36, 123] ++ td ++ od) (textP wd) ([36, 123] ++ td ++ od ++ textP wd) rfl rfl rfl (by simp; omega)
    have c4 := cat_law (P := Tryz.prog) (bstr ([36, 123] ++ td ++ od ++ textP wd)) ⟨#[125]⟩ ([36, 123] ++ td ++ od ++ textP wd) [125] ([36, 123] ++ td ++ od ++ textP wd ++ [125]) rfl rfl rfl (by simp; omega)
    have HT : Hid (∀ w', Chg (fun _ => False) w w' → Calls Tryz.prog 94 #[.slice A wd.length c] w' fun e w'' => e = .returned (.string (bstr (textP wd))) ∧ Chg (fun _ => False) w' w'') :=
     Lib.hid (fun w' hc => IH w' S _ wd (by omega) (by omega) (hm.stay hc (fun e => e)) (hW.stay hc (fun _ _ e => e)))
    clear hO hW h hwl
    generalize textP wd = tw at *
    generalize hx1 : bstr ([36, 123] ++ td) = x1 at *
    generalize hx2 : bstr ([36, 123] ++ td ++ od) = x2 at *
    generalize hx3 : bstr ([36, 123] ++ td ++ od ++ tw) = x3 at *
    generalize hx4 : bstr ([36, 123] ++ td ++ od ++ tw ++ [125]) = x4 at *
    clear hx1 hx2 hx3 hx4
    generalize bstr od = ob at *
    generalize bstr td = tb at *
    generalize bstr tw = wb at *
    go_enter Tryz.func106, Tryz.ntmps106
    go_wp2
    have hC0 : Chg (fun _ => False) w (w.alloc (.cells #[.int .i64 2, .bool qd, .string tb, .string ob, .slice A wd.length c] 103)) := (Chg.refl (fun _ => False) w).alloc _
    have hcl := row_cells (row_new w (.cells #[.int .i64 2, .bool qd, .string tb, .string ob, .slice A wd.length c] 103))
    have y2 := hcl 2
    have y3 := hcl 3
    have y4 := hcl 4
    simp only [List.getElem?_toArray, List.getElem?_cons_succ, List.getElem?_cons_zero] at y2 y3 y4
    clear hcl
    generalize w.alloc (.cells #[.int .i64 2, .bool qd, .string tb, .string ob, .slice A wd.length c] 103) = w1 at *
    go_region_held3 (fun w' => w'.cell? ⟨w.heap.size, 2, none⟩ = some (.string tb) ∧ w'.cell? ⟨w.heap.size, 3, none⟩ = some (.string ob) ∧ w'.cell? ⟨w.heap.size, 4, none⟩ = some (.slice A wd.length c)) (first | go_keep | exact HK.out) ((go_at_call 94; refine Calls.mono (HT.out _ (hC0.drewN 1)) ?_; rintro e w2 ⟨rfl, hC2⟩; have HK := Lib.hid (And.intro (hC2.cell y2 (fun e => e)) (And.intro (hC2.cell y3 (fun e => e)) (hC2.cell y4 (fun e => e))))))
    all_goals
     go_wp2
     go_ret
     exact ⟨rfl, (hC0.drewN 1).trans hC2 (fun _ h _ => h)⟩
  ·have k2b : (kd == 2) = false := by simpa using k2
   by_cases k3 : kd = 3
   ·subst k3
    have hO : oneP (.mk 3 qd td od wd) = [36, 40] ++ td ++ [41] := by rw [oneP]; rfl
    rw [hO]
    have c1 := cat_law (P := Tryz.prog) ⟨#[36, 40]⟩ (bstr td) [36, 40] td ([36, 40] ++ td) rfl rfl rfl (by simp; omega)
    have c2 := cat_law (P := Tryz.prog) (bstr ([36, 40] ++ td)) ⟨#[41]⟩ ([36, 40] ++ td) [41] ([36, 40] ++ td ++ [41]) rfl rfl rfl (by simp; omega)
    clear hwl hW h
    generalize hx1 : bstr ([36, 40] ++ td) = x1 at *
    generalize hx2 : bstr ([36, 40] ++ td ++ [41]) = x2 at *
    clear hx1 hx2
    generalize bstr td = tb at *
    go_enter Tryz.func106, Tryz.ntmps106
    go_wp2
    go_ret
    exact ⟨rfl, (Chg.refl (fun _ => False) w).alloc _⟩
   ·have k3b : (kd == 3) = false := by simpa using k3
    have hO : oneP (.mk kd qd td od wd) = [36, 40, 40] ++ td ++ [41, 41] := by rw [oneP, k1b, k2b, k3b]; rfl
    rw [hO]
    have c1 := cat_law (P := Tryz.prog) ⟨#[36, 40, 40]⟩ (bstr td) [36, 40, 40] td ([36, 40, 40] ++ td) rfl rfl rfl (by simp; omega)
    have c2 := cat_law (P := Tryz.prog) (bstr ([36, 40, 40] ++ td)) ⟨#[41, 41]⟩ ([36, 40, 40] ++ td) [41, 41] ([36, 40, 40] ++ td ++ [41, 41]) rfl rfl rfl (by simp; omega)
    clear hwl hW h
    generalize hx1 : bstr ([36, 40, 40] ++ td) = x1 at *
    generalize hx2 : bstr ([36, 40, 40] ++ td ++ [41, 41]) = x2 at *
    clear hx1 hx2
    generalize bstr td = tb at *
    clear k1 k2 k3
    go_enter Tryz.func106, Tryz.ntmps106
    go_wp2
    go_ret
    exact ⟨rfl, (Chg.refl (fun _ => False) w).alloc _⟩
theorem wts_take_le : ∀ (ps : List Part) (k : Nat), Part.wts (ps.take k) ≤ Part.wts ps
 | [], k => by simp
 | p :: ps, 0 => by simp [Part.wts]
 | p :: ps, k + 1 => by have := wts_take_le ps k; simp [Part.wts]; omega
theorem wt_mem : ∀ {ps : List Part} {k : Nat} {p : Part}, ps[k]? = some p → p.wt ≤ Part.wts ps
 | [], k, p, h => by simp at h
 | q :: ps, 0, p, h => by simp at h; subst h; simp [Part.wts]
 | q :: ps, k + 1, p, h => by have := wt_mem (ps := ps) (k := k) (p := p) (by simpa using h); simp [Part.wts]; omega
theorem textP_take (ps : List Part) (k : Nat) (p : Part) (h : ps[k]? = some p) : textP (ps.take (k + 1)) = textP (ps.take k) ++ partP p := by
 obtain ⟨hlt, rfl⟩ := List.getElem?_eq_some_iff.1 h
 rw [List.take_succ_eq_append_getElem hlt, textP_append, textP_cons]
 simp [textP]
theorem sl_form2 {w : World} {S : Nat → Prop} {e sz : Nat} {xs : List D} {v : Value} (h : Rep w S (.sl e sz xs) [v]) : ∃ A c, v = .slice A xs.length c := by
 obtain ⟨A, c, inner, h1, _⟩ := h
 exact ⟨A, c, by simpa using h1⟩
theorem Chg.of_below' {B : Nat} {w w' : World} (h : Below B w w') : Chg (fun k => B ≤ k) w w' := ⟨h.os, h.tape, h.output, h.size, fun k _ hn => h.block k (Nat.lt_of_not_le hn)⟩
theorem bv_new (w : World) : BV (w.heap.size + 1) w.heap.size (.slice none 0 0) [] (w.alloc (.cells #[.pointer none, .slice none 0 0] 54)) :=
 ⟨_, .inl rfl, heap_alloc_new w _, World.ownsRow_nil _ _ _ _, by simp [Value.ownBlock]⟩
set_option maxRecDepth 100000 in
set_option maxHeartbeats 4000000 in
theorem text_step (n : Nat) (IH : OneSaid n) : TextSaid n := by
 intro w S v ps hn hb hm h
 obtain ⟨A, c, rfl⟩ := sl_form2 h
 rw [Part.ds_length] at h ⊢
 have hmax : ps.length ≤ c ∧ c ≤ maxLen := by
  obtain ⟨_, _, _, h1, h2, h3, _⟩ := h
  simp only [List.cons.injEq, Value.slice.injEq, and_true] at h1
  rw [Part.ds_length] at h2
  exact ⟨by omega, by omega⟩
 unfold maxLen at hmax
 go_enter Tryz.func94, Tryz.ntmps94
 go_wp2
 have hB0 := bv_new w
 have hC0 : Chg (fun _ => False) w (w.alloc (.cells #[.pointer none, .slice none 0 0] 54)) := (Chg.refl (fun _ => False) w).alloc _
 generalize w.alloc (.cells #[.pointer none, .slice none 0 0] 54) = w0 at *
 go_loopg [9] ps.length (fun rk i wr => ∃ (k : Nat) (bv : Value), k + rk = ps.length ∧ i = .int .i64 k ∧ BV (w.heap.size + 1) w.heap.size bv (textP (ps.take k)) wr ∧ Chg (fun _ => False) w wr)
 case atStart => exact ⟨0, _, by omega, rfl, by simpa [textP] using hB0, hC0⟩
 case round =>
  clear hB0 hC0
  obtain ⟨k, bv, hk, rfl, hB, hC⟩ := hrel
  generalize wr = W at *
  have hown := hB.own
  have hsz : w.heap.size + 1 ≤ W.heap.size := by
   obtain ⟨p, _, hh, _⟩ := hB
   exact row_lt hh
  by_cases hlt : k < ps.length
  ·obtain ⟨p, hp⟩ : ∃ p, ps[k]? = some p := ⟨ps[k], List.getElem?_eq_getElem hlt⟩
   have hz := h.stay hC (fun _ _ e => e)
   obtain ⟨b1, o1, c1', cs1, hv1, _, _, _, hr1, hl1, hcs1⟩ := sl_get hz (by omega) k p.d (by rw [Part.ds_map, List.getElem?_map, hp]; rfl)
   simp only [Part.ds_length, Value.slice.injEq] at hv1
   obtain ⟨rfl, _, rfl⟩ := hv1
   have HTK := Lib.hid (textP_take ps k p hp)
   have hwt := wt_mem hp
   have hwl := wts_take_le ps k
   have htl := textP_len (ps.take k)
   have hol := oneP_len p
   have hpl := partP_len p
   have hone := fun w' (hc : Chg (fun _ => False) W w') => IH w' S cs1 p (by omega) (by omega) (hm.stay (hC.trans hc (fun _ h _ => h)) (fun e => e)) (hr1.stay hc (fun _ _ e => e))
   have r0 : IntKind.i64.wrap ((k : Int) + 1) = (k : Int) + 1 := IntWalk.i64_in _ (by omega)
   obtain ⟨kd, qd, td, od, wd⟩ := p
   obtain ⟨Aw, cw, rfl, _⟩ := part_rep2 hr1
   have g10 := hcs1 0 _ rfl
   have g11 := hcs1 1 _ rfl
   have g12 := hcs1 2 _ rfl
   have g13 := hcs1 3 _ rfl
   have g14 := hcs1 4 _ rfl
   simp only [Nat.add_zero, ← Nat.add_assoc] at g10 g11 g12 g13 g14
   have HONE := Lib.hid hone
   clear hone hcs1 hr1 hz hp hl1
   generalize bstr td = tb at *
   generalize bstr od = ob at *
   go_wp2_with fail
   have hCa : Chg (fun _ => False) W (W.alloc (.cells #[.int .i64 kd, .bool qd, .string tb, .string ob, .slice Aw wd.length cw] 103)) := (Chg.refl _ W).alloc _
   have hrow := row_new W (.cells #[.int .i64 kd, .bool qd, .string tb, .string ob, .slice Aw wd.length cw] 103)
   generalize W.alloc (.cells #[.int .i64 kd, .bool qd, .string tb, .string ob, .slice Aw wd.length cw] 103) = W2 at *
   refine Calls.mono (HONE.out _ hCa) ?_
   rintro e w3 ⟨rfl, hC2⟩
   have hC3 := hCa.trans hC2 (fun _ h _ => h)
   have hrow3 := row_chg hrow hC2 (fun e => e)
   have hcl := row_cells hrow3
   have hB3 := hB.stay hC3 (fun e => e) (fun _ _ e => e)
   have hsz3 := hC3.size
   clear HONE hrow hCa hC2 g10 g11 g12 g13 g14 hB hrow3
   generalize hon : oneP (.mk kd qd td od wd) = on at *
   cases qd with
   | false =>
    have hpp : partP (.mk kd false td od wd) = on := by unfold partP; rw [← hon]; rfl
    have HWR := Lib.hid (WriteString_calls (w.heap.size + 1) w.heap.size bv (textP (ps.take k)) (bstr on) w3 hB3 (by omega) (by rw [bstr_size]; omega) (by omega))
    generalize hx3 : bstr on = x3 at *
    go_wp2_with fail
    refine Calls.mono HWR.out ?_
    rintro e w4 ⟨rfl, bv4, hB4, hC4⟩
    go_wp2
    go_roundg (gk - 1)
    case measure => omega
    case rel =>
     refine ⟨k + 1, bv4, by omega, rfl, ?_, ?_⟩
     ·rw [HTK.out, hpp]
      rw [← hx3, bstr_toList] at hB4
      exact hB4
     ·exact (hC.trans hC3 (fun _ h _ => h)).trans hC4 (fun j hj hl => by
       rcases hj with rfl | hj
       ·exact absurd hl (Nat.lt_irrefl _)
       ·have := (hown j hj.symm).1; omega)
   | true =>
    by_cases k1 : kd = 1
    ·subst k1
     have hpp : partP (.mk 1 true td od wd) = on := by unfold partP; rw [← hon]; rfl
     have HWR := Lib.hid (WriteString_calls (w.heap.size + 1) w.heap.size bv (textP (ps.take k)) (bstr on) w3 hB3 (by omega) (by rw [bstr_size]; omega) (by omega))
     generalize hx3 : bstr on = x3 at *
     go_wp2_with fail
     refine Calls.mono HWR.out ?_
     rintro e w4 ⟨rfl, bv4, hB4, hC4⟩
     go_wp2
     go_roundg (gk - 1)
     case measure => omega
     case rel =>
      refine ⟨k + 1, bv4, by omega, rfl, ?_, ?_⟩
      ·rw [HTK.out, hpp]
       rw [← hx3, bstr_toList] at hB4
       exact hB4
      ·exact (hC.trans hC3 (fun _ h _ => h)).trans hC4 (fun j hj hl => by
        rcases hj with rfl | hj
        ·exact absurd hl (Nat.lt_irrefl _)
        ·have := (hown j hj.symm).1; omega)
    ·have k1b : (kd != 1) = true := by simpa using k1
     have k1c : (kd == 1) = false := by simpa using k1
     have hpp : partP (.mk kd true td od wd) = [34] ++ on ++ [34] := by
      unfold partP
      rw [hon]
      rw [if_pos (by show (true && (kd != 1)) = true; rw [k1b]; rfl)]
      rfl
     have hlen : ([34] ++ on ++ [34] : Bytes).length = on.length + 2 := by simp
     have c1 := cat_law (P := Tryz.prog) ⟨#[34]⟩ (bstr on) [34] on ([34] ++ on) rfl rfl rfl (by simp; omega)
     have c2 := cat_law (P := Tryz.prog) (bstr ([34] ++ on)) ⟨#[34]⟩ ([34] ++ on) [34] ([34] ++ on ++ [34]) rfl rfl rfl (by simp; omega)
     clear k1
     generalize hx1 : bstr ([34] ++ on) = x1 at *
     generalize hx4 : ([34] ++ on ++ [34] : Bytes) = x4 at *
     generalize bstr on = xo at *
     clear hx1 hx4
     have HWR := Lib.hid (WriteString_calls (w.heap.size + 1) w.heap.size bv (textP (ps.take k)) (bstr x4) w3 hB3 (by omega) (by rw [bstr_size]; omega) (by omega))
     generalize hx3 : bstr x4 = x3 at *
     go_wp2_with fail
     refine Calls.mono HWR.out ?_
     rintro e w4 ⟨rfl, bv4, hB4, hC4⟩
     go_wp2
     go_roundg (gk - 1)
     case measure => omega
     case rel =>
      refine ⟨k + 1, bv4, by omega, rfl, ?_, ?_⟩
      ·rw [HTK.out, hpp]
       rw [← hx3, bstr_toList] at hB4
       exact hB4
      ·exact (hC.trans hC3 (fun _ h _ => h)).trans hC4 (fun j hj hl => by
        rcases hj with rfl | hj
        ·exact absurd hl (Nat.lt_irrefl _)
        ·have := (hown j hj.symm).1; omega)
  ·have hk' : k = ps.length := by omega
   subst hk'
   rw [List.take_length] at hB
   have hS := Tryz.Builder_String_any w.heap.size w.heap.size (textP ps) W (hB.bat (Nat.le_refl _) (Nat.le_succ _)) (by omega)
   clear hm h hB hown
   go_wp2_with fail
   refine Calls.mono hS ?_
   rintro e w5 ⟨rfl, hb5⟩
   go_wp2
   go_ret
   exact ⟨rfl, hC.trans (Chg.of_below' hb5) (fun j hj hl => absurd hl (Nat.not_lt_of_le hj))⟩
end Go.Proofs.YtdfnkmiabmjolaaGreatDoor
namespace Go.Proofs.YtdfnkmiabmjolaaGreatDoor
structure Asg where
 name : Bytes
 word : List Part
structure Rdr where
 fd : Int
 op : Bytes
 word : List Part
mutual
inductive Cmd where
 | mk (kind : Int) (name : Bytes) (assigns : List Asg) (words : List (List Part)) (cond body other : List Lst) (cases : List Cas) (redirs : List Rdr)
inductive Cas where
 | mk (patterns : List (List Part)) (body : List Lst)
inductive Pip where
 | mk (neg : Bool) (cmds : List Cmd)
inductive Lst where
 | mk (pipes : List Pip) (ops : List Bytes)
end
def Rs.bind {α β : Type} (x : Rs α) (f : α → Bytes → Rs β) : Rs β :=
 match x with
 | .ok a r => f a r
 | .err l c => .err l c
def failP {α : Type} (left : Nat) (e : Int) : Rs α := if left == 0 && e == 61 then .err 0 62 else .err left e
def failS {α : Type} (r : Bytes) (e : Int) : Rs α := failP r.length e
def blanks : Bytes → Bytes
 | [] => []
 | [c] => if c == 32 || c == 9 || c == 35 then [] else [c]
 | c :: d :: r =>
  if c == 32 || c == 9 then blanks (d :: r)
  else if c == 35 then (d :: r).dropWhile (fun x => !(x == 10))
  else if c == 92 && d == 10 then blanks r
  else c :: d :: r
def linesF : Nat → Bytes → Bytes
 | 0, r => r
 | n + 1, r => match blanks r with
  | [] => []
  | c :: r' => if c == 10 then linesF n r' else c :: r'
def lines (r : Bytes) : Bytes := linesF (r.length + 1) r
def signs : List Bytes := [[38, 38], [124, 124], [59, 59], [62, 62], [60, 38], [62, 38], [10], [38], [124], [59], [60], [62], [40], [41]]
def sgn (r : Bytes) : Bytes := opL signs (blanks r)
def wantP (s r : Bytes) : Rs Unit := if sgn r == s then .ok () ((blanks r).drop s.length) else failS (blanks r) 61
def peek (r : Bytes) : Bytes × Bytes :=
 match scan (blanks r) with
 | .ok [.mk k q t _ _] r' => if k == 1 && !q then (t, r') else ([], [])
 | _ => ([], [])
def mustP (s r : Bytes) : Rs Unit := if (peek r).1 == s then .ok () (peek r).2 else failS (blanks r) 61
mutual
def insP (pe : Bytes → Int) : Part → Int
 | .mk k _ t _ w => if k == 3 && pe t != 0 then pe t else insPs pe w
def insPs (pe : Bytes → Int) : List Part → Int
 | [] => 0
 | p :: l => if insP pe p != 0 then insP pe p else insPs pe l
end
def wordP (pe : Bytes → Int) (r : Bytes) : Rs (List Part) :=
 match scan (blanks r) with
 | .err left e => failP left e
 | .ok l r' =>
  if l.isEmpty && r'.length == (blanks r).length then failS (blanks r) 61
  else if insPs pe l != 0 then failS (blanks r) (insPs pe l)
  else .ok (if l.isEmpty then [lit [] true] else l) r'
def closers : List Bytes := [[116, 104, 101, 110], [101, 108, 115, 101], [101, 108, 105, 102], [102, 105], [100, 111], [100, 111, 110, 101], [101, 115, 97, 99], [125]]
def closing (w : Bytes) : Bool := closers.contains w
def over (r : Bytes) : Bool := (blanks r).isEmpty || closing (peek r).1 || sgn r == [41] || sgn r == [59, 59]
def fdP (b : Bytes) : Int × Bytes :=
 match b with
 | c :: d :: r => if digit c && (d == 60 || d == 62) then ((c.toNat : Int) - 48, d :: r) else (-1, b)
 | _ => (-1, b)
def redirP (wd : Bytes → Rs (List Part)) (r : Bytes) : Rs (Option Rdr) :=
 let p := fdP (blanks r)
 let s := sgn p.2
 if s == [60] || s == [60, 38] then (wd ((blanks p.2).drop s.length)).bind fun w r' => .ok (some ⟨max p.1 0, s, w⟩) r'
 else if s == [62] || s == [62, 62] || s == [62, 38] then (wd ((blanks p.2).drop s.length)).bind fun w r' => .ok (some ⟨if p.1 < 0 then 1 else p.1, s, w⟩) r'
 else .ok none (blanks r)
def redirsF (wd : Bytes → Rs (List Part)) : Nat → List Rdr → Bytes → Rs (List Rdr)
 | 0, _, _ => .err 0 (-1)
 | n + 1, rs, r => (redirP wd r).bind fun o r' => match o with
  | some x => redirsF wd n (rs ++ [x]) r'
  | none => .ok rs r'
def assigned (l : List Part) : Option Asg :=
 match l with
 | .mk k q t _ _ :: l' =>
  if k == 1 && !q then (match idx 61 t with
   | none => none
   | some i => if nameB (t.take i) then some ⟨t.take i, (if (t.drop (i + 1)).isEmpty then [] else [lit (t.drop (i + 1)) false]) ++ l'⟩ else none)
  else none
 | [] => none
def simpleF (wd : Bytes → Rs (List Part)) (fn : Bytes → Bytes → Rs Cmd) : Nat → List Asg → List (List Part) → List Rdr → Bytes → Rs Cmd
 | 0, _, _, _, _ => .err 0 (-1)
 | n + 1, xas, ws, rs, r => (redirP wd r).bind fun o b => match o with
  | some x => simpleF wd fn n xas ws (rs ++ [x]) b
  | none =>
   let first := xas.length + ws.length + rs.length == 0
   if first && closing (peek b).1 then failS (blanks b) 61
   else if sgn b != [] || (blanks b).isEmpty then (if first then failS (blanks b) 61 else .ok (.mk 1 [] xas ws [] [] [] [] rs) (blanks b))
   else if first && nameB (peek b).1 && (peek b).2.head? == some 40 then fn (peek b).1 ((peek b).2.drop 1)
   else (wd (blanks b)).bind fun l b' => match assigned l, ws.isEmpty with
    | some a, true => simpleF wd fn n (xas ++ [a]) ws rs b'
    | _, _ => simpleF wd fn n xas (ws ++ [l]) rs b'
def loopP (ls : Bytes → Rs (List Lst)) (r : Bytes) : Rs (List Lst) :=
 (mustP [100, 111] r).bind fun _ r1 => (ls r1).bind fun l r2 => (mustP [100, 111, 110, 101] r2).bind fun _ r3 => .ok l r3
def wordsF (wd : Bytes → Rs (List Part)) : Nat → List (List Part) → Bytes → Rs (List (List Part))
 | 0, _, _ => .err 0 (-1)
 | n + 1, ws, r => if sgn r == [59] || sgn r == [10] then .ok ws (blanks r) else (wd (blanks r)).bind fun w r' => wordsF wd n (ws ++ [w]) r'
def takeR (s r : Bytes) : Bytes := if sgn r == s then (blanks r).drop s.length else blanks r
def eachP (wd : Bytes → Rs (List Part)) (ls : Bytes → Rs (List Lst)) (r : Bytes) : Rs Cmd :=
 if nameB (peek r).1 then
  (if (peek (lines (peek r).2)).1 == [105, 110] then wordsF wd ((peek (lines (peek r).2)).2.length + 1) [] (peek (lines (peek r).2)).2
   else .ok [[.mk 2 true [64] [] []]] (blanks (lines (peek r).2))).bind fun ws r1 =>
  (loopP ls (lines (takeR [59] r1))).bind fun l r2 => .ok (.mk 7 (peek r).1 [] ws [] l [] [] []) r2
 else failS (blanks r) 61
def patsF (wd : Bytes → Rs (List Part)) : Nat → List (List Part) → Bytes → Rs (List (List Part))
 | 0, _, _ => .err 0 (-1)
 | n + 1, ps, r => (wd r).bind fun w r1 => if sgn r1 == [124] then patsF wd n (ps ++ [w]) ((blanks r1).drop 1) else .ok (ps ++ [w]) (blanks r1)
def casesF (wd : Bytes → Rs (List Part)) (ls : Bytes → Rs (List Lst)) : Nat → List Cas → Bytes → Rs (List Cas)
 | 0, _, _ => .err 0 (-1)
 | n + 1, cs, r =>
  if (peek r).1 == [101, 115, 97, 99] then .ok cs (peek r).2
  else (patsF wd ((blanks r).length + 1) [] (takeR [40] (blanks r))).bind fun ps r1 => (wantP [41] r1).bind fun _ r2 =>
   (if over (lines r2) then .ok [] (blanks (lines r2)) else ls (blanks (lines r2))).bind fun l r3 =>
   if sgn r3 == [59, 59] then casesF wd ls n (cs ++ [.mk ps l]) (lines ((blanks r3).drop 2))
   else (mustP [101, 115, 97, 99] (blanks r3)).bind fun _ r4 => .ok (cs ++ [.mk ps l]) r4
def choiceP (wd : Bytes → Rs (List Part)) (ls : Bytes → Rs (List Lst)) (r : Bytes) : Rs Cmd :=
 (wd r).bind fun w r1 => (mustP [105, 110] (lines r1)).bind fun _ r2 => (casesF wd ls ((lines r2).length + 1) [] (lines r2)).bind fun cs r3 => .ok (.mk 8 [] [] [w] [] [] [] cs []) r3
def branchF (ls : Nat → Bytes → Rs (List Lst)) : Nat → Nat → Bytes → Rs Cmd
 | 0, _, _ => .err 0 (-1)
 | n + 1, d, r => (ls d r).bind fun cond r1 => (mustP [116, 104, 101, 110] r1).bind fun _ r2 => (ls d r2).bind fun body r3 =>
  if (peek r3).1 == [101, 108, 105, 102] then
   (if d + 1 > 16 then failS (peek r3).2 63 else (branchF ls n (d + 1) (peek r3).2).bind fun c r4 => .ok (.mk 4 [] [] [] cond body [.mk [.mk false [c]] []] [] []) r4)
  else if (peek (blanks r3)).1 == [101, 108, 115, 101] then
   (ls d (peek (blanks r3)).2).bind fun other r4 => (mustP [102, 105] r4).bind fun _ r5 => .ok (.mk 4 [] [] [] cond body other [] []) r5
  else (mustP [102, 105] (blanks (blanks r3))).bind fun _ r5 => .ok (.mk 4 [] [] [] cond body [] [] []) r5
def compoundP (wd : Bytes → Rs (List Part)) (ls : Bytes → Rs (List Lst)) (br : Bytes → Rs Cmd) (r : Bytes) : Rs (Option Cmd) :=
 if sgn r == [40] then (ls ((blanks r).drop 1)).bind fun l r1 => (wantP [41] r1).bind fun _ r2 => .ok (some (.mk 3 [] [] [] [] l [] [] [])) r2
 else
  let w := (peek (blanks r)).1
  let r0 := (peek (blanks r)).2
  if w == [123] then (ls r0).bind fun l r1 => (mustP [125] r1).bind fun _ r2 => .ok (some (.mk 2 [] [] [] [] l [] [] [])) r2
  else if w == [105, 102] then (br r0).bind fun c r1 => .ok (some c) r1
  else if w == [119, 104, 105, 108, 101] || w == [117, 110, 116, 105, 108] then
   (ls r0).bind fun cond r1 => (loopP ls r1).bind fun l r2 => .ok (some (.mk (if w == [117, 110, 116, 105, 108] then 6 else 5) [] [] [] cond l [] [] [])) r2
  else if w == [102, 111, 114] then (eachP wd ls r0).bind fun c r1 => .ok (some c) r1
  else if w == [99, 97, 115, 101] then (choiceP wd ls r0).bind fun c r1 => .ok (some c) r1
  else .ok none (blanks (blanks r))
def withRedirs (c : Cmd) (rs : List Rdr) : Cmd :=
 match c with
 | .mk k n xas ws cond body other cs rs0 => .mk k n xas ws cond body other cs (rs0 ++ rs)
def functionP (wd : Bytes → Rs (List Part)) (deep : Nat) (comp : Bytes → Rs (Option Cmd)) (name r : Bytes) : Rs Cmd :=
 (wantP [41] r).bind fun _ r1 =>
  if deep + 1 > 16 then failS (lines r1) 63
  else (comp (lines r1)).bind fun o r2 => match o with
   | none => failS (lines r1) 61
   | some c => (redirsF wd (r2.length + 1) [] r2).bind fun rs r3 => .ok (.mk 9 name [] [] [] [.mk [.mk false [withRedirs c rs]] []] [] [] []) r3
def pipeF (cmd : Bytes → Rs Cmd) : Nat → Bool → List Cmd → Bytes → Rs Pip
 | 0, _, _, _ => .err 0 (-1)
 | n + 1, neg, cs, r => (cmd r).bind fun c r1 => if sgn r1 == [124] then pipeF cmd n neg (cs ++ [c]) (lines ((blanks r1).drop 1)) else .ok (.mk neg (cs ++ [c])) (blanks r1)
def pipeP (cmd : Bytes → Rs Cmd) (r : Bytes) : Rs Pip :=
 if (peek r).1 == [33] then pipeF cmd (r.length + 1) true [] (peek r).2 else pipeF cmd (r.length + 1) false [] (blanks r)
def listF (pipe : Bytes → Rs Pip) : Nat → List Pip → List Bytes → Bytes → Rs Lst
 | 0, _, _, _ => .err 0 (-1)
 | n + 1, ps, os, r => (pipe r).bind fun p r1 =>
  if sgn r1 == [38, 38] || sgn r1 == [124, 124] then listF pipe n (ps ++ [p]) (os ++ [sgn r1]) (lines ((blanks r1).drop (sgn r1).length)) else .ok (.mk (ps ++ [p]) os) (blanks r1)
def listsF (list : Bytes → Rs Lst) : Nat → Bool → List Lst → Bytes → Rs (List Lst)
 | 0, _, _, _ => .err 0 (-1)
 | n + 1, first, ls, r =>
  if first || !over r then (list (if first then r else blanks r)).bind fun x r1 =>
   if sgn r1 == [59] then listsF list n false (ls ++ [x]) (lines ((blanks r1).drop 1))
   else if sgn r1 == [10] then listsF list n false (ls ++ [x]) (lines (blanks r1))
   else if over (blanks r1) then listsF list n false (ls ++ [x]) (blanks (blanks r1))
   else failS (blanks (blanks r1)) 61
  else .ok ls (blanks r)
def parseG (ls : Bytes → Rs (List Lst)) (s : Bytes) : Rs (List Lst) :=
 (if (lines s).isEmpty then .ok [] [] else ls (lines s)).bind fun l r => if r.isEmpty then .ok l [] else failS r 61
def codeOf {α : Type} : Rs α → Int
 | .ok _ _ => 0
 | .err _ c => c
mutual
def lists : Nat → Nat → Bytes → Rs (List Lst)
 | 0, _, _ => .err 0 (-1)
 | n + 1, d, r => if d + 1 > 16 then failS r 63 else listsF (listF (pipeP (command n (d + 1))) (r.length + 1) [] []) (r.length + 1) true [] (lines r)
def command : Nat → Nat → Bytes → Rs Cmd
 | 0, _, _ => .err 0 (-1)
 | n + 1, d, r => (compound n d r).bind fun o r1 => match o with
  | some c => (redirsF (wordS n d) (r1.length + 1) [] r1).bind fun rs r2 => .ok (withRedirs c rs) r2
  | none => simpleF (wordS n d) (functionP (wordS n (d + 1)) d (compound n (d + 1))) (r1.length + 1) [] [] [] r1
def compound : Nat → Nat → Bytes → Rs (Option Cmd)
 | 0, _, _ => .err 0 (-1)
 | n + 1, d, r => compoundP (wordS n d) (lists n d) (branchF (fun d' => lists n d') (r.length + 1) d) r
def wordS : Nat → Nat → Bytes → Rs (List Part)
 | 0, _, _ => .err 0 (-1)
 | n + 1, d, r => wordP (fun t => codeOf (parseF n (d + 1) t)) r
def parseF : Nat → Nat → Bytes → Rs (List Lst)
 | 0, _, _ => .err 0 (-1)
 | n + 1, d, s => parseG (lists n d) s
end
def sizeL (g : List Part → Nat) : Nat → List Part → Nat
 | n, [] => n
 | n, p :: ps => if 4000 < n then n else sizeL g (n + p.text.length + p.op.length + g p.word) ps
def sizeW : Nat → List Part → Nat
 | 0, _ => 5000
 | f + 1, ps => if 4000 < ps.length then 5000 else sizeL (sizeW f) ps.length ps
theorem sizeL_mono (g : List Part → Nat) : ∀ ps n, n ≤ sizeL g n ps
 | [], n => Nat.le_refl _
 | p :: ps, n => by
  rw [sizeL]
  split
  ·omega
  ·have := sizeL_mono g ps (n + p.text.length + p.op.length + g p.word)
   omega
theorem sizeL_exact (g : List Part → Nat) (h : ∀ ps, g ps ≤ 4000 → g ps = Part.wts ps) : ∀ ps n, sizeL g n ps ≤ 4000 → sizeL g n ps + ps.length = n + Part.wts ps
 | [], n, _ => by simp [sizeL, Part.wts]
 | .mk k q t o w :: ps, n, hn => by
  rw [sizeL] at hn ⊢
  split at hn
  ·omega
  ·rename_i hc
   rw [if_neg hc]
   have h1 := sizeL_mono g ps (n + (Part.mk k q t o w).text.length + (Part.mk k q t o w).op.length + g (Part.mk k q t o w).word)
   have h2 := sizeL_exact g h ps _ hn
   have h3 := h w (by simp only [Part.word] at h1 hn; omega)
   rw [List.length_cons]
   simp only [Part.text, Part.op, Part.word, Part.wts, Part.wt] at h2 ⊢
   omega
theorem sizeW_exact : ∀ f ps, sizeW f ps ≤ 4000 → sizeW f ps = Part.wts ps
 | 0, ps, h => by simp [sizeW] at h
 | f + 1, ps, h => by
  rw [sizeW] at h ⊢
  split at h
  ·omega
  ·rename_i hc
   rw [if_neg hc]
   have := sizeL_exact (sizeW f) (sizeW_exact f) ps ps.length h
   omega
mutual
def Part.lim : Part → Prop
 | .mk _ _ t o w => t.length ≤ 140737488355328 ∧ o.length ≤ 140737488355328 ∧ Part.lims w
def Part.lims : List Part → Prop
 | [] => True
 | p :: ps => p.lim ∧ Part.lims ps
end
theorem lims_mem : ∀ {ps : List Part} {k : Nat} {p : Part}, Part.lims ps → ps[k]? = some p → p.lim
 | [], _, _, _, h => by simp at h
 | q :: ps, 0, p, hl, h => by simp at h; subst h; exact hl.1
 | q :: ps, k + 1, p, hl, h => lims_mem hl.2 (by simpa using h)
theorem sizeL_le (g : List Part → Nat) (G B : Nat) (hg : ∀ w, Part.lims w → g w ≤ G) (hB : 281474976714656 + G ≤ B) : ∀ ps n, Part.lims ps → n ≤ B → sizeL g n ps ≤ B
 | [], n, _, h => h
 | .mk k q t o w :: ps, n, hl, h => by
  rw [sizeL]
  split
  ·exact h
  ·obtain ⟨⟨h1, h2, h3⟩, h4⟩ := hl
   refine sizeL_le g G B hg hB ps _ h4 ?_
   have := hg w h3
   simp only [Part.text, Part.op, Part.word]
   omega
theorem sizeW_le : ∀ f ps, Part.lims ps → sizeW f ps ≤ 5000 + f * 281474976714656
 | 0, _, _ => by simp [sizeW]
 | f + 1, ps, h => by
  rw [sizeW]
  split
  ·omega
  ·exact sizeL_le (sizeW f) _ _ (fun w hw => sizeW_le f w hw) (by omega) ps _ h (by omega)
theorem sizeL_step (g : List Part → Nat) (ps : List Part) (k n : Nat) (p : Part) (hp : ps[k]? = some p) (hn : ¬ 4000 < n) :
  sizeL g n (ps.drop k) = sizeL g (n + p.text.length + p.op.length + g p.word) (ps.drop (k + 1)) := by
 obtain ⟨h1, e1⟩ := List.getElem?_eq_some_iff.1 hp
 rw [List.drop_eq_getElem_cons h1, sizeL, if_neg hn, e1]
theorem sizeL_stop (g : List Part → Nat) (ps : List Part) (n : Nat) (hn : 4000 < n) : sizeL g n ps = n := by
 cases ps with
 | nil => rfl
 | cons p ps => rw [sizeL, if_pos hn]
def eqAll {α : Type} (g : α → α → Bool) : List α → List α → Bool
 | [], [] => true
 | x :: xs, y :: ys => g x y && eqAll g xs ys
 | _, _ => false
theorem eqAll_length {α : Type} (g : α → α → Bool) : ∀ (a b : List α), a.length ≠ b.length → eqAll g a b = false
 | [], [], h => absurd rfl h
 | [], _ :: _, _ => by simp [eqAll]
 | _ :: _, [], _ => by simp [eqAll]
 | p :: a, q :: b, h => by rw [eqAll, eqAll_length g a b (by simpa using h), Bool.and_false]
theorem eqAll_drop {α : Type} (g : α → α → Bool) (a b : List α) (k : Nat) (p q : α) (hp : a[k]? = some p) (hq : b[k]? = some q) : eqAll g (a.drop k) (b.drop k) = (g p q && eqAll g (a.drop (k + 1)) (b.drop (k + 1))) := by
 obtain ⟨h1, e1⟩ := List.getElem?_eq_some_iff.1 hp
 obtain ⟨h2, e2⟩ := List.getElem?_eq_some_iff.1 hq
 rw [List.drop_eq_getElem_cons h1, List.drop_eq_getElem_cons h2, e1, e2, eqAll]
def Asg.same (x y : Asg) : Bool := x.name == y.name && beqs x.word y.word
def Rdr.same (x y : Rdr) : Bool := x.fd == y.fd && x.op == y.op && beqs x.word y.word
def sameWords (a b : List (List Part)) : Bool := eqAll beqs a b
mutual
def Cmd.same : Cmd → Cmd → Bool
 | .mk k n xs ws co bo ot ca rs, .mk k' n' xs' ws' co' bo' ot' ca' rs' =>
  k == k' && n == n' && sameWords ws ws' && sameLs co co' && sameLs bo bo' && sameLs ot ot' && eqAll Asg.same xs xs' && eqAll Rdr.same rs rs' && sameCas ca ca'
def sameCmds : List Cmd → List Cmd → Bool
 | [], [] => true
 | x :: xs, y :: ys => Cmd.same x y && sameCmds xs ys
 | _, _ => false
def Cas.same : Cas → Cas → Bool
 | .mk ps b, .mk ps' b' => sameWords ps ps' && sameLs b b'
def sameCas : List Cas → List Cas → Bool
 | [], [] => true
 | x :: xs, y :: ys => Cas.same x y && sameCas xs ys
 | _, _ => false
def Pip.same : Pip → Pip → Bool
 | .mk n cs, .mk n' cs' => n == n' && sameCmds cs cs'
def samePips : List Pip → List Pip → Bool
 | [], [] => true
 | x :: xs, y :: ys => Pip.same x y && samePips xs ys
 | _, _ => false
def Lst.same : Lst → Lst → Bool
 | .mk ps os, .mk ps' os' => os == os' && samePips ps ps'
def sameLs : List Lst → List Lst → Bool
 | [], [] => true
 | x :: xs, y :: ys => Lst.same x y && sameLs xs ys
 | _, _ => false
end
theorem sameCmds_all : ∀ a b : List Cmd, sameCmds a b = eqAll Cmd.same a b
 | [], [] => by rw [sameCmds, eqAll]
 | [], _ :: _ => by simp [sameCmds, eqAll]
 | _ :: _, [] => by simp [sameCmds, eqAll]
 | x :: a, y :: b => by rw [sameCmds, eqAll, sameCmds_all a b]
theorem sameCas_all : ∀ a b : List Cas, sameCas a b = eqAll Cas.same a b
 | [], [] => by rw [sameCas, eqAll]
 | [], _ :: _ => by simp [sameCas, eqAll]
 | _ :: _, [] => by simp [sameCas, eqAll]
 | x :: a, y :: b => by rw [sameCas, eqAll, sameCas_all a b]
theorem samePips_all : ∀ a b : List Pip, samePips a b = eqAll Pip.same a b
 | [], [] => by rw [samePips, eqAll]
 | [], _ :: _ => by simp [samePips, eqAll]
 | _ :: _, [] => by simp [samePips, eqAll]
 | x :: a, y :: b => by rw [samePips, eqAll, samePips_all a b]
theorem sameLs_all : ∀ a b : List Lst, sameLs a b = eqAll Lst.same a b
 | [], [] => by rw [sameLs, eqAll]
 | [], _ :: _ => by simp [sameLs, eqAll]
 | _ :: _, [] => by simp [sameLs, eqAll]
 | x :: a, y :: b => by rw [sameLs, eqAll, sameLs_all a b]
mutual
theorem part_eq : ∀ p q : Part, Part.beq p q = true ↔ p = q
 | .mk k q t o w, .mk k' q' t' o' w' => by
  have := parts_eq w w'
  rw [Part.beq]
  simp only [Bool.and_eq_true, beq_iff_eq, this, Part.mk.injEq]
  constructor
  ·rintro ⟨⟨⟨⟨h1, h2⟩, h3⟩, h4⟩, h5⟩; exact ⟨h1, h2, h3, h4, h5⟩
  ·rintro ⟨h1, h2, h3, h4, h5⟩; exact ⟨⟨⟨⟨h1, h2⟩, h3⟩, h4⟩, h5⟩
theorem parts_eq : ∀ a b : List Part, beqs a b = true ↔ a = b
 | [], [] => by simp [beqs]
 | [], _ :: _ => by simp [beqs]
 | _ :: _, [] => by simp [beqs]
 | p :: a, q :: b => by
  have h1 := part_eq p q
  have h2 := parts_eq a b
  rw [beqs]
  simp only [Bool.and_eq_true, h1, h2, List.cons.injEq]
end
theorem eqAll_eq {α : Type} {g : α → α → Bool} : ∀ (a b : List α), (∀ x ∈ a, ∀ y, g x y = true ↔ x = y) → (eqAll g a b = true ↔ a = b)
 | [], [], _ => by simp [eqAll]
 | [], _ :: _, _ => by simp [eqAll]
 | _ :: _, [], _ => by simp [eqAll]
 | x :: a, y :: b, h => by
  rw [eqAll, Bool.and_eq_true, h x (by simp), eqAll_eq a b (fun z hz => h z (by simp [hz])), List.cons.injEq]
theorem words_eq (a b : List (List Part)) : sameWords a b = true ↔ a = b := eqAll_eq a b (fun x _ y => parts_eq x y)
theorem asg_eq (x y : Asg) : Asg.same x y = true ↔ x = y := by
 obtain ⟨n, w⟩ := x
 obtain ⟨n', w'⟩ := y
 simp only [Asg.same, Bool.and_eq_true, beq_iff_eq, parts_eq, Asg.mk.injEq]
theorem rdr_eq (x y : Rdr) : Rdr.same x y = true ↔ x = y := by
 obtain ⟨f, o, w⟩ := x
 obtain ⟨f', o', w'⟩ := y
 simp only [Rdr.same, Bool.and_eq_true, beq_iff_eq, parts_eq, Rdr.mk.injEq, and_assoc]
mutual
theorem cmd_eq : ∀ x y : Cmd, Cmd.same x y = true ↔ x = y
 | .mk k n xs ws co bo ot ca rs, .mk k' n' xs' ws' co' bo' ot' ca' rs' => by
  have h1 := ls_eq co co'
  have h2 := ls_eq bo bo'
  have h3 := ls_eq ot ot'
  have h4 := cas_eqs ca ca'
  have h5 : eqAll Asg.same xs xs' = true ↔ xs = xs' := eqAll_eq xs xs' (fun x _ y => asg_eq x y)
  have h6 : eqAll Rdr.same rs rs' = true ↔ rs = rs' := eqAll_eq rs rs' (fun x _ y => rdr_eq x y)
  rw [Cmd.same]
  simp only [Bool.and_eq_true, beq_iff_eq, words_eq, h1, h2, h3, h4, h5, h6, Cmd.mk.injEq]
  constructor
  ·rintro ⟨⟨⟨⟨⟨⟨⟨⟨a1, a2⟩, a3⟩, a4⟩, a5⟩, a6⟩, a7⟩, a8⟩, a9⟩; exact ⟨a1, a2, a7, a3, a4, a5, a6, a9, a8⟩
  ·rintro ⟨a1, a2, a7, a3, a4, a5, a6, a9, a8⟩; exact ⟨⟨⟨⟨⟨⟨⟨⟨a1, a2⟩, a3⟩, a4⟩, a5⟩, a6⟩, a7⟩, a8⟩, a9⟩
theorem cmds_eq : ∀ a b : List Cmd, sameCmds a b = true ↔ a = b
 | [], [] => by simp [sameCmds]
 | [], _ :: _ => by simp [sameCmds]
 | _ :: _, [] => by simp [sameCmds]
 | x :: a, y :: b => by rw [sameCmds, Bool.and_eq_true, cmd_eq x y, cmds_eq a b, List.cons.injEq]
theorem cas_eq : ∀ x y : Cas, Cas.same x y = true ↔ x = y
 | .mk ps b, .mk ps' b' => by rw [Cas.same, Bool.and_eq_true, words_eq, ls_eq b b', Cas.mk.injEq]
theorem cas_eqs : ∀ a b : List Cas, sameCas a b = true ↔ a = b
 | [], [] => by simp [sameCas]
 | [], _ :: _ => by simp [sameCas]
 | _ :: _, [] => by simp [sameCas]
 | x :: a, y :: b => by rw [sameCas, Bool.and_eq_true, cas_eq x y, cas_eqs a b, List.cons.injEq]
theorem pip_eq : ∀ x y : Pip, Pip.same x y = true ↔ x = y
 | .mk n cs, .mk n' cs' => by rw [Pip.same, Bool.and_eq_true, beq_iff_eq, cmds_eq cs cs', Pip.mk.injEq]
theorem pips_eq : ∀ a b : List Pip, samePips a b = true ↔ a = b
 | [], [] => by simp [samePips]
 | [], _ :: _ => by simp [samePips]
 | _ :: _, [] => by simp [samePips]
 | x :: a, y :: b => by rw [samePips, Bool.and_eq_true, pip_eq x y, pips_eq a b, List.cons.injEq]
theorem lst_eq : ∀ x y : Lst, Lst.same x y = true ↔ x = y
 | .mk ps os, .mk ps' os' => by
  rw [Lst.same, Bool.and_eq_true, beq_iff_eq, pips_eq ps ps', Lst.mk.injEq]
  exact ⟨fun h => ⟨h.2, h.1⟩, fun h => ⟨h.2, h.1⟩⟩
theorem ls_eq : ∀ a b : List Lst, sameLs a b = true ↔ a = b
 | [], [] => by simp [sameLs]
 | [], _ :: _ => by simp [sameLs]
 | _ :: _, [] => by simp [sameLs]
 | x :: a, y :: b => by rw [sameLs, Bool.and_eq_true, lst_eq x y, ls_eq a b, List.cons.injEq]
end
theorem sameLs_refl (a : List Lst) : sameLs a a = true := (ls_eq a a).2 rfl
theorem sameLs_comm (a b : List Lst) : sameLs a b = sameLs b a := by
 rw [Bool.eq_iff_iff, ls_eq, ls_eq]; exact eq_comm
def Asg.great (x : Asg) : Nat := x.name.length + Part.wts x.word
def Rdr.great (x : Rdr) : Nat := x.op.length + Part.wts x.word
def greatWords (ws : List (List Part)) : Nat := ws.length + (ws.map Part.wts).sum
mutual
def Cmd.great : Cmd → Nat
 | .mk k n xs ws co bo ot ca rs => 1 + n.length + greatWords ws + xs.length + rs.length + ca.length + (xs.map Asg.great).sum + (rs.map Rdr.great).sum + greatCas ca + greatLs co + greatLs bo + greatLs ot
def greatCmds : List Cmd → Nat
 | [] => 0
 | x :: xs => Cmd.great x + greatCmds xs
def Cas.great : Cas → Nat
 | .mk ps b => greatWords ps + greatLs b
def greatCas : List Cas → Nat
 | [] => 0
 | x :: xs => Cas.great x + greatCas xs
def Pip.great : Pip → Nat
 | .mk n cs => cs.length + greatCmds cs
def greatPips : List Pip → Nat
 | [] => 0
 | x :: xs => Pip.great x + greatPips xs
def Lst.great : Lst → Nat
 | .mk ps os => os.length + ps.length + (os.map List.length).sum + greatPips ps
def greatLs : List Lst → Nat
 | [] => 0
 | x :: xs => (1 + Lst.great x) + greatLs xs
end
structure Wr where
 out : Bytes
 bad : Bool
def Wr.put (x : Wr) (s : Bytes) : Wr := ⟨x.out ++ s, x.bad⟩
end Go.Proofs.YtdfnkmiabmjolaaGreatDoor
namespace Go.Proofs.YtdfnkmiabmjolaaGreatDoor
open Go.RowKit
def WV (b : Nat) (v : Value) (x : Wr) (w : World) : Prop :=
 ∃ p, (p = .pointer none ∨ p = .pointer (some ⟨b, 0, none⟩)) ∧ w.heap[b]? = some (.cells #[p, v, .bool x.bad] 56 (0, 0)) ∧ w.ownsRow (b + 1) 5 1 v x.out.length (Lib.byteCells x.out) ∧ v.ownBlock ≠ some b
theorem WV.own {b : Nat} {v : Value} {x : Wr} {w : World} (h : WV b v x w) : ∀ k, v.ownBlock = some k → b + 1 ≤ k ∧ k < w.heap.size := by
 obtain ⟨p, hp, hb, ho, hn⟩ := h
 exact fun k hk => ho.lt k hk
theorem WV.lt {b : Nat} {v : Value} {x : Wr} {w : World} (h : WV b v x w) : b < w.heap.size := by
 obtain ⟨p, hp, hb, ho, hn⟩ := h
 exact row_lt hb
theorem WV.stay {S : Nat → Prop} {b : Nat} {v : Value} {x : Wr} {w w' : World} (h : WV b v x w) (hc : Chg S w w') (hb : ¬ S b) (hv : ∀ k, v.ownBlock = some k → ¬ S k) : WV b v x w' := by
 have hl := h.own
 obtain ⟨p, hp, hh, ho, hn⟩ := h
 exact ⟨p, hp, row_chg hh hc hb, ownsRow_block ho (fun k hk => hc.block k (hl k hk).2 (hv k hk)), hn⟩
theorem WV.keep {b : Nat} {v : Value} {x : Wr} {w w' : World} (h : WV b v x w) (hc : Chg (fun _ => False) w w') : WV b v x w' := h.stay hc (fun e => e) (fun _ _ e => e)
def Wrt (b : Nat) (v : Value) (x : Wr) (w w' : World) : Prop := ∃ v', WV b v' x w' ∧ Chg (fun k => k = b ∨ some k = v.ownBlock) w w' ∧ (v'.ownBlock = v.ownBlock ∨ ∃ g, v'.ownBlock = some g ∧ w.heap.size ≤ g)
theorem Wrt.refl {b : Nat} {v : Value} {x : Wr} {w : World} (h : WV b v x w) : Wrt b v x w w := ⟨v, h, Chg.refl _ _, .inl rfl⟩
theorem chg_next {b : Nat} {v v1 : Value} {w w1 w2 : World} (h1 : Chg (fun k => k = b ∨ some k = v.ownBlock) w w1) (ho : v1.ownBlock = v.ownBlock ∨ ∃ g, v1.ownBlock = some g ∧ w.heap.size ≤ g) (h2 : Chg (fun k => k = b ∨ some k = v1.ownBlock) w1 w2) :
  Chg (fun k => k = b ∨ some k = v.ownBlock) w w2 := h1.trans h2 (fun k hk hl => by
 rcases hk with hk | hk
 ·exact .inl hk
 ·rcases ho with e | ⟨g, e, hg⟩
  ·exact .inr (hk.trans e)
  ·rw [e] at hk
   simp only [Option.some.injEq] at hk
   omega)
theorem own_next {v v1 v2 : Value} {w w1 : World} (hs : w.heap.size ≤ w1.heap.size) (h1 : v1.ownBlock = v.ownBlock ∨ ∃ g, v1.ownBlock = some g ∧ w.heap.size ≤ g) (h2 : v2.ownBlock = v1.ownBlock ∨ ∃ g, v2.ownBlock = some g ∧ w1.heap.size ≤ g) :
  v2.ownBlock = v.ownBlock ∨ ∃ g, v2.ownBlock = some g ∧ w.heap.size ≤ g := by
 rcases h2 with e | ⟨g, e, hg⟩
 ·rw [e]; exact h1
 ·exact .inr ⟨g, e, by omega⟩
theorem Wrt.next {b : Nat} {v v1 : Value} {x : Wr} {w w1 w2 : World} (h1 : Chg (fun k => k = b ∨ some k = v.ownBlock) w w1) (ho : v1.ownBlock = v.ownBlock ∨ ∃ g, v1.ownBlock = some g ∧ w.heap.size ≤ g) (h2 : Wrt b v1 x w1 w2) : Wrt b v x w w2 := by
 obtain ⟨v2, hw, hc, ho2⟩ := h2
 exact ⟨v2, hw, chg_next h1 ho hc, own_next h1.size ho ho2⟩
theorem liesW : liesAt Tryz.prog Tryz.prog.depth 56 (3 / Tryz.prog.cellsOf 56) 0 54 1 = true := by kernel_rfl
set_option maxRecDepth 100000 in
set_option maxHeartbeats 1000000 in
theorem wcopy_fresh (b : Nat) (w : World) (h0 : w.cell? ⟨b, 0, none⟩ = some (.pointer none)) (hsh : w.shape? b = some (56, 3)) (hfz : w.frozen? ⟨b, 0, none⟩ = false) :
  Calls Tryz.prog 69 #[.pointer (some ⟨b, 0, none⟩)] w fun e w' => e = .returned (.tuple #[]) ∧ w.setCell ⟨b, 0, none⟩ (.pointer (some ⟨b, 0, none⟩)) = w' := by
 obtain ⟨j, hj, hjs⟩ := Option.map_eq_some_iff.1 Tryz.Builder_Extra_169.toX72.sizeBuilder
 go_enter Tryz.func69, Tryz.ntmps69
 go_wp2
 rw [Lib.run_to_unsafe w ⟨b, 0, none⟩ Tryz.underlying51 Tryz.underlying123 hj (by rw [hjs]; decide) hsh (Nat.zero_lt_succ 2)]
 simp only [Result.andThen]
 rw [Oper.upon_value]
 go_wp2
 rw [run_callFunc_extern Tryz.func83 (by kernel_rfl) (by kernel_rfl) (by kernel_rfl) (e := Extern.AbiNoEscape.same) (by kernel_rfl)]
 rw [Lib.run_noEscape]
 simp only [Result.andThen]
 rw [Oper.upon_value]
 go_wp2
 rw [Lib.run_from_unsafe w ⟨b, 0, none⟩ Tryz.underlying123 Tryz.underlying51 hj hsh liesW]
 simp only [Result.andThen]
 rw [Oper.upon_value]
 go_wp2
 go_end0
 exact ⟨rfl, rfl⟩
theorem wcheck_calls (b : Nat) (v : Value) (x : Wr) (w : World) (h : WV b v x w) :
  Calls Tryz.prog 69 #[.pointer (some ⟨b, 0, none⟩)] w fun e w' => e = .returned (.tuple #[]) ∧ w'.heap[b]? = some (.cells #[.pointer (some ⟨b, 0, none⟩), v, .bool x.bad] 56 (0, 0)) ∧ w'.ownsRow (b + 1) 5 1 v x.out.length (Lib.byteCells x.out) ∧ Chg (fun k => k = b) w w' := by
 have hown := h.own
 obtain ⟨p, hp, hh, ho, hn⟩ := h
 rcases hp with rfl | rfl
 ·refine (wcopy_fresh b w (row_cells hh 0) (by simp [World.shape?, hh]) (row_free hh 0)).mono ?_
  rintro e w' ⟨rfl, rfl⟩
  have hc : Chg (fun k => k = b) w (w.setCell ⟨b, 0, none⟩ (.pointer (some ⟨b, 0, none⟩))) := (Chg.refl (fun k => k = b) w).setCell (p := ⟨b, 0, none⟩) (fun _ => rfl) _
  exact ⟨rfl, row_set hh 0 _, ownsRow_block ho (fun k hk => hc.block k (hown k hk).2 (fun e => hn (by rw [hk, e]))), hc⟩
 ·refine (copyCheck_used b w (row_cells hh 0)).mono ?_
  rintro e w' ⟨rfl, rfl⟩
  exact ⟨rfl, hh, ho, Chg.refl _ _⟩
theorem string_lies {P : Program} (w : World) (base : Nat) (t u ty e : TypeId) (i : TypeInfo) (ht : P.underlying t = some (.slice e)) (hu : P.underlying u = some .string) (hi : P.info? e = some i) (hz : i.zero = some (.int .u8 0))
  (hsize : i.size = 1) (hby : i.bytes = 1) (v : Value) (n : Nat) (xs : List Value) (hown : w.ownsRow base e 1 v n xs) (s : ByteArray)
  (h63 : n + s.size ≤ maxLen) (hbytes : n + s.size ≤ 140737488355328) (hbase : base ≤ w.heap.size) :
  ∃ v' w', (Builtin.append_ #[t, u] ty #[v, .string s]).run P w = .ok v' w' ∧ w'.ownsRow base e 1 v' (n + s.size) (xs ++ Lib.strCells s) ∧ w.grownBy w' v.ownBlock ∧ (v'.ownBlock = v.ownBlock ∨ ∃ g, v'.ownBlock = some g ∧ w.heap.size ≤ g) := by
 obtain ⟨v', w', hr, h2, h3, _⟩ := Lib.run_append_own_string (P := P) w base t u ty e i ht hu hi hz hsize hby v n xs hown s h63 hbytes hbase
 refine ⟨v', w', hr, h2, h3, ?_⟩
 rcases hown.2 with ⟨rfl, rfl⟩ | ⟨g, cap, cur, rfl, hbg, hg, hnc, hcm, hcs, htake⟩
 ·obtain ⟨v2, w2, hr2, k2, _, _⟩ := Lib.run_append_own_string (P := P) w w.heap.size t u ty e i ht hu hi hz hsize hby (.slice none 0 0) 0 [] (World.ownsRow_nil _ _ _ _) s h63 hbytes (Nat.le_refl _)
  rw [hr] at hr2
  cases hr2
  cases hv : v'.ownBlock with
  | none => exact .inl rfl
  | some g => exact .inr ⟨g, rfl, (k2.lt g hv).1⟩
 ·have hxl : xs.length = n := by simpa using hown.1
  have hsmall : n + s.size ≤ 9223372036854775807 := by simp only [maxLen] at h63; omega
  by_cases hroom : n + s.size ≤ cap
  ·have hr2 := Lib.run_append_room_string (P := P) w t u ty e i ht hu hi hsize g n cap cur hg s hroom (by omega)
   rw [hr] at hr2
   cases hr2
   exact .inl rfl
  ·have holds : ∀ j u, xs[j]? = some u → w.cell? ((⟨g, 0, none⟩ : Addr).add j) = some u := hown.cells (g := g) rfl
   have hr2 := Lib.run_append_grow_string (P := P) w t u ty e i (.int .u8 0) ht hu hi hz ⟨g, 0, none⟩ n cap xs (by rw [hsize]; simpa using hxl) holds s (by omega) (by omega) (by rw [hby]; exact growslice_fits (by omega) (by omega))
   rw [hr] at hr2
   cases hr2
   exact .inr ⟨_, rfl, Nat.le_refl _⟩
theorem wpList_string_lies {P : Program} {w : World} {ops : Array Oper} {rest : List Oper} {o : Oper} {a : Act} {Q : Exit → Act → World → Prop} (hgd : o.guard = none) (sl x : Operand) (t u : TypeId)
  (ho : o.op = .call { callee := .builtin .append, args := #[sl, x], argTypes := #[t, u] })
  (base : Nat) (e : TypeId) (i : TypeInfo) (ht : P.underlying t = some (.slice e)) (hu : P.underlying u = some .string) (hi : P.info? e = some i) (hz : i.zero = some (.int .u8 0))
  (hsize : i.size = 1) (hby : i.bytes = 1)
  (v : Value) (n : Nat) (xs : List Value) (hs : a.eval sl = v) (hown : w.ownsRow base e 1 v n xs) (s : ByteArray) (hx : a.eval x = .string s)
  (h63 : n + s.size ≤ maxLen) (hbytes : n + s.size ≤ 140737488355328) (hbase : base ≤ w.heap.size)
  (h : ∀ v' w', w'.ownsRow base e 1 v' (n + s.size) (xs ++ Lib.strCells s) → w.grownBy w' v.ownBlock → (v'.ownBlock = v.ownBlock ∨ ∃ g, v'.ownBlock = some g ∧ w.heap.size ≤ g) → wpList P ops Q rest (a.put o.dst v') w') : wpList P ops Q (o :: rest) a w := by
 refine wpList_plain hgd fun K hK => ?_
 obtain ⟨v', w', hr, h2, h3, h4⟩ := string_lies (P := P) w base t u o.type e i ht hu hi hz hsize hby v n xs hown s h63 hbytes hbase
 unfold Oper.wp execOp
 simp only [ho, resolve, invoke, builtin, Sem.run_bind, Sem.run_pure, Result.andThen_ok, List.map_toArray, List.map_cons, List.map_nil, hs, hx, hr]
 exact hK _ _ (h v' w' h2 h3 h4)
theorem wgrown {b n : Nat} {v v' : Value} {x : Wr} {w w1 w2 : World} {l' : Bytes} (hbk : w1.heap[b]? = some (.cells #[.pointer (some ⟨b, 0, none⟩), v, .bool x.bad] 56 (0, 0))) (hne : v.ownBlock ≠ some b) (hlb : ∀ k, v.ownBlock = some k → k < w.heap.size)
  (hc : Chg (fun k => k = b) w w1) (hg : w1.grownBy w2 v.ownBlock) (hown : w2.ownsRow (b + 1) 5 1 v' n (Lib.byteCells l')) (hn : n = l'.length) (hat : v'.ownBlock = v.ownBlock ∨ ∃ g, v'.ownBlock = some g ∧ w1.heap.size ≤ g) :
  (w2.cell? ⟨b, 0, none⟩ = some (.pointer (some ⟨b, 0, none⟩)) ∧ w2.cell? ⟨b, 1, none⟩ = some v ∧ w2.frozen? ⟨b, 1, none⟩ = false ∧ b < w2.heap.size) ∧
   Wrt b v ⟨l', x.bad⟩ w (w2.setCell ⟨b, 1, none⟩ v') ∧ ∃ A k c, v' = .slice A k c := by
 have hlt := row_lt hbk
 have hb2 : w2.heap[b]? = some (.cells #[.pointer (some ⟨b, 0, none⟩), v, .bool x.bad] 56 (0, 0)) := (hg.block b hlt (fun e => hne e.symm)).trans hbk
 subst hn
 have hvb : v'.ownBlock ≠ some b := fun e => by have := (hown.lt b e).1; omega
 refine ⟨⟨row_cells hb2 0, row_cells hb2 1, row_free hb2 1, row_lt hb2⟩, ⟨v', ⟨_, .inr rfl, row_set hb2 1 v', ?_, hvb⟩, ?_, ?_⟩, ?_⟩
 ·exact ownsRow_block hown (fun k hk => Below.heap_setCell w2 _ _ k (fun e => hvb (by rw [hk, e])))
 ·exact ((hc.mono (fun k e _ => Or.inl e)).trans (Chg.of_grown hg) (fun k e _ => .inr e)).setCell (fun _ => .inl rfl) _
 ·rcases hat with e | ⟨g, e, hg⟩
  ·exact .inl e
  ·exact .inr ⟨g, e, by have := hc.size; omega⟩
 ·rcases hown.2 with ⟨hv, _⟩ | ⟨g, cap, cur, hv, _⟩
  ·exact ⟨_, _, _, hv⟩
  ·exact ⟨_, _, _, hv⟩
set_option maxRecDepth 100000 in
set_option maxHeartbeats 2000000 in
theorem wwrite_calls (b : Nat) (v : Value) (x : Wr) (s : ByteArray) (w : World) (h : WV b v x w) (hlen : x.out.length ≤ 1000000) (hs : s.size ≤ 1000000) :
  Calls Tryz.prog 52 #[.pointer (some ⟨b, 0, none⟩), .string s] w fun e w' => e = .returned (.tuple #[.int .i64 s.size, .nilIface]) ∧ Wrt b v (x.put s.data.toList) w w' := by
 obtain ⟨i0, hi, hz0, hz1, hz2⟩ := info_parts Tryz.Builder_Extra_169.infoByte
 have hbl := Lib.byteCells_length x.out
 have hne : v.ownBlock ≠ some b := by obtain ⟨p, _, _, _, hn⟩ := h; exact hn
 have hlb := fun k hk => (h.own k hk).2
 have hM : b + 1 ≤ w.heap.size := h.lt
 go_enter Tryz.func52, Tryz.ntmps52
 go_wp2_with fail
 refine Calls.mono (wcheck_calls b v x _ h) ?_
 rintro e w1 ⟨rfl, hbk, hown, hc1⟩
 have c1 : w1.cell? ⟨b, 1, none⟩ = some v := row_cells hbk 1
 have hlt := row_lt hbk
 have hz := hc1.size
 go_wp2_with (at_builtin; refine wpList_string_lies rfl _ _ 52 9 rfl (b + 1) 5 i0 Tryz.underlying52 Tryz.underlying9 hi hz0 hz1 hz2 _ _ _ rfl hown s rfl ?c3 ?c4 ?c5 ?_)
 case c3 => unfold maxLen; omega
 case c4 => omega
 case c5 => omega
 intro v' w2 hown' hg2 hat
 obtain ⟨⟨d0, d1, f2, _⟩, hE, A, k, cc, rfl⟩ := wgrown (l' := x.out ++ s.data.toList) hbk hne hlb hc1 hg2 (by rw [Lib.strCells_eq] at hown'; simpa [Lib.byteCells] using hown') (by simp [len_data]) hat
 have HE := Lib.hid hE; clear hE hown' hown
 go_wp2
 go_ret2
 exact ⟨rfl, HE.out⟩
def flat : List Bytes → Bytes
 | [] => []
 | s :: l => s ++ flat l
theorem flat_drop (l : List Bytes) (k : Nat) (s : Bytes) (h : l[k]? = some s) : flat (l.drop k) = s ++ flat (l.drop (k + 1)) := by
 obtain ⟨hlt, rfl⟩ := List.getElem?_eq_some_iff.1 h
 rw [List.drop_eq_getElem_cons hlt, flat]
set_option maxRecDepth 100000 in
set_option maxHeartbeats 2000000 in
theorem put_calls (b : Nat) (v : Value) (x : Wr) (g c : Nat) (ss : List Bytes) (w : World) (h : WV b v x w) (hlen : x.out.length + (flat ss).length ≤ 1000000) (hc : ss.length ≤ 1000)
  (hcell : ∀ j s, ss[j]? = some s → w.cell? ⟨g, j, none⟩ = some (.string (bstr s))) (hgb : g ≠ b) (hgv : v.ownBlock ≠ some g) :
  Calls Tryz.prog 32 #[.pointer (some ⟨b, 0, none⟩), .slice (some ⟨g, 0, none⟩) ss.length c] w fun e w' => e = .returned (.tuple #[]) ∧ Wrt b v (x.put (flat ss)) w w' := by
 have hM : b + 1 ≤ w.heap.size := h.lt
 have hlo := h.own
 go_enter Tryz.func32, Tryz.ntmps32
 go_wp2
 go_loopg [8] ss.length (fun rk i wr => ∃ (k : Nat) (v1 : Value) (y : Wr), k + rk = ss.length ∧ i = .int .i64 k ∧ WV b v1 y wr ∧ Chg (fun k => k = b ∨ some k = v.ownBlock) w wr ∧ (v1.ownBlock = v.ownBlock ∨ ∃ g, v1.ownBlock = some g ∧ w.heap.size ≤ g) ∧ Hid (y.put (flat (ss.drop k)) = x.put (flat ss)))
 case atStart => exact ⟨0, v, x, by omega, rfl, h, Chg.refl _ _, .inl rfl, Lib.hid (by simp)⟩
 case round =>
  obtain ⟨k, v1, y, hk, rfl, hW, hC, ho, HK⟩ := hrel
  generalize wr = W at *
  by_cases hlt : k < ss.length
  ·obtain ⟨s, hs⟩ : ∃ s, ss[k]? = some s := ⟨ss[k], List.getElem?_eq_getElem hlt⟩
   have hg := hC.cell (hcell k s hs) (fun e => by
    rcases e with e | e
    ·exact hgb e
    ·exact hgv e.symm)
   have hd := flat_drop ss k s hs
   have hy : y.out.length + (flat (ss.drop k)).length = x.out.length + (flat ss).length := by
    have := congrArg (fun z : Wr => z.out.length) HK.out
    simpa [Wr.put] using this
   have hsl : y.out.length ≤ 1000000 ∧ s.length ≤ 1000000 := by rw [hd] at hy; simp at hy; omega
   have HWR := Lib.hid (wwrite_calls b v1 y (bstr s) W hW hsl.1 (by rw [bstr_size]; exact hsl.2))
   have HK2 : Hid ((y.put s).put (flat (ss.drop (k + 1))) = x.put (flat ss)) := Lib.hid (by rw [← HK.out, hd]; simp [Wr.put])
   have r0 : IntKind.i64.wrap ((k : Int) + 1) = (k : Int) + 1 := IntWalk.i64_in _ (by omega)
   have hbs : (bstr s).data.toList = s := bstr_toList s
   clear hs hd hy hsl
   generalize bstr s = sb at *
   go_wp2_with fail
   refine Calls.mono HWR.out ?_
   rintro e w4 ⟨rfl, v2, hW2, hC2, ho2⟩
   rw [hbs] at hW2
   go_wp2
   go_roundg (gk - 1)
   case measure => omega
   case rel => exact ⟨k + 1, v2, y.put s, by omega, rfl, hW2, chg_next hC ho hC2, own_next hC.size ho ho2, HK2⟩
  ·have hR0 : y = x.put (flat ss) := by
    rw [← HK.out, List.drop_eq_nil_of_le (by omega)]; simp [flat, Wr.put]
   subst hR0
   clear HK
   go_wp2
   go_end0
   exact ⟨rfl, v1, hW, hC, ho⟩
theorem put_new (b : Nat) (v : Value) (x : Wr) (ss : List Bytes) (n c : Nat) (cs : List Value) (w : World) (hcs : cs = ss.map fun s => .string (bstr s)) (hn : n = ss.length) (h : WV b v x w) (hlen : x.out.length + (flat ss).length ≤ 1000000) (hc : ss.length ≤ 1000) :
  Calls Tryz.prog 32 #[.pointer (some ⟨b, 0, none⟩), .slice (some ⟨w.heap.size, 0, none⟩) n c] (w.alloc (.cells cs.toArray 9)) fun e w' => e = .returned (.tuple #[]) ∧ Wrt b v (x.put (flat ss)) w w' := by
 subst hcs hn
 have hca : Chg (fun _ => False) w (w.alloc (.cells (ss.map fun s => Value.string (bstr s)).toArray 9)) := (Chg.refl _ w).alloc _
 refine (put_calls b v x w.heap.size c ss _ (h.keep hca) hlen hc (fun j s hs => ?_) (by have := h.lt; omega) (fun e => by have := (h.own _ e).2; omega)).mono ?_
 ·rw [row_cells (row_new w _) j]
  simp [hs]
 ·rintro e w' ⟨rfl, hw⟩
  obtain ⟨v2, hW2, hC2, ho2⟩ := hw
  exact ⟨rfl, v2, hW2, (hca.mono (fun k hk _ => hk.elim)).trans hC2 (fun k hk hl => hk), by
   rcases ho2 with e | ⟨g, e, hg⟩
   ·exact .inl e
   ·exact .inr ⟨g, e, by have := hca.size; omega⟩⟩
set_option maxRecDepth 100000 in
set_option maxHeartbeats 4000000 in
theorem wstring_calls (b : Nat) (v : Value) (x : Wr) (w : World) (h : WV b v x w) :
  Calls Tryz.prog 17 #[.pointer (some ⟨b, 0, none⟩)] w fun e w' => e = .returned (.string (bstr x.out)) ∧ Chg (fun k => b + 1 ≤ k) w w' := by
 have hUS := fun (W : World) (q : Option Addr) => Lib.run_unsafeString_none (P := Tryz.prog) W 80 3 9 q
 have hM : b + 1 ≤ w.heap.size := h.lt
 have mixed : Tryz.prog.follows .mixedOrders = true := by kernel_rfl
 obtain ⟨p, hp, hbk, hown, hne⟩ := h
 clear hp
 obtain ⟨out, bad⟩ := x
 simp only at hbk hown ⊢
 have hlt : b < w.heap.size := hM
 have done : ∀ w', Below (b + 1) w w' → Chg (fun k => b + 1 ≤ k) w w' := fun w' hb => Chg.of_below' hb
 cases out with
 | nil =>
  rcases hown.2 with ⟨rfl, _⟩ | ⟨g, cap, cur, rfl, hbg, hg, _, _, _, _⟩
  ·have c1 : w.drew.cell? ⟨b, 1, none⟩ = some (.slice none 0 0) := row_cells (w := w.drew) hbk 1
   have hSD : (Builtin.unsafeSliceData_ #[52] 80 #[.slice none 0 0]).run Tryz.prog w.drew = .ok (.pointer none) w.drew := rfl
   go_enter Tryz.func17, Tryz.ntmps17
   go_wp2
   go_region_o
   all_goals (go_wp2; go_ret; exact ⟨rfl, done _ (Below.drew (Below.refl _ w))⟩)
  ·by_cases hc0 : cap = 0
   ·subst hc0
    have c1 : w.drew.cell? ⟨b, 1, none⟩ = some (.slice (some ⟨g, 0, none⟩) 0 0) := row_cells (w := w.drew) hbk 1
    have hSD : (Builtin.unsafeSliceData_ #[52] 80 #[.slice (some ⟨g, 0, none⟩) 0 0]).run Tryz.prog w.drew = .ok (.pointer (some ⟨w.drew.heap.size, 0, none⟩)) (w.drew.alloc (.view ⟨g, 0, none⟩ 5)) :=
     Lib.run_unsafeSliceData_zero w.drew _ _ 5 Tryz.underlying80 ⟨g, 0, none⟩ 0 (5, cur.size) (by have hg' : w.drew.heap[g]? = some (.cells cur 5 (0, 0)) := hg; simp [World.shape?, hg'])
    have c2 : (w.drew.alloc (.view ⟨g, 0, none⟩ 5)).cell? ⟨b, 1, none⟩ = some (.slice (some ⟨g, 0, none⟩) 0 0) := row_cells (w := w.drew.alloc (.view ⟨g, 0, none⟩ 5)) ((Lib.alloc_old w.drew _ b hlt).trans hbk) 1
    have c3 : (w.alloc (.view ⟨g, 0, none⟩ 5)).drew.cell? ⟨b, 1, none⟩ = some (.slice (some ⟨g, 0, none⟩) 0 0) := c2
    have c0 : w.cell? ⟨b, 1, none⟩ = some (.slice (some ⟨g, 0, none⟩) 0 0) := c1
    go_enter Tryz.func17, Tryz.ntmps17
    go_wp2
    go_region_o
    all_goals (go_wp2; go_ret; exact ⟨rfl, done _ ((Below.drew (Below.refl _ w)).alloc hM _)⟩)
   ·have c1 : w.drew.cell? ⟨b, 1, none⟩ = some (.slice (some ⟨g, 0, none⟩) 0 cap) := row_cells (w := w.drew) hbk 1
    have hSD : (Builtin.unsafeSliceData_ #[52] 80 #[.slice (some ⟨g, 0, none⟩) 0 cap]).run Tryz.prog w.drew = .ok (.pointer (some ⟨g, 0, none⟩)) w.drew :=
     Lib.run_unsafeSliceData_row _ _ _ _ _ _ hc0
    clear hc0
    go_enter Tryz.func17, Tryz.ntmps17
    go_wp2
    go_region_o
    all_goals (go_wp2; go_ret; exact ⟨rfl, done _ (Below.drew (Below.refl _ w))⟩)
 | cons z l =>
  generalize hl : z :: l = L at *
  have h0 : L ≠ [] := by rw [← hl]; simp
  have hl0 : L.length ≠ 0 := by simpa using h0
  clear hl
  obtain ⟨g, cap, cur, rfl, hbg, hg, hnc, hcm, hcs, htake⟩ : ∃ g cap cur, v = .slice (some ⟨g, 0, none⟩) L.length cap ∧ b + 1 ≤ g ∧ w.heap[g]? = some (.cells cur 5 (0, 0)) ∧ L.length ≤ cap ∧ cap ≤ maxLen ∧ cur.size = cap * 1 ∧ cur.toList.take (L.length * 1) = Lib.byteCells L := by
   rcases hown.2 with ⟨_, hz⟩ | ⟨g, cap, cur, hv, r⟩
   ·exact absurd hz hl0
   ·exact ⟨g, cap, cur, hv, r⟩
  have c1 : w.drew.cell? ⟨b, 1, none⟩ = some (.slice (some ⟨g, 0, none⟩) L.length cap) := row_cells (w := w.drew) hbk 1
  have hSD : (Builtin.unsafeSliceData_ #[52] 80 #[.slice (some ⟨g, 0, none⟩) L.length cap]).run Tryz.prog w.drew = .ok (.pointer (some ⟨g, 0, none⟩)) w.drew :=
   Lib.run_unsafeSliceData_row _ _ _ _ _ _ (by omega)
  have hUS : (Builtin.unsafeString_ #[80, 3] 9 #[.pointer (some ⟨g, 0, none⟩), .int .i64 L.length]).run Tryz.prog w.drew = .ok (.string (bstr L)) (w.drew.freeze ⟨g, 0, none⟩ L.length) := by
   refine Lib.run_unsafeString_row w.drew 80 3 9 5 Tryz.underlying80 Tryz.Builder_Extra_169.cellsByte g cur.size (by have hg' : w.drew.heap[g]? = some (.cells cur 5 (0, 0)) := hg; simp [World.shape?, hg']) L h0 (by omega) (by unfold maxLen at hcm; omega) ?_
   intro j x hx
   have := hown.cells (g := g) rfl j (.int .u8 x.toNat) (by simp [Lib.byteCells, hx])
   exact this
  clear hl0 htake hcs
  go_enter Tryz.func17, Tryz.ntmps17
  go_wp2
  go_region_o
  all_goals (go_wp2; go_ret; exact ⟨rfl, done _ (Lib.below_freeze (Below.drew (Below.refl _ w)) (p := ⟨g, 0, none⟩) hbg _)⟩)
end Go.Proofs.YtdfnkmiabmjolaaGreatDoor
namespace Go.Proofs.YtdfnkmiabmjolaaGreatDoor
def digB (n : Nat) : UInt8 := UInt8.ofNat (48 + n % 10)
def digF : Nat → Nat → Bytes → Bytes
 | 0, _, acc => acc
 | f + 1, n, acc => if n / 10 = 0 then digB n :: acc else digF f (n / 10) (digB n :: acc)
def numT (n : Int) : Bytes := if n < 0 then 45 :: digF 20 n.natAbs [] else digF 20 n.toNat []
theorem digF_len : ∀ (f n : Nat) (acc : Bytes), (digF f n acc).length ≤ f + acc.length
 | 0, _, acc => by simp [digF]
 | f + 1, n, acc => by
  rw [digF]
  split
  ·simp; omega
  ·have := digF_len f (n / 10) (digB n :: acc)
   simp only [List.length_cons] at this
   omega
theorem numT_len (n : Int) : (numT n).length ≤ 21 := by
 unfold numT
 split
 ·have := digF_len 20 n.natAbs []; simp at this ⊢; omega
 ·have := digF_len 20 n.toNat []; simp at this ⊢; omega
end Go.Proofs.YtdfnkmiabmjolaaGreatDoor
namespace Go.Proofs.YtdfnkmiabmjolaaGreatDoor
open Go.RowKit
theorem digit_at (d : Nat) (h : d < 16) (h10 : d < 10) : (⟨#[48, 49, 50, 51, 52, 53, 54, 55, 56, 57, 97, 98, 99, 100, 101, 102]⟩ : ByteArray)[d]'h = UInt8.ofNat (48 + d) := by
 revert h
 match d, h10 with
 | 0, _ => intro _; rfl
 | 1, _ => intro _; rfl
 | 2, _ => intro _; rfl
 | 3, _ => intro _; rfl
 | 4, _ => intro _; rfl
 | 5, _ => intro _; rfl
 | 6, _ => intro _; rfl
 | 7, _ => intro _; rfl
 | 8, _ => intro _; rfl
 | 9, _ => intro _; rfl
set_option maxRecDepth 100000 in
set_option maxHeartbeats 4000000 in
theorem base_calls (n : Nat) (hn : n < 18446744073709551616) (w : World) :
  Calls Tryz.prog 95 #[.int .u64 n, .int .i64 10] w fun e w' => e = .returned (.string (bstr (digF 20 n []))) ∧ Chg (fun _ => False) w w' := by
 generalize hR : digF 20 n [] = R
 have HR := Lib.hid hR; clear hR
 go_enter Tryz.func95, Tryz.ntmps95
 go_wp2
 go_loopg [0, 6, 7] 21 (fun rk nv av fv wr => ∃ (k N : Nat) (f : Bool) (acc : Bytes) (cur : Array Value), rk + k = 21 ∧ k ≤ 20 ∧ nv = .int .u64 N ∧ N < 10 ^ (20 - k) ∧ N < 18446744073709551616 ∧ av = .int .i64 ((64 - k : Nat) : Int) ∧ fv = .bool f ∧ acc.length = k ∧ (f = true → k = 0) ∧ (f = false → 0 < k) ∧ Chg (fun _ => False) w wr ∧
  wr.heap[w.heap.size]? = some (.cells cur 146 (0, 0)) ∧ cur.size = 64 ∧ (∀ j c, acc[j]? = some c → cur[64 - k + j]? = some (.int .u8 c.toNat)) ∧ Hid ((if f = false ∧ N = 0 then acc else digF (20 - k) N acc) = R))
 case atStart => exact ⟨0, n, true, [], _, by omega, by omega, rfl, by omega, hn, rfl, rfl, rfl, fun _ => rfl, fun h => by simp at h, (Chg.refl _ w).alloc _, row_new w _, by rfl, fun j c h => by simp at h, Lib.hid (by simpa using HR.out)⟩
 case round =>
  clear HR
  obtain ⟨k, N, f, acc, cur, hrk, hk, rfl, hN, hN64, rfl, rfl, hl, hf, hf2, hC, hrow, hsz, hcur, HK⟩ := hrel
  clear hn
  generalize wr = W at *
  generalize hX : w.heap.size = X at *
  have hcl := row_cells hrow
  have hfr := row_free hrow
  have hXl := row_lt hrow
  have HF := Lib.hid hf; clear hf
  have HF2 := Lib.hid hf2; clear hf2
  have hqq : IntKind.u64.wrap ((N : Int) / 10) = (N : Int) / 10 := IntWalk.u64_in _ (by omega)
  have hq : (0 : Int) ≤ (N : Int) % 10 ∧ (N : Int) % 10 < 16 := by omega
  by_cases hex : f = false ∧ N = 0
  ·obtain ⟨rfl, rfl⟩ := hex
   have hR0 : acc = R := by rw [← HK.out, if_pos ⟨rfl, rfl⟩]
   subst hR0
   have hconv : ∀ cap : Nat, (convert 52 9 (.slice (some ⟨X, 64 - k, none⟩) k cap)).run Tryz.prog W = .ok (.string (bstr acc)) W := by
    intro cap
    have h := run_convert_bytes_back (P := Tryz.prog) W 52 9 5 ⟨X, 64 - k, none⟩ cap acc Tryz.underlying52 Tryz.underlying5 Tryz.underlying9 (fun j hj => by
     rw [show (⟨X, 64 - k, none⟩ : Addr).add j = ⟨X, 64 - k + j, none⟩ by unfold Addr.add; split <;> simp_all, hcl]
     rw [hcur j acc[j] (List.getElem?_eq_getElem hj)])
    rw [hl] at h
    exact h
   have hk0 : 0 < k := HF2.out rfl
   have hsl : (Instr.sliceAt 146 (.pointer (some ⟨X, 0, none⟩)) (some (.int .i64 ((64 - k : Nat) : Int))) none none).run Tryz.prog W = .ok (.slice (some ⟨X, 64 - k, none⟩) k k) W := by
    have hal : Tryz.prog.arrayLen 146 = 64 := by kernel_rfl
    have hso : (sizeOf (Tryz.prog.elem 146)).run Tryz.prog W = .ok 1 W := by kernel_rfl
    have h := run_sliceAt_array_l (P := Tryz.prog) W 146 ⟨X, 0, none⟩ (by kernel_rfl) .i64 ((64 - k : Nat) : Int) (by omega) (by rw [hal]; omega)
    rw [h, hso]
    unfold slicedAt
    rw [hal]
    simp only [Result.andThen, Int.toNat_natCast]
    rw [if_neg (by omega), show 64 - (64 - k) = k by omega]
    congr 3
    unfold Addr.add
    split
    ·omega
    ·simp
   clear hcur HK hrow hcl hfr hN hq hqq hk hrk hsz hl HF HF2
   generalize (((64 - k : Nat) : Int)) = at0 at *
   generalize 64 - k = at1 at *
   go_wp2
   go_ret
   exact ⟨rfl, hC⟩
  ·have hkk : k < 20 := by
    rcases Nat.lt_or_ge k 20 with h | h
    ·exact h
    ·exfalso
     have hk20 : k = 20 := by omega
     subst hk20
     have hN0 : N = 0 := by simpa using hN
     cases f with
     | true => have := HF.out rfl; omega
     | false => exact hex ⟨rfl, hN0⟩
   have r0 : IntKind.i64.wrap (((64 - k : Nat) : Int) - 1) = ((63 - k : Nat) : Int) := by rw [IntWalk.i64_in _ (by omega)]; omega
   have hlt : 63 - k < 64 := by omega
   have hat : cur[63 - k]? = some cur[63 - k] := Array.getElem?_eq_getElem (by omega)
   cases f with
   | true =>
    clear hex
    go_wp2
    rw [digit_at _ (by omega) (by omega)]
    have hrow2 := row_set hrow (63 - k) (.int .u8 (UInt8.ofNat (48 + N % 10)).toNat)
    have hCS : Chg (fun _ => False) w (W.setCell ⟨X, 63 - k, none⟩ (.int .u8 (UInt8.ofNat (48 + N % 10)).toNat)) := hC.setCell (p := ⟨X, 63 - k, none⟩) (fun h => absurd h (by rw [hX]; simp)) _
    go_roundg (20 - k)
    case measure => omega
    case rel =>
     refine ⟨k + 1, N / 10, false, digB N :: acc, _, by omega, by omega, by first | rfl | (congr 1), ?_, by omega, by rw [show 64 - (k + 1) = 63 - k by omega], rfl, by simp [hl], fun h => absurd h (by decide), fun _ => Nat.succ_pos k, hCS, hrow2, by simp [hsz], ?_, ?_⟩
     ·rw [show 20 - k = (20 - (k + 1)) + 1 by omega, Nat.pow_succ] at hN
      omega
     ·intro j c hj
      cases j with
      | zero =>
       simp only [List.getElem?_cons_zero, Option.some.injEq] at hj
       subst hj
       rw [show 64 - (k + 1) + 0 = 63 - k by omega, Array.getElem?_setIfInBounds_self_of_lt (by omega)]
       rfl
      | succ j =>
       simp only [List.getElem?_cons_succ] at hj
       rw [Array.getElem?_setIfInBounds_ne (by omega), show 64 - (k + 1) + (j + 1) = 64 - k + j by omega]
       exact hcur j c hj
     ·refine Lib.hid ?_
      have e := HK.out
      rw [if_neg (fun h => by simp at h), show 20 - k = (20 - (k + 1)) + 1 by omega, digF] at e
      by_cases h0 : N / 10 = 0
      ·rw [if_pos h0] at e
       rw [if_pos ⟨rfl, h0⟩]
       exact e
      ·rw [if_neg h0] at e
       rw [if_neg (fun h => h0 h.2)]
       exact e
   | false =>
    have hN0 : N ≠ 0 := fun e => hex ⟨rfl, e⟩
    clear hex
    have t0 : decide ((0 : Int) < (N : Int)) = true := by simp; omega
    go_wp2
    rw [digit_at _ (by omega) (by omega)]
    have hrow2 := row_set hrow (63 - k) (.int .u8 (UInt8.ofNat (48 + N % 10)).toNat)
    have hCS : Chg (fun _ => False) w (W.setCell ⟨X, 63 - k, none⟩ (.int .u8 (UInt8.ofNat (48 + N % 10)).toNat)) := hC.setCell (p := ⟨X, 63 - k, none⟩) (fun h => absurd h (by rw [hX]; simp)) _
    go_roundg (20 - k)
    case measure => omega
    case rel =>
     refine ⟨k + 1, N / 10, false, digB N :: acc, _, by omega, by omega, by first | rfl | (congr 1), ?_, by omega, by rw [show 64 - (k + 1) = 63 - k by omega], rfl, by simp [hl], fun h => absurd h (by decide), fun _ => Nat.succ_pos k, hCS, hrow2, by simp [hsz], ?_, ?_⟩
     ·rw [show 20 - k = (20 - (k + 1)) + 1 by omega, Nat.pow_succ] at hN
      omega
     ·intro j c hj
      cases j with
      | zero =>
       simp only [List.getElem?_cons_zero, Option.some.injEq] at hj
       subst hj
       rw [show 64 - (k + 1) + 0 = 63 - k by omega, Array.getElem?_setIfInBounds_self_of_lt (by omega)]
       rfl
      | succ j =>
       simp only [List.getElem?_cons_succ] at hj
       rw [Array.getElem?_setIfInBounds_ne (by omega), show 64 - (k + 1) + (j + 1) = 64 - k + j by omega]
       exact hcur j c hj
     ·refine Lib.hid ?_
      have e := HK.out
      rw [if_neg (fun h => hN0 h.2), show 20 - k = (20 - (k + 1)) + 1 by omega, digF] at e
      by_cases h0 : N / 10 = 0
      ·rw [if_pos h0] at e
       rw [if_pos ⟨rfl, h0⟩]
       exact e
      ·rw [if_neg h0] at e
       rw [if_neg (fun h => h0 h.2)]
       exact e
set_option maxRecDepth 100000 in
set_option maxHeartbeats 2000000 in
theorem num_calls (n : Int) (hn : -9223372036854775808 ≤ n ∧ n ≤ 9223372036854775807) (w : World) :
  Calls Tryz.prog 82 #[.int .i64 n] w fun e w' => e = .returned (.string (bstr (numT n))) ∧ Chg (fun _ => False) w w' := by
 unfold numT
 by_cases h0 : n < 0
 ·have q1 : decide (n < 0) = true := by simpa using h0
  rw [if_pos h0]
  have hB := base_calls n.natAbs (by omega) w
  have r1 : IntKind.i64.wrap (n + 1) = n + 1 := IntWalk.i64_in _ (by omega)
  have r2 : IntKind.i64.wrap (-(n + 1)) = -(n + 1) := IntWalk.i64_in _ (by omega)
  have r3 : IntKind.u64.wrap (-(n + 1)) = -(n + 1) := IntWalk.u64_in _ (by omega)
  have r4 : IntKind.u64.wrap (-(n + 1) + 1) = (n.natAbs : Int) := by rw [IntWalk.u64_in _ (by omega)]; omega
  have hl := digF_len 20 n.natAbs []
  have c1 := cat_law (P := Tryz.prog) ⟨#[45]⟩ (bstr (digF 20 n.natAbs [])) [45] (digF 20 n.natAbs []) (45 :: digF 20 n.natAbs []) rfl rfl rfl (by simp at hl ⊢; omega)
  generalize n.natAbs = m at *
  generalize bstr (45 :: digF 20 m []) = x2 at *
  generalize bstr (digF 20 m []) = x1 at *
  clear hl h0
  go_enter Tryz.func82, Tryz.ntmps82
  go_wp2_with fail
  refine Calls.mono hB ?_
  rintro e w1 ⟨rfl, hC⟩
  go_wp2
  go_ret
  exact ⟨rfl, hC⟩
 ·have q1 : decide (n < 0) = false := by simpa using h0
  rw [if_neg h0]
  obtain ⟨m, rfl⟩ : ∃ m : Nat, n = m := ⟨n.toNat, by omega⟩
  have hB := base_calls m (by omega) w
  have r3 : IntKind.u64.wrap (m : Int) = (m : Int) := IntWalk.u64_in _ (by omega)
  rw [Int.toNat_natCast]
  clear h0
  go_enter Tryz.func82, Tryz.ntmps82
  go_wp2_with fail
  refine Calls.mono hB ?_
  rintro e w1 ⟨rfl, hC⟩
  go_wp2
  go_ret
  exact ⟨rfl, hC⟩
section
variable (w : World) (g : Nat) (s : ByteArray) (a d : Nat) (q : Bool) (h : ScanAt w g s a d) (ha : a < s.size) (hs : s.size ≤ 8192) (n : Nat)
include h ha hs
set_option maxRecDepth 100000 in
set_option maxHeartbeats 4000000 in
theorem dollar_param (hd : d ≤ 16) (hf : 4 * (s.size - a) ≤ n) (IH : ParamSaid n) (ha' : a + 1 < s.size) (hn : named (s.data.toList.drop (a + 1)) = 0) (hc : (digit s[a + 1] || special s[a + 1]) = false) (h1 : (s[a + 1] == 123) = true) : Calls Tryz.prog 114 #[.pointer (some ⟨g, 0, none⟩), .bool q] w (ScanPost w g s d (dollarF (n + 1) d q (s.data.toList.drop (a + 1))) (fun _ => False) (PartVal w)) := by
 have hE : dollarF (n + 1) d q (s.data.toList.drop (a + 1)) = paramF n d q (s.data.toList.drop (a + 2)) := by
  rw [byte_drop s _ ha'] at hn ⊢
  rw [dollarF, dollarG.eq_def, if_neg (by omega), if_neg (by omega)]
  simp only [hc, h1, if_true, Bool.false_eq_true, if_false]
 have _u := ha; clear _u
 have HE := Lib.hid hE; clear hE
 have HN := Lib.hid hn; clear hn
 have H1 := Lib.hid h1; clear h1
 obtain ⟨h0, h1, h2, f1, _, hgl⟩ := h.cells
 have HT0 := Lib.hid (Lib.extract_to_end s (a + 1))
 have e1 : (0 : Int) ≤ (a : Int) + 1 := by omega
 have e2 : (a : Int) + 1 ≤ (s.size : Int) := by omega
 have hsz : (s.extract (a + 1) s.size).size ≤ 8192 := by simp [ByteArray.size_extract]; omega
 have HSZ := Lib.hid (extract_size s (a + 1) (by omega))
 generalize dollarF (n + 1) d q (s.data.toList.drop (a + 1)) = R at *
 go_enter Tryz.func114, Tryz.ntmps114
 go_wp2_with fail
 generalize s.extract (a + 1) s.size = t at *
 generalize hk : named t.data.toList = k at *
 have HK := Lib.hid hk; clear hk
 have hk0 : k = 0 := by have h1 : named t.data.toList = 0 := by rw [HT0.out]; exact HN.out
                        rw [← HK.out]; exact h1
 subst hk0
 have hk3 := HSZ.out
 have ht0 : 0 < t.size := by omega
 clear hk3
 have he := isEmpty_pos t ht0
 have hc0 : t[0] = s[a + 1] := extract_head s (a + 1) ha' t HT0.out ht0
 have hc1 : t.data.toList = s[a + 1] :: s.data.toList.drop (a + 2) := by rw [HT0.out, byte_drop s (a + 1) ha']
 generalize s[a + 1] = c at *
 have HC1 := Lib.hid hc1; clear hc1
 have hdg : digit c = digitB c.toNat := rfl
 rw [hdg] at hc
 have hd : digitB c.toNat = false := by revert hc; cases digitB c.toNat <;> simp
 have hsp : special c = false := by revert hc; cases special c <;> simp
 clear hc hdg
 have hp1 : Lib.hasPrefix t.data.toList [123] = true := by rw [HC1.out, prefix_one]; exact H1.out
 go_wp2_with (first | (go_at_call 142; refine (named_calls _ _ (by omega)).mono ?_; rintro e w' ⟨rfl, rfl⟩; rw [HK.out]) | (go_at_call 70; refine (Tryz.strings_HasPrefix _ _ _).mono ?_; rintro e w' ⟨rfl, rfl⟩) | (go_at_call 125; refine (digit_calls _ _).mono ?_; rintro e w' ⟨rfl, rfl⟩) | (go_at_call 143; refine (special_calls _ _).mono ?_; rintro e w' ⟨rfl, rfl⟩))
 refine (IH _ g s a d q (row_alloc h _) (by omega) hs (by assumption) hf).mono ?_
 intro e w1 hpost
 rw [← HE.out] at hpost
 cases R with
 | err left code =>
  obtain ⟨k, hk, hl, rfl, hC⟩ := hpost
  exact ⟨rfl, k, hk, hl, rfl, (((Chg.refl _ _).alloc _).trans hC (fun _ h _ => h))⟩
 | ok p rest =>
  obtain ⟨v, k, rfl, hk, hr, ⟨cs, rfl, hrep⟩, hA, hC⟩ := hpost
  obtain ⟨kd, qd, td, od, wd⟩ := p
  obtain ⟨A, c', rfl, hwv, _, _⟩ := part_rep2 hrep
  have hne : g ≠ w.heap.size := by omega
  have kB := row_chg (row_new w (.cells #[.int .i64 0, .bool false, .string ⟨#[]⟩, .string ⟨#[]⟩, .slice none 0 0] 103)) hC (fun e => by rcases e with e | e; exact hne e.symm; exact e)
  have kcl := row_cells kB
  have kfr := row_free kB
  have hbl := row_lt kB
  clear kB
  have hC0 : Chg (fun j => j = g ∨ False) w w1 := ((Chg.refl (fun j => j = g ∨ False) w).alloc _).trans hC (fun _ h _ => h)
  have HREP := Lib.hid hrep; clear hrep
  have HA := Lib.hid hA; clear hA
  go_wp2
  refine bodyPost_ret (v := .agg #[.int .i64 kd, .bool qd, .string (bstr td), .string (bstr od), .slice A wd.length c']) (by simp [results, Tryz.results114, go_sem, kcl]) rfl ⟨_, k, rfl, hk, hr, ⟨_, rfl, ?_⟩, ?_, ?_⟩
  ·refine (HREP.out.stay (((((((Chg.refl (fun j => j = w.heap.size) _).setCell (fun _ => rfl) _).setCell (fun _ => rfl) _).setCell (fun _ => rfl) _).setCell (fun _ => rfl) _).setCell (fun _ => rfl) _)) (fun j hj e => ?_)).mono (fun j hj _ => ?_)
   ·simp at hj; omega
   ·simp at hj; omega
  ·exact row_far (row_far (row_far (row_far (row_far HA.out hne _) hne _) hne _) hne _) hne _
  ·exact ((((hC0.setCell (fun h => absurd h (by simp)) _).setCell (fun h => absurd h (by simp)) _).setCell (fun h => absurd h (by simp)) _).setCell (fun h => absurd h (by simp)) _).setCell (fun h => absurd h (by simp)) _
set_option maxRecDepth 100000 in
set_option maxHeartbeats 4000000 in
theorem dollar_arith (ha' : a + 1 < s.size) (hn : named (s.data.toList.drop (a + 1)) = 0) (hc : (digit s[a + 1] || special s[a + 1]) = false) (h1 : (s[a + 1] == 40) = true) (h2 : ((s.data.toList.drop (a + 2)).head? == some 40) = true) : Calls Tryz.prog 114 #[.pointer (some ⟨g, 0, none⟩), .bool q] w (ScanPost w g s d (dollarF (n + 1) d q (s.data.toList.drop (a + 1))) (fun _ => False) (PartVal w)) := by
 have h123 : (s[a + 1] == 123) = false := by rw [show s[a + 1] = 40 by simpa using h1]; rfl
 have ha3 : a + 2 < s.size := by
  by_cases hh : a + 2 < s.size
  ·exact hh
  ·rw [drop_end s _ hh] at h2; cases h2
 have hE : dollarF (n + 1) d q (s.data.toList.drop (a + 1)) = (match arithF (s.size - a) 0 [] (s.data.toList.drop (a + 3)) with | .ok t r' => .ok (.mk 4 q t [] []) r' | .err a e => .err a e) := by
  rw [byte_drop s _ ha'] at hn ⊢
  rw [dollarF, dollarG.eq_def, if_neg (by omega), if_neg (by omega)]
  simp only [hc, h123, h1, h2, if_true, Bool.false_eq_true, if_false, drop_len, List.drop_drop, show a + 1 + 1 = a + 2 from rfl, show a + 2 + 1 = a + 3 from rfl]
  rw [show s.size - (a + 2) + 2 = s.size - a by omega]
  cases arithF (s.size - a) 0 [] (s.data.toList.drop (a + 3)) <;> rfl
 have _u := ha; clear _u
 have HE := Lib.hid hE; clear hE
 have HN := Lib.hid hn; clear hn
 have H1 := Lib.hid h1; clear h1
 have H2 := Lib.hid h2; clear h2
 have H3 := Lib.hid h123; clear h123
 obtain ⟨h0, h1, h2, f1, _, hgl⟩ := h.cells
 have HT0 := Lib.hid (Lib.extract_to_end s (a + 1))
 have e1 : (0 : Int) ≤ (a : Int) + 1 := by omega
 have e2 : (a : Int) + 1 ≤ (s.size : Int) := by omega
 have hsz : (s.extract (a + 1) s.size).size ≤ 8192 := by simp [ByteArray.size_extract]; omega
 have HSZ := Lib.hid (extract_size s (a + 1) (by omega))
 generalize dollarF (n + 1) d q (s.data.toList.drop (a + 1)) = R at *
 go_enter Tryz.func114, Tryz.ntmps114
 go_wp2_with fail
 generalize s.extract (a + 1) s.size = t at *
 generalize hk : named t.data.toList = k at *
 have HK := Lib.hid hk; clear hk
 have hk0 : k = 0 := by have h1 : named t.data.toList = 0 := by rw [HT0.out]; exact HN.out
                        rw [← HK.out]; exact h1
 subst hk0
 have hk3 := HSZ.out
 have ht0 : 0 < t.size := by omega
 clear hk3
 have he := isEmpty_pos t ht0
 have hc0 : t[0] = s[a + 1] := extract_head s (a + 1) ha' t HT0.out ht0
 have hc1 : t.data.toList = s[a + 1] :: s.data.toList.drop (a + 2) := by rw [HT0.out, byte_drop s (a + 1) ha']
 generalize s[a + 1] = c at *
 have HC1 := Lib.hid hc1; clear hc1
 have hdg : digit c = digitB c.toNat := rfl
 rw [hdg] at hc
 have hd : digitB c.toNat = false := by revert hc; cases digitB c.toNat <;> simp
 have hsp : special c = false := by revert hc; cases special c <;> simp
 clear hc hdg
 have hp1 : Lib.hasPrefix t.data.toList [123] = false := by rw [HC1.out, prefix_one]; exact H3.out
 have hp2 : Lib.hasPrefix t.data.toList [40, 40] = true := by
  rw [HC1.out, byte_drop s _ ha3, prefix_two, H1.out]
  have := H2.out
  rw [byte_drop s _ ha3] at this
  simpa using this
 go_wp2_with (first | (go_at_call 142; refine (named_calls _ _ (by omega)).mono ?_; rintro e w' ⟨rfl, rfl⟩; rw [HK.out]) | (go_at_call 70; refine (Tryz.strings_HasPrefix _ _ _).mono ?_; rintro e w' ⟨rfl, rfl⟩) | (go_at_call 125; refine (digit_calls _ _).mono ?_; rintro e w' ⟨rfl, rfl⟩) | (go_at_call 143; refine (special_calls _ _).mono ?_; rintro e w' ⟨rfl, rfl⟩))
 refine (arith_calls g s a d _ (row_alloc h _) (by omega) hs).mono ?_
 intro e w1 hpost
 generalize arithF (s.size - a) 0 [] (s.data.toList.drop (a + 3)) = RA at *
 cases RA with
 | err left code =>
  obtain ⟨k, hk, hl, rfl, hC⟩ := hpost
  refine ⟨rfl, ?_⟩
  rw [HE.out]
  exact ⟨k, hk, hl, rfl, (((Chg.refl _ _).alloc _).trans hC (fun _ h _ => h))⟩
 | ok tx rest =>
  obtain ⟨v, k, rfl, hk, hr, rfl, hA, hC⟩ := hpost
  have HE' : Hid (R = .ok (.mk 4 q tx [] []) rest) := HE
  clear HE
  have hne : g ≠ w.heap.size := by omega
  have kB := row_chg (row_new w (.cells #[.int .i64 0, .bool false, .string ⟨#[]⟩, .string ⟨#[]⟩, .slice none 0 0] 103)) hC (fun e => by rcases e with e | e; exact hne e.symm; exact e)
  have kcl := row_cells kB
  have kfr := row_free kB
  have hbl := row_lt kB
  clear kB
  have hC0 : Chg (fun j => j = g ∨ False) w w1 := ((Chg.refl (fun j => j = g ∨ False) w).alloc _).trans hC (fun _ h _ => h)
  have HA := Lib.hid hA; clear hA
  go_wp2
  refine bodyPost_ret (v := .agg #[.int .i64 4, .bool q, .string (bstr tx), .string ⟨#[]⟩, .slice none 0 0]) (by simp [results, Tryz.results114, go_sem, kcl]) rfl ?_
  rw [HE'.out]
  refine ⟨_, k, rfl, hk, hr, ⟨_, rfl, part_nil _ _ _ _ _ _ rfl⟩, ?_, ?_⟩
  ·exact row_far (row_far (row_far (row_far (row_far HA.out hne _) hne _) hne _) hne _) hne _
  ·exact ((((hC0.setCell (fun h => absurd h (by simp)) _).setCell (fun h => absurd h (by simp)) _).setCell (fun h => absurd h (by simp)) _).setCell (fun h => absurd h (by simp)) _).setCell (fun h => absurd h (by simp)) _
set_option maxRecDepth 100000 in
set_option maxHeartbeats 4000000 in
theorem dollar_cmd (ha' : a + 1 < s.size) (hn : named (s.data.toList.drop (a + 1)) = 0) (hc : (digit s[a + 1] || special s[a + 1]) = false) (h1 : (s[a + 1] == 40) = true) (h2 : ((s.data.toList.drop (a + 2)).head? == some 40) = false) : Calls Tryz.prog 114 #[.pointer (some ⟨g, 0, none⟩), .bool q] w (ScanPost w g s d (dollarF (n + 1) d q (s.data.toList.drop (a + 1))) (fun _ => False) (PartVal w)) := by
 have h123 : (s[a + 1] == 123) = false := by rw [show s[a + 1] = 40 by simpa using h1]; rfl
 have hE : dollarF (n + 1) d q (s.data.toList.drop (a + 1)) = (match inside (s.data.toList.drop (a + 2)) with | none => .err (s.size - a) 60 | some k => .ok (.mk 3 q ((s.data.toList.drop (a + 2)).take k) [] []) (s.data.toList.drop (a + 2 + (k + 1)))) := by
  rw [byte_drop s _ ha'] at hn ⊢
  rw [dollarF, dollarG.eq_def, if_neg (by omega), if_neg (by omega)]
  simp only [hc, h123, h1, h2, if_true, Bool.false_eq_true, if_false, drop_len, List.drop_drop, show a + 1 + 1 = a + 2 from rfl]
  rw [show s.size - (a + 2) + 2 = s.size - a by omega]
  cases inside (s.data.toList.drop (a + 2)) <;> rfl
 have _u := ha; clear _u
 have HE := Lib.hid hE; clear hE
 have HN := Lib.hid hn; clear hn
 have H1 := Lib.hid h1; clear h1
 have H2 := Lib.hid h2; clear h2
 have H3 := Lib.hid h123; clear h123
 obtain ⟨h0, h1, h2, f1, _, hgl⟩ := h.cells
 have HT0 := Lib.hid (Lib.extract_to_end s (a + 1))
 have e1 : (0 : Int) ≤ (a : Int) + 1 := by omega
 have e2 : (a : Int) + 1 ≤ (s.size : Int) := by omega
 have hsz : (s.extract (a + 1) s.size).size ≤ 8192 := by simp [ByteArray.size_extract]; omega
 have HSZ := Lib.hid (extract_size s (a + 1) (by omega))
 generalize dollarF (n + 1) d q (s.data.toList.drop (a + 1)) = R at *
 go_enter Tryz.func114, Tryz.ntmps114
 go_wp2_with fail
 generalize s.extract (a + 1) s.size = t at *
 generalize hk : named t.data.toList = k at *
 have HK := Lib.hid hk; clear hk
 have hk0 : k = 0 := by have h1 : named t.data.toList = 0 := by rw [HT0.out]; exact HN.out
                        rw [← HK.out]; exact h1
 subst hk0
 have hk3 := HSZ.out
 have ht0 : 0 < t.size := by omega
 clear hk3
 have he := isEmpty_pos t ht0
 have hc0 : t[0] = s[a + 1] := extract_head s (a + 1) ha' t HT0.out ht0
 have hc1 : t.data.toList = s[a + 1] :: s.data.toList.drop (a + 2) := by rw [HT0.out, byte_drop s (a + 1) ha']
 generalize s[a + 1] = c at *
 have HC1 := Lib.hid hc1; clear hc1
 have hdg : digit c = digitB c.toNat := rfl
 rw [hdg] at hc
 have hd : digitB c.toNat = false := by revert hc; cases digitB c.toNat <;> simp
 have hsp : special c = false := by revert hc; cases special c <;> simp
 clear hc hdg
 have hp1 : Lib.hasPrefix t.data.toList [123] = false := by rw [HC1.out, prefix_one]; exact H3.out
 have hp3 : Lib.hasPrefix t.data.toList [40] = true := by rw [HC1.out, prefix_one]; exact H1.out
 have hp2 : Lib.hasPrefix t.data.toList [40, 40] = false := by
  rw [HC1.out]
  have := H2.out
  cases hl : s.data.toList.drop (a + 2) with
  | nil => exact prefix_two_one ..
  | cons e l =>
   rw [hl] at this
   rw [prefix_two, H1.out]
   simpa using this
 go_wp2_with (first | (go_at_call 142; refine (named_calls _ _ (by omega)).mono ?_; rintro e w' ⟨rfl, rfl⟩; rw [HK.out]) | (go_at_call 70; refine (Tryz.strings_HasPrefix _ _ _).mono ?_; rintro e w' ⟨rfl, rfl⟩) | (go_at_call 125; refine (digit_calls _ _).mono ?_; rintro e w' ⟨rfl, rfl⟩) | (go_at_call 143; refine (special_calls _ _).mono ?_; rintro e w' ⟨rfl, rfl⟩))
 have e3 : (0 : Int) ≤ (a : Int) + 2 := by omega
 have e4 : (a : Int) + 2 ≤ (s.size : Int) := by omega
 have hsz2 : (s.extract (a + 2) s.size).size ≤ 8192 := by simp [ByteArray.size_extract]; omega
 have HT2 := Lib.hid (Lib.extract_to_end s (a + 2))
 have hin : insideI ((s.extract (a + 2) s.size).size + 1) 0 0 (s.extract (a + 2) s.size).data.toList = (match inside (s.data.toList.drop (a + 2)) with | none => -1 | some k => (k : Int)) := by
  rw [← HT2.out, inside, len_data, insideI]
  cases insideF ((s.extract (a + 2) s.size).size + 1) 0 (s.extract (a + 2) s.size).data.toList <;> simp
 cases hI : inside (s.data.toList.drop (a + 2)) with
 | none =>
  rw [hI] at hin
  have hin' : insideI ((s.extract (a + 2) s.size).size + 1) 0 0 (s.extract (a + 2) s.size).data.toList = -1 := hin
  have HIN := Lib.hid hin'; clear hin hin'
  have HI := Lib.hid hI; clear hI
  go_quiet ((go_at_call 146; exact Calls.quiet_of_same ((inside_calls _ _ (by omega)).mono (fun e w' hh => ⟨hh.1.trans (by rw [HIN.out]), hh.2.symm⟩))))
  go_wp2_with (go_at_call 110; refine (fail_calls _ _ _ _).mono ?_; rintro e w1 ⟨rfl, rfl⟩)
  refine ⟨rfl, ?_⟩
  rw [HE.out, HI.out]
  exact ⟨a, by omega, by omega, rfl, (((Chg.refl _ _).setCell (fun _ => .inl rfl) _).alloc _).drewN _⟩
 | some k =>
  rw [hI] at hin
  have hin' : insideI ((s.extract (a + 2) s.size).size + 1) 0 0 (s.extract (a + 2) s.size).data.toList = (k : Int) := hin
  have HIN := Lib.hid hin'; clear hin hin'
  have hkl := insideF_lt _ _ _ _ hI
  rw [drop_len] at hkl
  have HI := Lib.hid hI; clear hI
  have e5 : (a : Int) + 2 ≤ (a : Int) + 2 + (k : Int) := by omega
  have e6 : (a : Int) + 2 + (k : Int) ≤ (s.size : Int) := by omega
  have HX := Lib.hid (extract_bstr s (a + 2) (a + 2 + k))
  go_quiet ((go_at_call 146; exact Calls.quiet_of_same ((inside_calls _ _ (by omega)).mono (fun e w' hh => ⟨hh.1.trans (by rw [HIN.out]), hh.2.symm⟩))))
  go_wp2
  go_quiet (fail)
  go_wp2
  have hne : g ≠ w.heap.size := by omega
  refine bodyPost_ret (v := .agg #[.int .i64 3, .bool q, .string (s.extract (a + 2) (a + 2 + k)), .string ⟨#[]⟩, .slice none 0 0]) (by simp [results, Tryz.results114, go_sem]) rfl ?_
  rw [HE.out, HI.out]
  refine ⟨_, a + 2 + (k + 1), rfl, by omega, rfl, ⟨_, rfl, part_nil _ _ _ _ _ _ (by rw [HX.out]; congr 2; omega)⟩, ?_, ?_⟩
  ·have k1 : ScanAt (((w.setCell ⟨g, 1, none⟩ (.int .i64 ((a : Int) + 2))).alloc (.cells #[.int .i64 0, .bool false, .string ⟨#[]⟩, .string ⟨#[]⟩, .slice none 0 0] 103)).drewN 0) g s ((a : Int) + 2) d := row_alloc (h.at' _) _
   have k2 := row_far (row_far (row_far (row_far (row_far (k1.at' ((a : Int) + 2 + ((k : Int) + 1))) (p := ⟨w.heap.size, 0, none⟩) hne (.int .i64 3)) (p := ⟨w.heap.size, 1, none⟩) hne (.bool q)) (p := ⟨w.heap.size, 2, none⟩) hne (.string (s.extract (a + 2) (a + 2 + k)))) (p := ⟨w.heap.size, 3, none⟩) hne (.string ⟨#[]⟩)) (p := ⟨w.heap.size, 4, none⟩) hne (.slice none 0 0)
   rw [show ((a : Int) + 2 + ((k : Int) + 1)) = ((a + 2 + (k + 1) : Nat) : Int) by omega] at k2 ⊢
   exact k2
  ·exact ((((((((Chg.refl _ _).setCell (fun _ => .inl rfl) _).alloc _).drewN _).setCell (fun _ => .inl rfl) _).setCell (fun h => absurd h (by simp)) _).setCell (fun h => absurd h (by simp)) _).setCell (fun h => absurd h (by simp)) _).setCell (fun h => absurd h (by simp)) _ |>.setCell (fun h => absurd h (by simp)) _
end
theorem dollar_said (n : Nat) (IH : ParamSaid n) : DollarSaid (n + 1) := by
 intro w g s a d q h ha hs hd hf
 by_cases h1 : named (s.data.toList.drop (a + 1)) > 64
 ·exact dollar_long w g s a d q h ha hs n h1
 ·by_cases h2 : 0 < named (s.data.toList.drop (a + 1))
  ·exact dollar_name w g s a d q h ha hs n (by omega) h2
  ·have hn : named (s.data.toList.drop (a + 1)) = 0 := by omega
   by_cases ha' : a + 1 < s.size
   ·cases hc : (digit s[a + 1] || special s[a + 1])
    ·cases h3 : s[a + 1] == 123
     ·cases h4 : s[a + 1] == 40
      ·exact dollar_else w g s a d q h ha hs n ha' hn hc h3 h4
      ·cases h5 : (s.data.toList.drop (a + 2)).head? == some 40
       ·exact dollar_cmd w g s a d q h ha hs n ha' hn hc h4 h5
       ·exact dollar_arith w g s a d q h ha hs n ha' hn hc h4 h5
     ·exact dollar_param w g s a d q h ha hs n hd (by omega) IH ha' hn hc h3
    ·exact dollar_char w g s a d q h ha hs n ha' hn hc
   ·exact dollar_end w g s a d q h ha hs n ha'
theorem double_nil (n d F : Nat) (l : List Part) : doubleF (n + 1) d F l [] = .err F 60 := by rw [doubleF]
theorem double_cons (n d F : Nat) (l : List Part) (c : UInt8) (r : Bytes) : doubleF (n + 1) d F l (c :: r) =
  if c == 34 then .ok (if r.length + 2 == F then add l (lit [] true) else l) r
  else if c == 96 then .err (r.length + 1) 61
  else if c == 36 then (match dollarF n d true r with | .ok p r' => doubleF n d F (add l p) r' | .err a e => .err a e)
  else if c == 92 && dblEsc r then (match escape l (c :: r) with | .ok l' r' => doubleF n d F l' r' | .err a e => .err a e)
  else doubleF n d F (add l (lit [c] true)) r := by rw [doubleF]; rfl
def DoubleRel (w : World) (g : Nat) (s : ByteArray) (a d : Nat) (S : Nat → Prop) (v0 : Value) (R : Rs (List Part)) (k : Nat) (v : Value) (wr : World) (b : Nat) (l : List Part) : Prop :=
 ScanAt wr g s b d ∧ a + 1 ≤ b ∧ b ≤ s.size ∧ 4 * (s.size - b) + 2 ≤ k ∧ Own wr (fun j => S j ∨ w.heap.size ≤ j) 103 5 v (Part.ds l) ∧ AtOr v0 v w ∧ Chg (fun j => j = g ∨ some j = v0.ownBlock) w wr ∧
  Part.wts l + 2 * (s.size - b) ≤ 100000 ∧ doubleF k d (s.size - a) l (s.data.toList.drop b) = R
set_option maxRecDepth 100000 in
set_option maxHeartbeats 8000000 in
theorem double_said (n : Nat) (IH : ∀ m, m < n → DollarSaid m) : DoubleSaid n := by
 intro w g s a d S v l h ha hs hd hf hO hg hw
 generalize hR : doubleF n d (s.size - a) l (s.data.toList.drop (a + 1)) = R
 have HR := Lib.hid hR; clear hR
 obtain ⟨h0, h1, h2, f1, _, hgl⟩ := h.cells
 obtain ⟨A0, c0, hv0, _, _⟩ := hO.form
 have HV := Lib.hid hv0; clear hv0
 have hgw := hgl
 have hb0 : ∀ j, v.ownBlock = some j → j ≠ g := fun j hj e => hg (e ▸ hO.block hj)
 go_enter Tryz.func113, Tryz.ntmps113
 go_wp2
 go_loopg [1] n (fun k v' wr => k ≤ n ∧ ∃ b l', DoubleRel w g s a d S v R k v' wr b l')
 case atStart =>
  exact ⟨Nat.le_refl _, a + 1, l, h.at' _, by omega, by omega, by omega, (hO.stay ((Chg.refl (· = g) _).setCell (fun _ => rfl) _) (by rintro k hk rfl; exact hg hk)).mono (fun _ h _ => .inl h), .inl rfl, (Chg.refl _ _).setCell (fun _ => .inl rfl) _, by omega, HR.out⟩
 case round =>
  obtain ⟨hkn, b, l', hA, hb1, hb2, hk, hO', hat, hC, hwt, HK0⟩ := hrel
  have HK := Lib.hid HK0; clear HK0
  obtain ⟨k0, k1, k2, kf1, _, kgl⟩ := hA.cells
  clear h0 h1 h2 f1 hgl
  have hSg : ∀ k, (S k ∨ w.heap.size ≤ k) → ¬ k = g := by
   rintro k (hk | hk) rfl
   ·exact hg hk
   ·exact absurd hgw (by omega)
  have hugb : ∀ j, u1.ownBlock = some j → j ≠ g := fun j hj => hSg j (hO'.block hj)
  by_cases hlt : b < s.size
  ·obtain ⟨m, rfl⟩ : ∃ m, gk = m + 1 := ⟨gk - 1, by omega⟩
   have HD := Lib.hid (byte_drop s b hlt)
   have HCONS := Lib.hid (double_cons m d (s.size - a) l' s[b] (s.data.toList.drop (b + 1)))
   have hx := extract_one s b hlt
   have q0 : (0 : Int) ≤ (b : Int) := by omega
   have q1 : (b : Int) < (s.size : Int) := by omega
   have hq34 : ((s[b].toNat : Int) == 34) = (s[b] == 34) := byte_eqn s[b] 34 (by decide)
   have hq96 : ((s[b].toNat : Int) == 96) = (s[b] == 96) := byte_eqn s[b] 96 (by decide)
   have hq36 : ((s[b].toNat : Int) == 36) = (s[b] == 36) := byte_eqn s[b] 36 (by decide)
   have hq92 : ((s[b].toNat : Int) == 92) = (s[b] == 92) := byte_eqn s[b] 92 (by decide)
   go_wp2
   go_quiet (fail)
   go_wp2
   go_quiet (fail)
   generalize s[b] = c at *
   cases h34 : c == 34
   case true =>
    rw [h34] at hq34
    have HR1 : Hid (R = .ok (if b == a + 1 then add l' (lit [] true) else l') (s.data.toList.drop (b + 1))) := Lib.hid (by
     rw [← HK.out, HD.out, HCONS.out, if_pos h34, drop_len]
     by_cases e : b = a + 1
     ·rw [if_pos (by simp; omega), if_pos (by simp [e])]
     ·rw [if_neg (by simp; omega), if_neg (by simp [e])])
    by_cases hba : b = a + 1
    ·have e1 : ((b : Int) + 1 == (a : Int) + 2) = true := by simp; omega
     have HBA := Lib.hid hba; clear hba
     go_wp2_with fail
     refine (lit_calls _ _ _).mono ?_
     rintro e w1 ⟨rfl, hb1'⟩
     go_wp2_with fail
     have hC1 := (((hC.drewN _).setCell (fun _ => .inl rfl) _).trans (Chg.of_below hb1') (fun _ h _ => h.elim))
     have hA1 : ScanAt w1 g s ((b : Int) + 1) d := ScanAt.chg (ScanAt.at' (w := wr.drewN _) hA _) (Chg.of_below hb1') (fun e => e)
     have hO1 : Own w1 (fun j => S j ∨ w.heap.size ≤ j) 103 5 u1 (Part.ds l') := (hO'.stay (((Chg.refl (· = g) _).drewN _).setCell (fun _ => rfl) _) hSg).stay (Chg.of_below hb1') (fun _ _ e => e)
     refine (add_calls w1 _ (fun _ => False) u1 l' (lit [] true) [.int .i64 1, .bool true, .string ⟨#[]⟩, .string ⟨#[]⟩, .slice none 0 0] hO1 (lit_rep _ [] true) (fun _ h => h.elim) (by rw [lit_wt]; simp; omega)).mono ?_
     rintro e w2 ⟨v2, rfl, hO2, hC2, hat2⟩
     have hz1 := hC1.size
     have hz2 := hC2.size
     have hne : ¬ some g = u1.ownBlock := fun e => hugb g e.symm rfl
     go_wp2
     go_ret
     rw [HR1.out, if_pos (by simp [HBA.out])]
     refine ⟨v2, b + 1, rfl, by omega, rfl, hO2.mono (fun j h _ => h.elim id (fun h => .inr (by omega))), hA1.chg hC2 hne, hC1.trans hC2 (fun j e hl => ?_)⟩
     rcases hat with h | ⟨b', h, hle⟩
     ·exact .inr (e.trans h)
     ·rw [h] at e; cases e; omega
    ·have e1 : ((b : Int) + 1 == (a : Int) + 2) = false := by simp; omega
     go_wp2
     go_ret
     rw [HR1.out, if_neg (by simp [hba])]
     exact ⟨u1, b + 1, rfl, by omega, rfl, hO'.stay (((Chg.refl (· = g) _).drewN _).setCell (fun _ => rfl) _) hSg, hA.at' _, (hC.drewN _).setCell (fun _ => .inl rfl) _⟩
   case false =>
    rw [h34] at hq34
    cases h96 : c == 96
    case true =>
     rw [h96] at hq96
     go_wp2_with (go_at_call 110; refine (fail_calls _ _ _ _).mono ?_; rintro e w1 ⟨rfl, rfl⟩)
     refine ⟨rfl, ?_⟩
     rw [← HK.out, HD.out, HCONS.out, if_neg (by simp [h34]), if_pos h96, drop_len]
     exact ⟨b, by omega, by omega, rfl, hC.drewN _⟩
    case false =>
     rw [h96] at hq96
     cases h36 : c == 36
     case true =>
      rw [h36] at hq36
      go_wp2_with fail
      have HD1 : Hid (∀ RD, dollarF m d true (s.data.toList.drop (b + 1)) = RD → (match RD with | .ok p r' => doubleF m d (s.size - a) (add l' p) r' | .err a e => .err a e) = R) := Lib.hid (by
       rintro RD rfl
       rw [← HK.out, HD.out, HCONS.out, if_neg (by simp [h34]), if_neg (by simp [h96]), if_pos h36])
      have HL := Lib.hid ((scan_len m).dollar d true (s.data.toList.drop (b + 1)))
      refine (IH m (by omega) (wr.drewN _) g s b d true hA hlt hs hd (by omega)).mono ?_
      intro e w1 hpost
      generalize hRD : dollarF m d true (s.data.toList.drop (b + 1)) = RD at hpost HL
      have HD2 := Lib.hid (HD1.out RD hRD); clear HD1 hRD
      cases RD with
      | err left code =>
       obtain ⟨k, hk', hl, rfl, hC1⟩ := hpost
       refine ⟨rfl, ?_⟩
       rw [← HD2.out]
       exact ⟨k, hk', hl, rfl, (hC.drewN _).trans hC1 (fun _ h _ => h.elim .inl (fun h => h.elim))⟩
      | ok p rest =>
       obtain ⟨v1, k, rfl, hk', rfl, ⟨cs, rfl, hrep⟩, hA1, hC1⟩ := hpost
       have hL := HL.out p _ rfl
       rw [drop_len, drop_len] at hL
       have hz0 := hC.size
       have hO1 : Own w1 (fun j => S j ∨ w.heap.size ≤ j) 103 5 u1 (Part.ds l') := hO'.stay (((Chg.refl (fun j => j = g ∨ False) _).drewN _).trans hC1 (fun _ h _ => h)) (fun k hk e => e.elim (hSg k hk) id)
       have hub : ∀ j, some j = u1.ownBlock → j < wr.heap.size := fun j e => Own.lt hO' e.symm
       go_wp2_with fail
       refine (add_calls w1 _ _ u1 l' p cs hO1 hrep (fun j hj hl => ⟨.inr (by simp at hj; omega), fun e => by have := hub j e; simp at hj; omega⟩) (by omega)).mono ?_
       rintro e w2 ⟨v2, rfl, hO2, hC2, hat2⟩
       have hz1 : wr.heap.size ≤ w1.heap.size := hC1.size
       have hz2 := hC2.size
       have hne : ¬ some g = u1.ownBlock := fun e => hugb g e.symm rfl
       have haw := add_wt l' p
       have hC02 : Chg (fun j => j = g ∨ some j = v.ownBlock) w w2 := ((hC.drewN _).trans hC1 (fun _ h _ => h.elim .inl (fun h => h.elim))).trans hC2 (fun j e hl => by
        rcases hat with h | ⟨b', h, hle⟩
        ·exact .inr (e.trans h)
        ·rw [h] at e; cases e; omega)
       have hat' : AtOr v v2 w := by
        rcases hat2 with h | ⟨b', h, hle⟩
        ·rcases hat with h' | ⟨b', h', hle⟩
         ·exact .inl (h.trans h')
         ·exact .inr ⟨b', h.trans h', hle⟩
        ·exact .inr ⟨b', h, by omega⟩
       have hO2' := hO2.mono (S' := fun j => S j ∨ w.heap.size ≤ j) (fun j h _ => h.elim id (fun h => .inr (by omega)))
       have hA2 := hA1.chg hC2 hne
       clear hub hO1 hrep
       go_wp2
       go_roundg m
       case measure => omega
       case rel => exact ⟨by omega, k, _, hA2, by omega, hk', by omega, hO2', hat', hC02, by omega, HD2.out⟩
     case false =>
      rw [h36] at hq36
      cases h92 : c == 92 && dblEsc (s.data.toList.drop (b + 1))
      case true =>
       simp only [Bool.and_eq_true] at h92
       obtain ⟨h92, hesc⟩ := h92
       rw [h92] at hq92
       have hl1 : b + 1 < s.size := by
        by_cases hh : b + 1 < s.size
        ·exact hh
        ·rw [drop_end s _ hh] at hesc; cases hesc
       have hix := indexByte_neg dblq s[b + 1]
       have hdb : dblq.contains s[b + 1] = true := by rw [byte_drop s _ hl1] at hesc; exact hesc
       rw [hdb] at hix
       have hix' : decide (0 ≤ Lib.indexByte [36, 34, 92, 96, 10] s[b + 1]) = true := hix
       have HESC := Lib.hid hesc; clear hesc hix hdb
       have r0 : (0 : Int) ≤ (b : Int) + 1 := by omega
       have r1 : (b : Int) + 1 < (s.size : Int) := by omega
       go_wp2
       have hwr : IntKind.i64.wrap ((b : Int) + 1) = (b : Int) + 1 := IntWalk.i64_in _ (by omega)
       have r2 : ((b : Int) + 1).toNat = b + 1 := by omega
       go_quiet ((go_at_call 109; exact (Tryz.strings_IndexByte _ _ _).mono (fun _ _ hh => ⟨hh.1, _, hh.2⟩)))
       clear hwr
       go_wp2_with fail
       have HD1 : Hid (∀ RD, escape l' (s.data.toList.drop b) = RD → (match RD with | .ok l1 r' => doubleF m d (s.size - a) l1 r' | .err a e => .err a e) = R) := Lib.hid (by
        rintro RD rfl
        rw [← HK.out, HD.out, HCONS.out, if_neg (by simp [h34]), if_neg (by simp [h96]), if_neg (by simp [h36]), if_pos (by rw [h92, HESC.out]; rfl)])
       have HL := Lib.hid (escape_len l')
       refine (escape_calls g s b d (fun j => S j ∨ w.heap.size ≤ j) u1 l' (wr.drewN _) hA hlt hs (hO'.stay ((Chg.refl (fun _ => False) _).drewN _) (fun _ _ e => e)) (fun e => hSg g e rfl) (by omega)).mono ?_
       intro e w1 hpost
       generalize hRD : escape l' (s.data.toList.drop b) = RD at hpost
       have HD2 := Lib.hid (HD1.out RD hRD); clear HD1
       have HRD := Lib.hid hRD; clear hRD
       cases RD with
       | err left code =>
        obtain ⟨k, hk', hl, rfl, hC1⟩ := hpost
        refine ⟨rfl, ?_⟩
        rw [← HD2.out]
        exact ⟨k, hk', hl, rfl, (hC.drewN _).trans hC1 (fun j e hl => by
         rcases e with e | e
         ·exact .inl e
         ·rcases hat with h | ⟨b', h, hle⟩
          ·exact .inr (e.trans h)
          ·rw [h] at e; cases e; omega)⟩
       | ok l1 rest =>
        obtain ⟨v2, k, rfl, hk', rfl, ⟨hO2, hat2⟩, hA2, hC2⟩ := hpost
        have hL := HL.out _ _ _ HRD.out
        rw [drop_len, drop_len] at hL
        have hz0 := hC.size
        have hat' : AtOr v v2 w := by
         rcases hat2 with h | ⟨b', h, hle⟩
         ·rcases hat with h' | ⟨b', h', hle⟩
          ·exact .inl (h.trans h')
          ·exact .inr ⟨b', h.trans h', hle⟩
         ·exact .inr ⟨b', h, Nat.le_trans hz0 hle⟩
        have hC02 : Chg (fun j => j = g ∨ some j = v.ownBlock) w w1 := (hC.drewN _).trans hC2 (fun j e hl => by
         rcases e with e | e
         ·exact .inl e
         ·rcases hat with h | ⟨b', h, hle⟩
          ·exact .inr (e.trans h)
          ·rw [h] at e; cases e; omega)
        have hO2' := hO2.mono (S' := fun j => S j ∨ w.heap.size ≤ j) (fun j h _ => h.elim id (fun h => .inr (Nat.le_trans hz0 h)))
        clear hO2
        go_wp2
        go_roundg m
        case measure => omega
        case rel => exact ⟨by omega, k, _, hA2, by omega, hk', by omega, hO2', hat', hC02, by omega, HD2.out⟩
      case false =>
       have HNEXT : Hid (doubleF m d (s.size - a) (add l' (lit [c] true)) (s.data.toList.drop (b + 1)) = R) := Lib.hid (by
        rw [← HK.out, HD.out, HCONS.out, if_neg (by simp [h34]), if_neg (by simp [h96]), if_neg (by simp [h36]), if_neg (by rw [h92]; simp)])
       clear HD HCONS HK
       have hwr : IntKind.i64.wrap ((b : Int) + 1) = (b : Int) + 1 := IntWalk.i64_in _ (by omega)
       cases hc92 : c == 92
       case false =>
        rw [hc92] at hq92
        go_wp2
        go_quiet ((go_at_call 109; exact (Tryz.strings_IndexByte _ _ _).mono (fun _ _ hh => ⟨hh.1, _, hh.2⟩)))
        go_wp2_with fail
        have hne : ¬ some g = u1.ownBlock := fun e => hugb g e.symm rfl
        have r3 : (b : Int) ≤ (b : Int) + 1 := by omega
        have r4 : (b : Int) + 1 ≤ (s.size : Int) := by omega
        go_region_held3 (fun w' => w'.cell? ⟨g, 0, none⟩ = some (.string s) ∧ w'.cell? ⟨g, 1, none⟩ = some (.int .i64 b))
         (first
          | go_keep
          | (go_split_ands; exact ⟨(Chg.of_below hb1').cell (by assumption) (fun e => e), (Chg.of_below hb1').cell (by assumption) (fun e => e)⟩)
          | (go_split_ands; exact ⟨hC2.cell (by assumption) hne, hC2.cell (by assumption) hne⟩))
         (first
          | (go_at_call 112; refine (lit_calls _ _ _).mono ?_; rintro e w1 ⟨rfl, hb1'⟩)
          | (go_at_call 111; refine (add_calls _ (fun j => S j ∨ w.heap.size ≤ j) (fun _ => False) u1 l' (lit [c] true) [.int .i64 1, .bool true, .string (bstr [c]), .string ⟨#[]⟩, .slice none 0 0] ((hO'.stay ((Chg.refl (fun _ => False) _).drewN _) (fun _ _ e => e)).stay (Chg.of_below hb1') (fun _ _ e => e)) (lit_rep _ [c] true) (fun _ h => h.elim) (by rw [lit_wt]; simp; omega)).mono ?_; rintro e w2 ⟨v2, rfl, hO2, hC2, hat2⟩))
        have hz0 := hC.size
        have hz1 : wr.heap.size ≤ w1.heap.size := hb1'.size
        have hz2 := hC2.size
        have hA1 : ScanAt w1 g s (b : Nat) d := ScanAt.chg (w := wr.drewN _) hA (Chg.of_below hb1') (fun e => e)
        have hA2 := hA1.chg hC2 hne
        obtain ⟨j0, j1, j2, jf1, _, jgl⟩ := hA2.cells
        have haw := add_wt l' (lit [c] true)
        rw [lit_wt, List.length_singleton] at haw
        have hC02 : Chg (fun j => j = g ∨ some j = v.ownBlock) w w2 := ((hC.drewN _).trans (Chg.of_below hb1') (fun _ h _ => h.elim)).trans hC2 (fun j e hl => by
         rcases hat with h | ⟨b', h, hle⟩
         ·exact .inr (e.trans h)
         ·rw [h] at e; cases e; omega)
        have hat' : AtOr v v2 w := by
         rcases hat2 with h | ⟨b', h, hle⟩
         ·rcases hat with h' | ⟨b', h', hle⟩
          ·exact .inl (h.trans h')
          ·exact .inr ⟨b', h.trans h', hle⟩
         ·exact .inr ⟨b', h, by omega⟩
        have hO2' := (hO2.mono (S' := fun j => S j ∨ w.heap.size ≤ j) (fun j h _ => h.elim id (fun h => .inr (by omega)))).stay (((Chg.refl (· = g) _)).setCell (p := ⟨g, 1, none⟩) (fun _ => rfl) (.int .i64 ((b : Int) + 1))) hSg
        have hA3 := hA2.at' ((b : Int) + 1)
        have HC03 := hC02.setCell (p := ⟨g, 1, none⟩) (fun _ => .inl rfl) (.int .i64 ((b : Int) + 1))
        clear hO2 hA1
        go_wp2
        go_roundg m
        case measure => omega
        case rel => exact ⟨by omega, b + 1, _, hA3, by omega, by omega, by omega, hO2', hat', HC03, by omega, HNEXT.out⟩
       case true =>
        rw [hc92] at hq92 h92
        by_cases hl1 : b + 1 < s.size
        ·have hesc : dblEsc (s.data.toList.drop (b + 1)) = false := by simpa using h92
         have hix := indexByte_neg dblq s[b + 1]
         have hdb : dblq.contains s[b + 1] = false := by rw [byte_drop s _ hl1] at hesc; exact hesc
         rw [hdb] at hix
         have hix' : decide (0 ≤ Lib.indexByte [36, 34, 92, 96, 10] s[b + 1]) = false := hix
         have HESC := Lib.hid hesc; clear hesc hix hdb
         have r0 : (0 : Int) ≤ (b : Int) + 1 := by omega
         have r1 : (b : Int) + 1 < (s.size : Int) := by omega
         have r2 : ((b : Int) + 1).toNat = b + 1 := by omega
         go_wp2
         go_quiet ((go_at_call 109; exact (Tryz.strings_IndexByte _ _ _).mono (fun _ _ hh => ⟨hh.1, _, hh.2⟩)))
         go_wp2_with fail
         have hne : ¬ some g = u1.ownBlock := fun e => hugb g e.symm rfl
         have r3 : (b : Int) ≤ (b : Int) + 1 := by omega
         have r4 : (b : Int) + 1 ≤ (s.size : Int) := by omega
         go_region_held3 (fun w' => w'.cell? ⟨g, 0, none⟩ = some (.string s) ∧ w'.cell? ⟨g, 1, none⟩ = some (.int .i64 b))
          (first
           | go_keep
           | (go_split_ands; exact ⟨(Chg.of_below hb1').cell (by assumption) (fun e => e), (Chg.of_below hb1').cell (by assumption) (fun e => e)⟩)
           | (go_split_ands; exact ⟨hC2.cell (by assumption) hne, hC2.cell (by assumption) hne⟩))
          (first
           | (go_at_call 112; refine (lit_calls _ _ _).mono ?_; rintro e w1 ⟨rfl, hb1'⟩)
           | (go_at_call 111; refine (add_calls _ (fun j => S j ∨ w.heap.size ≤ j) (fun _ => False) u1 l' (lit [c] true) [.int .i64 1, .bool true, .string (bstr [c]), .string ⟨#[]⟩, .slice none 0 0] ((hO'.stay ((Chg.refl (fun _ => False) _).drewN _) (fun _ _ e => e)).stay (Chg.of_below hb1') (fun _ _ e => e)) (lit_rep _ [c] true) (fun _ h => h.elim) (by rw [lit_wt]; simp; omega)).mono ?_; rintro e w2 ⟨v2, rfl, hO2, hC2, hat2⟩))
         have hz0 := hC.size
         have hz1 : wr.heap.size ≤ w1.heap.size := hb1'.size
         have hz2 := hC2.size
         have hA1 : ScanAt w1 g s (b : Nat) d := ScanAt.chg (w := wr.drewN _) hA (Chg.of_below hb1') (fun e => e)
         have hA2 := hA1.chg hC2 hne
         obtain ⟨j0, j1, j2, jf1, _, jgl⟩ := hA2.cells
         have haw := add_wt l' (lit [c] true)
         rw [lit_wt, List.length_singleton] at haw
         have hC02 : Chg (fun j => j = g ∨ some j = v.ownBlock) w w2 := ((hC.drewN _).trans (Chg.of_below hb1') (fun _ h _ => h.elim)).trans hC2 (fun j e hl => by
          rcases hat with h | ⟨b', h, hle⟩
          ·exact .inr (e.trans h)
          ·rw [h] at e; cases e; omega)
         have hat' : AtOr v v2 w := by
          rcases hat2 with h | ⟨b', h, hle⟩
          ·rcases hat with h' | ⟨b', h', hle⟩
           ·exact .inl (h.trans h')
           ·exact .inr ⟨b', h.trans h', hle⟩
          ·exact .inr ⟨b', h, by omega⟩
         have hO2' := (hO2.mono (S' := fun j => S j ∨ w.heap.size ≤ j) (fun j h _ => h.elim id (fun h => .inr (by omega)))).stay (((Chg.refl (· = g) _)).setCell (p := ⟨g, 1, none⟩) (fun _ => rfl) (.int .i64 ((b : Int) + 1))) hSg
         have hA3 := hA2.at' ((b : Int) + 1)
         have HC03 := hC02.setCell (p := ⟨g, 1, none⟩) (fun _ => .inl rfl) (.int .i64 ((b : Int) + 1))
         clear hO2 hA1
         go_wp2
         go_roundg m
         case measure => omega
         case rel => exact ⟨by omega, b + 1, _, hA3, by omega, by omega, by omega, hO2', hat', HC03, by omega, HNEXT.out⟩
        ·have r1 : decide ((b : Int) + 1 < (s.size : Int)) = false := by simp; omega
         go_wp2
         go_quiet ((go_at_call 109; exact (Tryz.strings_IndexByte _ _ _).mono (fun _ _ hh => ⟨hh.1, _, hh.2⟩)))
         go_wp2_with fail
         have hne : ¬ some g = u1.ownBlock := fun e => hugb g e.symm rfl
         have r3 : (b : Int) ≤ (b : Int) + 1 := by omega
         have r4 : (b : Int) + 1 ≤ (s.size : Int) := by omega
         go_region_held3 (fun w' => w'.cell? ⟨g, 0, none⟩ = some (.string s) ∧ w'.cell? ⟨g, 1, none⟩ = some (.int .i64 b))
          (first
           | go_keep
           | (go_split_ands; exact ⟨(Chg.of_below hb1').cell (by assumption) (fun e => e), (Chg.of_below hb1').cell (by assumption) (fun e => e)⟩)
           | (go_split_ands; exact ⟨hC2.cell (by assumption) hne, hC2.cell (by assumption) hne⟩))
          (first
           | (go_at_call 112; refine (lit_calls _ _ _).mono ?_; rintro e w1 ⟨rfl, hb1'⟩)
           | (go_at_call 111; refine (add_calls _ (fun j => S j ∨ w.heap.size ≤ j) (fun _ => False) u1 l' (lit [c] true) [.int .i64 1, .bool true, .string (bstr [c]), .string ⟨#[]⟩, .slice none 0 0] ((hO'.stay ((Chg.refl (fun _ => False) _).drewN _) (fun _ _ e => e)).stay (Chg.of_below hb1') (fun _ _ e => e)) (lit_rep _ [c] true) (fun _ h => h.elim) (by rw [lit_wt]; simp; omega)).mono ?_; rintro e w2 ⟨v2, rfl, hO2, hC2, hat2⟩))
         have hz0 := hC.size
         have hz1 : wr.heap.size ≤ w1.heap.size := hb1'.size
         have hz2 := hC2.size
         have hA1 : ScanAt w1 g s (b : Nat) d := ScanAt.chg (w := wr.drewN _) hA (Chg.of_below hb1') (fun e => e)
         have hA2 := hA1.chg hC2 hne
         obtain ⟨j0, j1, j2, jf1, _, jgl⟩ := hA2.cells
         have haw := add_wt l' (lit [c] true)
         rw [lit_wt, List.length_singleton] at haw
         have hC02 : Chg (fun j => j = g ∨ some j = v.ownBlock) w w2 := ((hC.drewN _).trans (Chg.of_below hb1') (fun _ h _ => h.elim)).trans hC2 (fun j e hl => by
          rcases hat with h | ⟨b', h, hle⟩
          ·exact .inr (e.trans h)
          ·rw [h] at e; cases e; omega)
         have hat' : AtOr v v2 w := by
          rcases hat2 with h | ⟨b', h, hle⟩
          ·rcases hat with h' | ⟨b', h', hle⟩
           ·exact .inl (h.trans h')
           ·exact .inr ⟨b', h.trans h', hle⟩
          ·exact .inr ⟨b', h, by omega⟩
         have hO2' := (hO2.mono (S' := fun j => S j ∨ w.heap.size ≤ j) (fun j h _ => h.elim id (fun h => .inr (by omega)))).stay (((Chg.refl (· = g) _)).setCell (p := ⟨g, 1, none⟩) (fun _ => rfl) (.int .i64 ((b : Int) + 1))) hSg
         have hA3 := hA2.at' ((b : Int) + 1)
         have HC03 := hC02.setCell (p := ⟨g, 1, none⟩) (fun _ => .inl rfl) (.int .i64 ((b : Int) + 1))
         clear hO2 hA1
         go_wp2
         go_roundg m
         case measure => omega
         case rel => exact ⟨by omega, b + 1, _, hA3, by omega, by omega, by omega, hO2', hat', HC03, by omega, HNEXT.out⟩
  ·have q1 : decide ((b : Int) < (s.size : Int)) = false := by simp; omega
   obtain ⟨m, rfl⟩ : ∃ m, gk = m + 1 := ⟨gk - 1, by omega⟩
   go_wp2
   go_quiet (fail)
   go_wp2_with (go_at_call 110; refine (fail_calls _ _ _ _).mono ?_; rintro e w1 ⟨rfl, rfl⟩)
   refine ⟨rfl, ?_⟩
   rw [← HK.out, drop_end s b hlt, double_nil]
   exact ⟨a, by omega, by omega, rfl, hC.drewN _⟩
theorem lenB_is (l : Bytes) : lenB l = (isAt l 0 35 && decide (1 < l.length) && !isAt l 1 125) := by
 unfold isAt
 match l with
 | [] => rfl
 | [c] => simp [lenB]
 | c :: e :: r =>
  by_cases hc : c = 35
  ·subst hc; simp [lenB, bne]
  ·have : lenB (c :: e :: r) = false := by
    unfold lenB
    split
    ·rename_i h; cases h; exact absurd rfl hc
    ·rfl
   rw [this]
   simp [hc]
set_option maxRecDepth 100000 in
set_option maxHeartbeats 8000000 in
theorem param_deep (n : Nat) (w : World) (g : Nat) (s : ByteArray) (a d : Nat) (q : Bool) (h : ScanAt w g s a d) (ha : a + 2 ≤ s.size) (hs : s.size ≤ 8192) (hd : d ≤ 16) (hdeep : 16 < d + 1) :
  Calls Tryz.prog 144 #[.pointer (some ⟨g, 0, none⟩), .bool q] w (ScanPost w g s d (paramF (n + 1) d q (s.data.toList.drop (a + 2))) (fun _ => False) (PartVal w)) := by
 have hE : paramF (n + 1) d q (s.data.toList.drop (a + 2)) = .err (s.size - a) 63 := by
  rw [paramF, if_pos hdeep, drop_len]; congr 1; omega
 rw [hE]
 clear hE
 obtain ⟨h0, h1, h2, f1, f2, hgl⟩ := h.cells
 have e1 : decide ((16 : Int) < (d : Int) + 1) = true := by simp; omega
 go_enter Tryz.func144, Tryz.ntmps144
 go_wp2_with (go_at_call 110; refine (fail_calls _ _ _ _).mono ?_; rintro e w1 ⟨rfl, rfl⟩)
 exact ⟨rfl, a, by omega, rfl, rfl, ((Chg.refl (fun j => j = g ∨ False) _).setCell (fun _ => .inl rfl) _).alloc _⟩
structure ParAt (w wr : World) (g : Nat) (s : ByteArray) (b d : Nat) (q : Bool) (tx op : ByteArray) (v : Value) : Prop where
 scan : ScanAt wr g s b d
 res : wr.heap[w.heap.size]? = some (.cells #[.int .i64 0, .bool false, .string ⟨#[]⟩, .string ⟨#[]⟩, .slice none 0 0] 103)
 part : wr.heap[w.heap.size + 1]? = some (.cells #[.int .i64 2, .bool q, .string tx, .string op, v] 103)
 chg : Chg (fun j => j = g ∨ False) w wr
 old : g < w.heap.size
section
variable {w wr w' : World} {g : Nat} {s : ByteArray} {b d : Nat} {q : Bool} {tx op : ByteArray} {v : Value}
theorem ParAt.drewN (h : ParAt w wr g s b d q tx op v) (n : Nat) : ParAt w (wr.drewN n) g s b d q tx op v := ⟨h.scan, h.res, h.part, h.chg.drewN n, h.old⟩
theorem ParAt.at' (h : ParAt w wr g s b d q tx op v) (b' : Nat) : ParAt w (wr.setCell ⟨g, 1, none⟩ (.int .i64 b')) g s b' d q tx op v :=
 ⟨h.scan.at' _, row_far h.res (fun e => Nat.lt_irrefl _ (e ▸ h.old)) _, row_far h.part (fun e => absurd h.old (by simp at e; omega)) _, h.chg.setCell (fun _ => .inl rfl) _, h.old⟩
theorem ParAt.deep' (h : ParAt w wr g s b d q tx op v) (d' : Nat) : ParAt w (wr.setCell ⟨g, 2, none⟩ (.int .i64 d')) g s b d' q tx op v :=
 ⟨h.scan.deep' _, row_far h.res (fun e => Nat.lt_irrefl _ (e ▸ h.old)) _, row_far h.part (fun e => absurd h.old (by simp at e; omega)) _, h.chg.setCell (fun _ => .inl rfl) _, h.old⟩
theorem ParAt.far (h : ParAt w wr g s b d q tx op v) (j : Nat) (u : Value) : ScanAt (wr.setCell ⟨w.heap.size + 1, j, none⟩ u) g s b d ∧ (wr.setCell ⟨w.heap.size + 1, j, none⟩ u).heap[w.heap.size]? = some (.cells #[.int .i64 0, .bool false, .string ⟨#[]⟩, .string ⟨#[]⟩, .slice none 0 0] 103) ∧ Chg (fun j => j = g ∨ False) w (wr.setCell ⟨w.heap.size + 1, j, none⟩ u) :=
 ⟨row_far h.scan (fun e => Nat.lt_irrefl _ (Nat.lt_of_succ_lt (e ▸ h.old))) _, row_far h.res (by simp) _, h.chg.setCell (fun h => absurd h (by simp)) _⟩
theorem ParAt.text (h : ParAt w wr g s b d q tx op v) (tx' : ByteArray) : ParAt w (wr.setCell ⟨w.heap.size + 1, 2, none⟩ (.string tx')) g s b d q tx' op v :=
 ⟨(h.far _ _).1, (h.far _ _).2.1, row_set h.part _ _, (h.far _ _).2.2, h.old⟩
theorem ParAt.op' (h : ParAt w wr g s b d q tx op v) (op' : ByteArray) : ParAt w (wr.setCell ⟨w.heap.size + 1, 3, none⟩ (.string op')) g s b d q tx op' v :=
 ⟨(h.far _ _).1, (h.far _ _).2.1, row_set h.part _ _, (h.far _ _).2.2, h.old⟩
theorem ParAt.word (h : ParAt w wr g s b d q tx op v) (v' : Value) : ParAt w (wr.setCell ⟨w.heap.size + 1, 4, none⟩ v') g s b d q tx op v' :=
 ⟨(h.far _ _).1, (h.far _ _).2.1, row_set h.part _ _, (h.far _ _).2.2, h.old⟩
theorem ParAt.step (h : ParAt w wr g s b d q tx op v) {b' : Nat} (hA : ScanAt w' g s b' d) (hC : Chg (fun j => j = g ∨ False) wr w') : ParAt w w' g s b' d q tx op v :=
 ⟨hA, row_chg h.res hC (fun e => e.elim (fun e => Nat.lt_irrefl _ (e ▸ h.old)) id), row_chg h.part hC (fun e => e.elim (fun e => Nat.lt_irrefl _ (Nat.lt_of_succ_lt (e ▸ h.old))) id), h.chg.trans hC (fun _ h _ => h), h.old⟩
theorem ParAt.step0 (h : ParAt w wr g s b d q tx op v) (hC : Chg (fun _ => False) wr w') : ParAt w w' g s b d q tx op v := h.step (h.scan.chg hC (fun e => e)) (hC.mono (fun _ h _ => h.elim))
theorem ParAt.start (h : ScanAt w g s b d) (q : Bool) (b' d' : Nat) :
  ParAt w ((((w.setCell ⟨g, 2, none⟩ (.int .i64 d')).setCell ⟨g, 1, none⟩ (.int .i64 b')).alloc (.cells #[.int .i64 0, .bool false, .string ⟨#[]⟩, .string ⟨#[]⟩, .slice none 0 0] 103)).alloc (.cells #[.int .i64 2, .bool q, .string ⟨#[]⟩, .string ⟨#[]⟩, .slice none 0 0] 103)) g s b' d' q ⟨#[]⟩ ⟨#[]⟩ (.slice none 0 0) := by
 refine ⟨row_alloc (row_alloc ((h.deep' _).at' _) _) _, row_alloc ?_ _, ?_, ((((Chg.refl _ _).setCell (fun _ => .inl rfl) _).setCell (fun _ => .inl rfl) _).alloc _).alloc _, h.cells.2.2.2.2.2⟩
 ·have := row_new ((w.setCell ⟨g, 2, none⟩ (.int .i64 d')).setCell ⟨g, 1, none⟩ (.int .i64 b')) (.cells #[.int .i64 0, .bool false, .string ⟨#[]⟩, .string ⟨#[]⟩, .slice none 0 0] 103)
  simpa using this
 ·have := row_new (((w.setCell ⟨g, 2, none⟩ (.int .i64 d')).setCell ⟨g, 1, none⟩ (.int .i64 b')).alloc (.cells #[.int .i64 0, .bool false, .string ⟨#[]⟩, .string ⟨#[]⟩, .slice none 0 0] 103)) (.cells #[.int .i64 2, .bool q, .string ⟨#[]⟩, .string ⟨#[]⟩, .slice none 0 0] 103)
  simpa using this
end
theorem ScanAt.drewN {w : World} {g : Nat} {s : ByteArray} {a d : Int} (h : ScanAt w g s a d) (n : Nat) : ScanAt (w.drewN n) g s a d := h
section
variable (g : Nat) (s : ByteArray) (a : Nat) (d : Int) (w : World) (h : ScanAt w g s a d) (ha : a ≤ s.size) (hs : s.size ≤ 8192)
include h ha hs
theorem is_hash (b : Bool) (hb : isAt (s.data.toList.drop a) 0 35 = b) : Calls Tryz.prog 160 #[.pointer (some ⟨g, 0, none⟩), .int .i64 0, .int .u8 35] w fun e w' => e = .returned (.bool b) ∧ ∃ m, w' = w.drewN m :=
 (is_calls g s a d 0 35 w h ha hs (by decide)).mono fun _ _ hh => ⟨by rw [← hb]; exact hh.1, hh.2.imp fun _ e => e.symm⟩
theorem is_brace (b : Bool) (hb : isAt (s.data.toList.drop a) 0 125 = b) : Calls Tryz.prog 160 #[.pointer (some ⟨g, 0, none⟩), .int .i64 0, .int .u8 125] w fun e w' => e = .returned (.bool b) ∧ ∃ m, w' = w.drewN m :=
 (is_calls g s a d 0 125 w h ha hs (by decide)).mono fun _ _ hh => ⟨by rw [← hb]; exact hh.1, hh.2.imp fun _ e => e.symm⟩
theorem is_brace1 (b : Bool) (hb : isAt (s.data.toList.drop a) 1 125 = b) : Calls Tryz.prog 160 #[.pointer (some ⟨g, 0, none⟩), .int .i64 1, .int .u8 125] w fun e w' => e = .returned (.bool b) ∧ ∃ m, w' = w.drewN m :=
 (is_calls g s a d 1 125 w h ha hs (by decide)).mono fun _ _ hh => ⟨by rw [← hb]; exact hh.1, hh.2.imp fun _ e => e.symm⟩
end
theorem par_q (t : ByteArray) (k : Nat) (w : World) (ht : t.size ≤ 8192) (hk : parameter t.data.toList = k) : Calls Tryz.prog 161 #[.string t] w fun e w' => e = .returned (.int .i64 (k : Nat)) ∧ w' = w :=
 (parameter_calls t w (by omega)).mono fun _ _ hh => ⟨by rw [← hk]; exact hh.1, hh.2.symm⟩
set_option maxRecDepth 100000 in
set_option maxHeartbeats 400000 in
theorem param_len (n : Nat) (IH : WordSaid n) (w : World) (g : Nat) (s : ByteArray) (a d : Nat) (q : Bool) (h : ScanAt w g s a d) (ha : a + 2 ≤ s.size) (hs : s.size ≤ 8192) (hd : ¬ 16 < d + 1) (hlen : lenB (s.data.toList.drop (a + 2)) = true) :
  Calls Tryz.prog 144 #[.pointer (some ⟨g, 0, none⟩), .bool q] w (ScanPost w g s d (paramF (n + 1) d q (s.data.toList.drop (a + 2))) (fun _ => False) (PartVal w)) := by
 generalize hR : paramF (n + 1) d q (s.data.toList.drop (a + 2)) = R
 rw [paramF, if_neg hd, hlen, if_pos rfl, drop_len, List.drop_drop] at hR
 have HR := Lib.hid hR; clear hR
 rw [lenB_is, drop_len] at hlen
 simp only [Bool.and_eq_true, decide_eq_true_eq, Bool.not_eq_true'] at hlen
 obtain ⟨⟨i0, hlt⟩, i1⟩ := hlen
 obtain ⟨h0, h1, h2, f1, f2, hgl⟩ := h.cells
 have e1 : decide ((16 : Int) < (d : Int) + 1) = false := by simp; omega
 have kP := ParAt.start h q (a + 2) (d + 1)
 have e2 : (a : Int) + 2 + 1 < (s.size : Int) := by omega
 have e3 : (a : Int) + 3 < (s.size : Int) := by omega
 go_enter Tryz.func144, Tryz.ntmps144
 go_wp2
 simp only [Int.natCast_add, Int.cast_ofNat_Int] at kP
 revert kP
 generalize (((w.setCell ⟨g, 2, none⟩ (.int .i64 ((d : Int) + 1))).setCell ⟨g, 1, none⟩ (.int .i64 ((a : Int) + 2))).alloc (.cells #[.int .i64 0, .bool false, .string ⟨#[]⟩, .string ⟨#[]⟩, .slice none 0 0] 103)).alloc (.cells #[.int .i64 2, .bool q, .string ⟨#[]⟩, .string ⟨#[]⟩, .slice none 0 0] 103) = wr
 intro kP
 clear h0 h1 h2 f1 f2 hgl h
 have hA : ScanAt wr g s ((a + 2 : Nat) : Int) ((d : Int) + 1) := kP.scan
 obtain ⟨h0, h1, h2, f1, f2, hgl⟩ := kP.scan.cells
 have kcl := row_cells kP.part
 have kfr := row_free kP.part
 have kcl0 := row_cells kP.res
 have kfr0 := row_free kP.res
 have hsz := row_lt kP.part
 have hgo := kP.old
 have hn1 : ¬ w.heap.size + 1 = g := by omega
 have hn2 : ¬ g = w.heap.size + 1 := by omega
 have hn3 : ¬ w.heap.size = g := by omega
 have hn4 : ¬ g = w.heap.size := by omega
 have KP := Lib.hid kP; clear kP
 go_quiet ((go_at_call 160; first | with_reducible exact (is_hash g s (a + 2) _ _ (hA.drewN _) ha hs _ i0).quiet_of | with_reducible exact (is_brace1 g s (a + 2) _ _ (hA.drewN _) ha hs _ i1).quiet_of))
 go_wp2
 have kP : ParAt w (((wr.drewN nq).setCell ⟨w.heap.size + 1, 3, none⟩ (.string ⟨#[108, 101, 110]⟩)).setCell ⟨g, 1, none⟩ (.int .i64 ((a : Int) + 2 + 1))) g s (a + 3) (d + 1) q ⟨#[]⟩ ⟨#[108, 101, 110]⟩ (.slice none 0 0) := ((KP.out.drewN nq).op' ⟨#[108, 101, 110]⟩).at' (a + 3)
 clear h0 h1 h2 f1 f2 hgl kcl kfr kcl0 kfr0 hsz hgo hn1 hn2 hn3 hn4 KP
 revert kP
 generalize ((wr.drewN nq).setCell ⟨w.heap.size + 1, 3, none⟩ (.string ⟨#[108, 101, 110]⟩)).setCell ⟨g, 1, none⟩ (.int .i64 ((a : Int) + 2 + 1)) = wr2
 intro kP
 clear hA e2 e3 i0 i1 wr
 have hb0 : a + 3 ≤ s.size := by omega
 have hba : a + 2 ≤ a + 3 := by omega
 clear hlt
 revert kP HR hb0 hba
 rw [show a + 2 + 1 = a + 3 from rfl]
 generalize a + 3 = b
 intro HR kP hb0 hba
 obtain ⟨h0, h1, h2, f1, f2, hgl⟩ := kP.scan.cells
 have kcl := row_cells kP.part
 have kfr := row_free kP.part
 have kcl0 := row_cells kP.res
 have kfr0 := row_free kP.res
 have hsz := row_lt kP.part
 have hgo := kP.old
 have hn1 : ¬ w.heap.size + 1 = g := by omega
 have hn2 : ¬ g = w.heap.size + 1 := by omega
 have hn3 : ¬ w.heap.size = g := by omega
 have hn4 : ¬ g = w.heap.size := by omega
 have KP := Lib.hid kP; clear kP
 generalize hk : parameter (s.data.toList.drop b) = k at HR
 have hkle : b + k ≤ s.size := by have := parameter_le (s.data.toList.drop b); rw [hk, drop_len] at this; omega
 have HK := Lib.hid hk
 have HTP : Hid (parameter (s.extract b s.size).data.toList = k) := Lib.hid (by rw [Lib.extract_to_end]; exact hk)
 clear hk
 have p0 : (0 : Int) ≤ (b : Int) := by omega
 have p1 : (b : Int) ≤ (s.size : Int) := by omega
 have htz : (s.extract b s.size).size ≤ 8192 := by simp [ByteArray.size_extract]; omega
 go_quiet ((go_at_call 161; exact (par_q _ _ _ htz HTP.out).quiet_of_same))
 revert nq; intro nq1
 clear htz p1
 have hgood : (k == 0 || decide (k > 64)) = true ∨ (0 < k ∧ k ≤ 64) := by
  by_cases hh : 0 < k ∧ k ≤ 64
  ·exact .inr hh
  ·left; simp; omega
 rcases hgood with hbad | ⟨hk0, hk64⟩
 ·have HRE : Hid (R = .err (s.size - b) 61) := Lib.hid (by rw [← HR.out, paramG, HK.out, if_pos hbad, drop_len])
  clear HR
  cases hk0 : k == 0
  case true =>
   obtain rfl : k = 0 := by simpa using hk0
   go_wp2_with (go_at_call 110; refine (fail_calls _ _ _ _).mono ?_; rintro e w1 ⟨rfl, rfl⟩)
   refine ⟨rfl, ?_⟩
   rw [HRE.out]
   exact ⟨b, by omega, rfl, rfl, KP.out.chg.drewN _⟩
  case false =>
   have hk1 : ((k : Int) == 0) = false := by simp at hk0 ⊢; omega
   have hk64 : decide ((64 : Int) < (k : Int)) = true := by rw [hk0] at hbad; simp at hbad ⊢; omega
   clear hk0 hbad
   go_wp2_with (go_at_call 110; refine (fail_calls _ _ _ _).mono ?_; rintro e w1 ⟨rfl, rfl⟩)
   refine ⟨rfl, ?_⟩
   rw [HRE.out]
   exact ⟨b, by omega, rfl, rfl, KP.out.chg.drewN _⟩
 ·have HF : Hid (finish (s.size - a) q ((s.data.toList.drop b).take k) [108, 101, 110] (.ok [] (s.data.toList.drop (b + k))) = R) := Lib.hid (by
   rw [← HR.out, paramG, HK.out, if_neg (by simp; omega), show s.size - (a + 2) + 2 = s.size - a by omega]
   simp only [Bool.true_or, if_true, List.drop_drop])
  have hk1 : ((k : Int) == 0) = false := by simp; omega
  have hk2 : decide ((64 : Int) < (k : Int)) = false := by simp; omega
  have p1 : (b : Int) ≤ (b : Int) + (k : Int) := by omega
  have p3 : (0 : Int) ≤ (k : Int) := by omega
  have p4 : IntKind.i64.wrap ((b : Int) + (k : Int)) = (b : Int) + (k : Int) := IntWalk.i64_in _ (by omega)
  have p5 : ((b : Int) + (k : Int)).toNat = b + k := by omega
  have p2 : (b : Int) + (k : Int) ≤ (s.size : Int) := by omega
  have hxt := extract_bstr s b (b + k)
  rw [show b + k - b = k by omega] at hxt
  have HXT := Lib.hid hxt; clear hxt
  go_wp2
  refine still_tail2 16 (by kernel_rfl) (by kernel_rfl) ?_
  simp only [List.take_succ_cons, List.take_zero, List.drop_succ_cons, List.drop_zero]
  repeat still_step
  refine wpStill_nil ?_
  go_wp2
  revert HF
  generalize hO : ([108, 101, 110] : Bytes) = O
  intro HF
  have hOl : O.length ≤ 64 := by rw [← hO]; decide
  have HOB : Hid (⟨#[108, 101, 110]⟩ = bstr O) := Lib.hid (by rw [← hO]; rfl)
  clear hO
  have kP : ParAt w (((wr2.drewN (nq1 + 1)).setCell ⟨w.heap.size + 1, 2, none⟩ (.string (s.extract b (b + k)))).setCell ⟨g, 1, none⟩ (.int .i64 ((b : Int) + (k : Int)))) g s (b + k) (d + 1) q (s.extract b (b + k)) ⟨#[108, 101, 110]⟩ (.slice none 0 0) := ((KP.out.drewN (nq1 + 1)).text (s.extract b (b + k))).at' (b + k)
  clear h0 h1 h2 f1 f2 hgl kcl kfr kcl0 kfr0 hsz hgo hn1 hn2 hn3 hn4 KP
  revert kP
  generalize ((wr2.drewN (nq1 + 1)).setCell ⟨w.heap.size + 1, 2, none⟩ (.string (s.extract b (b + k)))).setCell ⟨g, 1, none⟩ (.int .i64 ((b : Int) + (k : Int))) = wr3
  intro kP
  clear p0 p1 p2 p3 p4 p5 hk1 hk2 HTP HK HR e1 wr2
  have hTl : ((s.data.toList.drop b).take k).length ≤ 64 := by simp; omega
  revert hTl
  revert kP
  revert HXT
  revert HF
  generalize s.extract b (b + k) = tx
  generalize (s.data.toList.drop b).take k = T
  obtain ⟨c, hc⟩ : ∃ c, c = b + k := ⟨_, rfl⟩
  rw [← hc] at hkle ⊢
  intro HF HXT kP hTl
  have hac : a + 3 ≤ c := by omega
  clear hc hba hb0 hk0 hk64
  obtain ⟨h0, h1, h2, f1, f2, hgl⟩ := kP.scan.cells
  have kcl := row_cells kP.part
  have kfr := row_free kP.part
  have kcl0 := row_cells kP.res
  have kfr0 := row_free kP.res
  have hsz := row_lt kP.part
  have hgo := kP.old
  have hn1 : ¬ w.heap.size + 1 = g := by omega
  have hn2 : ¬ g = w.heap.size + 1 := by omega
  have hn3 : ¬ w.heap.size = g := by omega
  have hn4 : ¬ g = w.heap.size := by omega
  have KP := Lib.hid kP; clear kP
  go_quiet (fail)
  generalize hl : ([] : List Part) = l at HF
  have HV : Rep wr3 (fun j => w.heap.size + 2 ≤ j) (.sl 103 5 (Part.ds l)) [.slice none 0 0] := by rw [← hl]; exact (Own.nil _ _ _ _).rep
  have hwl : Part.wts l ≤ 20000 := by rw [← hl]; simp [Part.wts]
  clear hl
  go_wp2
  have t0 : (0 : Int) ≤ (c : Int) := by omega
  go_quiet (fail)
  by_cases hend : c = s.size
  ·have t1 : ((c : Int) == (s.size : Int)) = true := by simp; omega
   go_wp2_with (go_at_call 110; refine (fail_calls _ _ _ _).mono ?_; rintro e w1 ⟨rfl, rfl⟩)
   refine ⟨rfl, ?_⟩
   rw [← HF.out, drop_end s c (by omega)]
   exact ⟨a, by omega, rfl, rfl, ((KP.out.chg.drewN _).mono (fun _ h _ => h))⟩
  ·have t1 : ((c : Int) == (s.size : Int)) = false := by simp; omega
   have hclt : c < s.size := by omega
   have hHB : isAt (s.data.toList.drop c) 0 125 = (s[c] == 125) := by rw [byte_drop s c hclt]; rfl
   have HFE : Hid (R = if s[c] == 125 then .ok (allB (.mk 2 q T O l) q) (s.data.toList.drop (c + 1)) else .err (s.size - c) 61) := Lib.hid (by
    rw [← HF.out, byte_drop s c hclt]
    simp only [finish, drop_len]
    split
    ·rfl
    ·rw [show s.size - (c + 1) + 1 = s.size - c by omega])
   clear HF
   have hA := KP.out.scan
   go_wp2_with fail
   cases hbr : s[c] == 125
   case false =>
    rw [hbr] at hHB
    refine Calls.mono (is_brace g s c _ _ (hA.drewN _) (by omega) hs _ hHB) ?_
    rintro e w' ⟨rfl, m, rfl⟩
    go_wp2_with (go_at_call 110; refine (fail_calls _ _ _ _).mono ?_; rintro e w1 ⟨rfl, rfl⟩)
    refine ⟨rfl, ?_⟩
    rw [HFE.out, hbr]
    exact ⟨c, by omega, rfl, rfl, KP.out.chg.drewN _⟩
   case true =>
    rw [hbr] at hHB
    refine Calls.mono (is_brace g s c _ _ (hA.drewN _) (by omega) hs _ hHB) ?_
    rintro e w' ⟨rfl, m, rfl⟩
    go_wp2_with fail
    have hrep : Rep wr3 (fun j => w.heap.size + 2 ≤ j) (Part.d (.mk 2 q T O l)) [.int .i64 2, .bool q, .string tx, .string ⟨#[108, 101, 110]⟩, (.slice none 0 0)] := part_rep.2 ⟨_, by rw [HXT.out, HOB.out], HV⟩
    refine (all_calls _ (fun j => w.heap.size + 2 ≤ j) (.mk 2 q T O l) q [.int .i64 2, .bool q, .string tx, .string ⟨#[108, 101, 110]⟩, (.slice none 0 0)] (by simp only [Part.wt]; omega) ?_).mono ?_
    ·exact hrep.stay ((((Chg.refl (· = g) _).drewN _).setCell (fun _ => rfl) _).setCell (fun _ => rfl) _) (fun j h e => by omega)
    ·rintro e w4 ⟨cs', rfl, hr', hC'⟩
     have kP4 : ParAt w w4 g s (c + 1) d q tx ⟨#[108, 101, 110]⟩ (.slice none 0 0) := ParAt.step0 (((KP.out.drewN _).at' (c + 1)).deep' d) hC'
     have hz : wr3.heap.size ≤ w4.heap.size := by simpa using hC'.size
     have HR1 : Hid (R = .ok (allB (.mk 2 q T O l) q) (s.data.toList.drop (c + 1))) := Lib.hid (by rw [HFE.out, if_pos hbr])
     clear HFE
     revert hr' HR1
     generalize allB (.mk 2 q T O l) q = pp
     obtain ⟨kd, qd, td, od, wd⟩ := pp
     intro hr' HR1
     obtain ⟨A', c', rfl, hwv, _, _⟩ := part_rep2 hr'
     have HREP := Lib.hid hr'; clear hr'
     clear h0 h1 h2 f1 f2 hgl kcl kfr kcl0 kfr0 KP hHB hbr hA
     have kcl0 := row_cells kP4.res
     have kfr0 := row_free kP4.res
     have hlt0 := row_lt kP4.res
     have KP := Lib.hid kP4; clear kP4
     go_wp2
     refine bodyPost_ret (v := .agg #[.int .i64 kd, .bool qd, .string (bstr td), .string (bstr od), .slice A' wd.length c']) (by simp [results, Tryz.results144, go_sem, kcl0]) rfl ?_
     rw [HR1.out]
     refine ⟨_, c + 1, rfl, hclt, rfl, ⟨_, rfl, ?_⟩, ?_, ?_⟩
     ·refine (HREP.out.stay (((((((Chg.refl (fun j => j = w.heap.size) _).setCell (fun _ => rfl) _).setCell (fun _ => rfl) _).setCell (fun _ => rfl) _).setCell (fun _ => rfl) _).setCell (fun _ => rfl) _)) (fun j hj e => ?_)).mono (fun j hj _ => ?_)
      ·simp at hj; omega
      ·simp at hj; omega
     ·exact row_far (row_far (row_far (row_far (row_far KP.out.scan hn4 _) hn4 _) hn4 _) hn4 _) hn4 _
     ·exact ((((KP.out.chg.setCell (fun h => absurd h (by simp)) _).setCell (fun h => absurd h (by simp)) _).setCell (fun h => absurd h (by simp)) _).setCell (fun h => absurd h (by simp)) _).setCell (fun h => absurd h (by simp)) _
set_option maxRecDepth 100000 in
set_option maxHeartbeats 4000000 in
theorem param_op1 (n : Nat) (IH : WordSaid n) (w : World) (g : Nat) (s : ByteArray) (a d : Nat) (q : Bool) (h : ScanAt w g s a d) (ha : a + 2 ≤ s.size) (hs : s.size ≤ 8192) (hd : ¬ 16 < d + 1) (hf : 4 * (s.size - a) ≤ n + 1) (i0 : isAt (s.data.toList.drop (a + 2)) 0 35 = false) :
  Calls Tryz.prog 144 #[.pointer (some ⟨g, 0, none⟩), .bool q] w (ScanPost w g s d (paramF (n + 1) d q (s.data.toList.drop (a + 2))) (fun _ => False) (PartVal w)) := by
 generalize hR : paramF (n + 1) d q (s.data.toList.drop (a + 2)) = R
 have hlen : lenB (s.data.toList.drop (a + 2)) = false := by rw [lenB_is, drop_len]; simp [i0]
 rw [paramF, if_neg hd, hlen, if_neg (by simp), drop_len, show s.size - (a + 2) + 2 = s.size - a by omega] at hR
 have HR := Lib.hid hR; clear hR hlen
 obtain ⟨h0, h1, h2, f1, f2, hgl⟩ := h.cells
 have e1 : decide ((16 : Int) < (d : Int) + 1) = false := by simp; omega
 have kP := ParAt.start h q (a + 2) (d + 1)
 skip
 go_enter Tryz.func144, Tryz.ntmps144
 go_wp2
 simp only [Int.natCast_add, Int.cast_ofNat_Int] at kP
 revert kP
 generalize (((w.setCell ⟨g, 2, none⟩ (.int .i64 ((d : Int) + 1))).setCell ⟨g, 1, none⟩ (.int .i64 ((a : Int) + 2))).alloc (.cells #[.int .i64 0, .bool false, .string ⟨#[]⟩, .string ⟨#[]⟩, .slice none 0 0] 103)).alloc (.cells #[.int .i64 2, .bool q, .string ⟨#[]⟩, .string ⟨#[]⟩, .slice none 0 0] 103) = wr
 intro kP
 clear h0 h1 h2 f1 f2 hgl h
 have hA : ScanAt wr g s ((a + 2 : Nat) : Int) ((d : Int) + 1) := kP.scan
 obtain ⟨h0, h1, h2, f1, f2, hgl⟩ := kP.scan.cells
 have kcl := row_cells kP.part
 have kfr := row_free kP.part
 have kcl0 := row_cells kP.res
 have kfr0 := row_free kP.res
 have hsz := row_lt kP.part
 have hgo := kP.old
 have hn1 : ¬ w.heap.size + 1 = g := by omega
 have hn2 : ¬ g = w.heap.size + 1 := by omega
 have hn3 : ¬ w.heap.size = g := by omega
 have hn4 : ¬ g = w.heap.size := by omega
 have KP := Lib.hid kP; clear kP
 go_quiet ((go_at_call 160; exact (is_hash g s (a + 2) _ _ (hA.drewN _) ha hs _ i0).quiet_of))
 go_wp2
 have kP : ParAt w (wr.drewN nq) g s (a + 2) (d + 1) q ⟨#[]⟩ ⟨#[]⟩ (.slice none 0 0) := KP.out.drewN nq
 clear h0 h1 h2 f1 f2 hgl kcl kfr kcl0 kfr0 hsz hgo hn1 hn2 hn3 hn4 KP
 revert kP
 generalize wr.drewN nq = wr2
 intro kP
 clear hA wr
 clear i0
 obtain ⟨b, hbe⟩ : ∃ b, b = a + 2 := ⟨_, rfl⟩
 rw [← hbe] at kP HR
 have hb0 : b ≤ s.size := by omega
 have hba : a + 2 ≤ b := by omega
 clear hbe
 obtain ⟨h0, h1, h2, f1, f2, hgl⟩ := kP.scan.cells
 have kcl := row_cells kP.part
 have kfr := row_free kP.part
 have kcl0 := row_cells kP.res
 have kfr0 := row_free kP.res
 have hsz := row_lt kP.part
 have hgo := kP.old
 have hn1 : ¬ w.heap.size + 1 = g := by omega
 have hn2 : ¬ g = w.heap.size + 1 := by omega
 have hn3 : ¬ w.heap.size = g := by omega
 have hn4 : ¬ g = w.heap.size := by omega
 have KP := Lib.hid kP; clear kP
 generalize hk : parameter (s.data.toList.drop b) = k at HR
 have hkle : b + k ≤ s.size := by have := parameter_le (s.data.toList.drop b); rw [hk, drop_len] at this; omega
 have HK := Lib.hid hk
 have HTP : Hid (parameter (s.extract b s.size).data.toList = k) := Lib.hid (by rw [Lib.extract_to_end]; exact hk)
 clear hk
 have p0 : (0 : Int) ≤ (b : Int) := by omega
 have p1 : (b : Int) ≤ (s.size : Int) := by omega
 have htz : (s.extract b s.size).size ≤ 8192 := by simp [ByteArray.size_extract]; omega
 go_quiet ((go_at_call 161; exact (par_q _ _ _ htz HTP.out).quiet_of_same))
 revert nq; intro nq1
 clear htz p1
 have hgood : (k == 0 || decide (k > 64)) = true ∨ (0 < k ∧ k ≤ 64) := by
  by_cases hh : 0 < k ∧ k ≤ 64
  ·exact .inr hh
  ·left; simp; omega
 rcases hgood with hbad | ⟨hk0, hk64⟩
 ·have HRE : Hid (R = .err (s.size - b) 61) := Lib.hid (by rw [← HR.out, paramG, HK.out, if_pos hbad, drop_len])
  clear HR
  cases hk0 : k == 0
  case true =>
   obtain rfl : k = 0 := by simpa using hk0
   go_wp2_with (go_at_call 110; refine (fail_calls _ _ _ _).mono ?_; rintro e w1 ⟨rfl, rfl⟩)
   refine ⟨rfl, ?_⟩
   rw [HRE.out]
   exact ⟨b, by omega, rfl, rfl, KP.out.chg.drewN _⟩
  case false =>
   have hk1 : ((k : Int) == 0) = false := by simp at hk0 ⊢; omega
   have hk64 : decide ((64 : Int) < (k : Int)) = true := by rw [hk0] at hbad; simp at hbad ⊢; omega
   clear hk0 hbad
   go_wp2_with (go_at_call 110; refine (fail_calls _ _ _ _).mono ?_; rintro e w1 ⟨rfl, rfl⟩)
   refine ⟨rfl, ?_⟩
   rw [HRE.out]
   exact ⟨b, by omega, rfl, rfl, KP.out.chg.drewN _⟩
 ·have HF : Hid (finish (s.size - a) q ((s.data.toList.drop b).take k) (opM (s.data.toList.drop (b + k))) (if opM (s.data.toList.drop (b + k)) == [] then .ok [] (s.data.toList.drop (b + k)) else wordF n (d + 1) true q [] (s.data.toList.drop (b + k + (opM (s.data.toList.drop (b + k))).length))) = R) := Lib.hid (by
   rw [← HR.out, paramG, HK.out, if_neg (show ¬ (k == 0 || decide (k > 64)) = true by simp; omega)]
   simp only [Bool.false_or, Bool.false_eq_true, if_false, List.drop_drop])
  have hk1 : ((k : Int) == 0) = false := by simp; omega
  have hk2 : decide ((64 : Int) < (k : Int)) = false := by simp; omega
  have p1 : (b : Int) ≤ (b : Int) + (k : Int) := by omega
  have p3 : (0 : Int) ≤ (k : Int) := by omega
  have p4 : IntKind.i64.wrap ((b : Int) + (k : Int)) = (b : Int) + (k : Int) := IntWalk.i64_in _ (by omega)
  have p5 : ((b : Int) + (k : Int)).toNat = b + k := by omega
  have p2 : (b : Int) + (k : Int) ≤ (s.size : Int) := by omega
  have hxt := extract_bstr s b (b + k)
  rw [show b + k - b = k by omega] at hxt
  have HXT := Lib.hid hxt; clear hxt
  go_wp2
  refine still_tail2 16 (by kernel_rfl) (by kernel_rfl) ?_
  simp only [List.take_succ_cons, List.take_zero, List.drop_succ_cons, List.drop_zero]
  repeat still_step
  refine wpStill_nil ?_
  go_wp2
  have kP : ParAt w (((wr2.drewN (nq1 + 1)).setCell ⟨w.heap.size + 1, 2, none⟩ (.string (s.extract b (b + k)))).setCell ⟨g, 1, none⟩ (.int .i64 ((b : Int) + (k : Int)))) g s (b + k) (d + 1) q (s.extract b (b + k)) ⟨#[]⟩ (.slice none 0 0) := ((KP.out.drewN (nq1 + 1)).text (s.extract b (b + k))).at' (b + k)
  clear h0 h1 h2 f1 f2 hgl kcl kfr kcl0 kfr0 hsz hgo hn1 hn2 hn3 hn4 KP
  revert kP
  generalize ((wr2.drewN (nq1 + 1)).setCell ⟨w.heap.size + 1, 2, none⟩ (.string (s.extract b (b + k)))).setCell ⟨g, 1, none⟩ (.int .i64 ((b : Int) + (k : Int))) = wr3
  intro kP
  clear p0 p1 p2 p3 p4 p5 hk1 hk2 HTP HK HR e1 wr2
  have hTl : ((s.data.toList.drop b).take k).length ≤ 64 := by simp; omega
  revert hTl
  revert kP
  revert HXT
  revert HF
  generalize s.extract b (b + k) = tx
  generalize (s.data.toList.drop b).take k = T
  obtain ⟨c, hc⟩ : ∃ c, c = b + k := ⟨_, rfl⟩
  rw [← hc] at hkle ⊢
  intro HF HXT kP hTl
  have hac : a + 3 ≤ c := by omega
  clear hc hba hb0 hk0 hk64
  obtain ⟨h0, h1, h2, f1, f2, hgl⟩ := kP.scan.cells
  have kcl := row_cells kP.part
  have kfr := row_free kP.part
  have kcl0 := row_cells kP.res
  have kfr0 := row_free kP.res
  have hsz := row_lt kP.part
  have hgo := kP.old
  have hn1 : ¬ w.heap.size + 1 = g := by omega
  have hn2 : ¬ g = w.heap.size + 1 := by omega
  have hn3 : ¬ w.heap.size = g := by omega
  have hn4 : ¬ g = w.heap.size := by omega
  have KP := Lib.hid kP; clear kP
  by_cases hcs : c < s.size
  ·have t1 : decide ((c : Int) < (s.size : Int)) = true := by simp; omega
   have t0 : (0 : Int) ≤ (c : Int) := by omega
   have t2 : (c : Int) ≤ (s.size : Int) := by omega
   go_quiet (fail)
   have hO : opM (s.extract c s.size).data.toList = opM (s.data.toList.drop c) := by rw [Lib.extract_to_end]
   have hOl : (opM (s.data.toList.drop c)).length ≤ s.size - c := by have := opL_prefix ops (s.data.toList.drop c); rwa [drop_len] at this
   revert HF hO hOl
   generalize opM (s.data.toList.drop c) = O
   intro HF hO hOl
   have HO := Lib.hid hO; clear hO
   go_wp2
   go_region_held3 (fun w' => w'.cell? ⟨g, 0, none⟩ = some (.string s) ∧ w'.cell? ⟨g, 1, none⟩ = some (.int .i64 c))
    (first
     | go_keep
     | (go_split_ands; exact ⟨hC1.cell (by assumption) (fun e => e), hC1.cell (by assumption) (fun e => e)⟩))
    (first | (go_at_call 162; refine (op_calls _ _).mono ?_; rintro e w1 ⟨rfl, hC1⟩; have kP5 := ParAt.step0 (KP.out.drewN _) hC1; have kcl5 := row_cells kP5.part; have kfr5 := row_free kP5.part; have KP5 := Lib.hid kP5; clear kP5))
   have hO' : opM (List.take (s.size - c) (s.data.toList.drop c)) = O := by rw [List.take_of_length_le (by rw [drop_len]; omega), ← HO.out, Lib.extract_to_end]
   simp only [hO']
   have kP : ParAt w (w1.setCell ⟨w.heap.size + 1, 3, none⟩ (.string (bstr O))) g s (c) (d + 1) q tx (bstr O) (.slice none 0 0) := ParAt.op' KP5.out (bstr O)
   clear h0 h1 h2 f1 f2 hgl kcl kfr kcl0 kfr0 hsz hgo hn1 hn2 hn3 hn4 KP
   revert kP
   generalize w1.setCell ⟨w.heap.size + 1, 3, none⟩ (.string (bstr O)) = wr4
   intro kP
   clear kcl5 kfr5 KP5 hC1 wr3 HO hO' t1 t2
   have hos : (bstr O).size = O.length := by rw [← len_data, bstr_toList]
   revert hos
   revert kP
   generalize hob : bstr O = ob
   intro kP hos
   have HOB := Lib.hid hob.symm; clear hob
   obtain ⟨h0, h1, h2, f1, f2, hgl⟩ := kP.scan.cells
   have kcl := row_cells kP.part
   have kfr := row_free kP.part
   have kcl0 := row_cells kP.res
   have kfr0 := row_free kP.res
   have hsz := row_lt kP.part
   have hgo := kP.old
   have hn1 : ¬ w.heap.size + 1 = g := by omega
   have hn2 : ¬ g = w.heap.size + 1 := by omega
   have hn3 : ¬ w.heap.size = g := by omega
   have hn4 : ¬ g = w.heap.size := by omega
   have KP := Lib.hid kP; clear kP
   have t1 : IntKind.i64.wrap ((c : Int) + (ob.size : Int)) = (c : Int) + (ob.size : Int) := IntWalk.i64_in _ (by omega)
   go_wp2
   refine still_tail2 10 (by kernel_rfl) (by kernel_rfl) ?_
   simp only [List.take_succ_cons, List.take_zero, List.drop_succ_cons, List.drop_zero]
   repeat still_step
   refine wpStill_nil ?_
   by_cases hO : O = []
   ·have hoe : ob.toList.isEmpty = true := by rw [ByteArray.toList_eq, HOB.out, bstr_toList, hO]; rfl
    obtain ⟨l, hl, HF1⟩ : ∃ l, l = ([] : List Part) ∧ Hid (finish (s.size - a) q T O (.ok l (s.data.toList.drop (c + O.length))) = R) := ⟨[], rfl, Lib.hid (by rw [← HF.out, if_pos (by rw [hO]; rfl), hO]; rfl)⟩
    clear HF
    have HF := HF1; clear HF1
    have hcl2 : c + O.length ≤ s.size := by omega
    clear hO
    go_wp2
    have kP : ParAt w ((wr4.setCell ⟨g, 1, none⟩ (.int .i64 ((c : Int) + (O.length : Int)))).drew) g s (c + O.length) (d + 1) q tx ob (.slice none 0 0) := (KP.out.at' (c + O.length)).drewN 1
    clear h0 h1 h2 f1 f2 hgl kcl kfr kcl0 kfr0 hsz hgo hn1 hn2 hn3 hn4 KP
    revert kP
    generalize (wr4.setCell ⟨g, 1, none⟩ (.int .i64 ((c : Int) + (O.length : Int)))).drew = wr5
    intro kP
    have hac2 : a + 3 ≤ c + O.length := by omega
    clear hoe t0 t1 hcs hac hkle
    revert hac2; revert hcl2; revert kP; revert HF
    generalize c + O.length = c2
    intro HF kP hcl2 hac2
    have HV : Rep wr5 (fun j => w.heap.size + 2 ≤ j) (.sl 103 5 (Part.ds l)) [.slice none 0 0] := by rw [hl]; exact (Own.nil _ _ _ _).rep
    have hwl : Part.wts l ≤ 20000 := by rw [hl]; simp [Part.wts]
    clear hl
    obtain ⟨h0, h1, h2, f1, f2, hgl⟩ := kP.scan.cells
    have kcl := row_cells kP.part
    have kfr := row_free kP.part
    have kcl0 := row_cells kP.res
    have kfr0 := row_free kP.res
    have hsz := row_lt kP.part
    have hgo := kP.old
    have hn1 : ¬ w.heap.size + 1 = g := by omega
    have hn2 : ¬ g = w.heap.size + 1 := by omega
    have hn3 : ¬ w.heap.size = g := by omega
    have hn4 : ¬ g = w.heap.size := by omega
    have KP := Lib.hid kP; clear kP
    have t0 : (0 : Int) ≤ (c2 : Int) := by omega
    go_quiet (fail)
    by_cases hend : c2 = s.size
    ·have t1 : ((c2 : Int) == (s.size : Int)) = true := by simp; omega
     go_wp2_with (go_at_call 110; refine (fail_calls _ _ _ _).mono ?_; rintro e w1 ⟨rfl, rfl⟩)
     refine ⟨rfl, ?_⟩
     rw [← HF.out, drop_end s c2 (by omega)]
     exact ⟨a, by omega, rfl, rfl, ((KP.out.chg.drewN _).mono (fun _ h _ => h))⟩
    ·have t1 : ((c2 : Int) == (s.size : Int)) = false := by simp; omega
     have hclt : c2 < s.size := by omega
     have hHB : isAt (s.data.toList.drop c2) 0 125 = (s[c2] == 125) := by rw [byte_drop s c2 hclt]; rfl
     have HFE : Hid (R = if s[c2] == 125 then .ok (allB (.mk 2 q T O l) q) (s.data.toList.drop (c2 + 1)) else .err (s.size - c2) 61) := Lib.hid (by
      rw [← HF.out, byte_drop s c2 hclt]
      simp only [finish, drop_len]
      split
      ·rfl
      ·rw [show s.size - (c2 + 1) + 1 = s.size - c2 by omega])
     clear HF
     have hA := KP.out.scan
     go_wp2_with fail
     cases hbr : s[c2] == 125
     case false =>
      rw [hbr] at hHB
      refine Calls.mono (is_brace g s c2 _ _ (hA.drewN _) (by omega) hs _ hHB) ?_
      rintro e w' ⟨rfl, m, rfl⟩
      go_wp2_with (go_at_call 110; refine (fail_calls _ _ _ _).mono ?_; rintro e w1 ⟨rfl, rfl⟩)
      refine ⟨rfl, ?_⟩
      rw [HFE.out, hbr]
      exact ⟨c2, by omega, rfl, rfl, KP.out.chg.drewN _⟩
     case true =>
      rw [hbr] at hHB
      refine Calls.mono (is_brace g s c2 _ _ (hA.drewN _) (by omega) hs _ hHB) ?_
      rintro e w' ⟨rfl, m, rfl⟩
      go_wp2_with fail
      have hrep : Rep wr5 (fun j => w.heap.size + 2 ≤ j) (Part.d (.mk 2 q T O l)) [.int .i64 2, .bool q, .string tx, .string ob, (.slice none 0 0)] := part_rep.2 ⟨_, by rw [HXT.out, HOB.out], HV⟩
      refine (all_calls _ (fun j => w.heap.size + 2 ≤ j) (.mk 2 q T O l) q [.int .i64 2, .bool q, .string tx, .string ob, (.slice none 0 0)] (by simp only [Part.wt]; omega) ?_).mono ?_
      ·exact hrep.stay ((((Chg.refl (· = g) _).drewN _).setCell (fun _ => rfl) _).setCell (fun _ => rfl) _) (fun j h e => by omega)
      ·rintro e w4 ⟨cs', rfl, hr', hC'⟩
       have kP4 : ParAt w w4 g s (c2 + 1) d q tx ob (.slice none 0 0) := ParAt.step0 (((KP.out.drewN _).at' (c2 + 1)).deep' d) hC'
       have hz : wr5.heap.size ≤ w4.heap.size := by simpa using hC'.size
       have HR1 : Hid (R = .ok (allB (.mk 2 q T O l) q) (s.data.toList.drop (c2 + 1))) := Lib.hid (by rw [HFE.out, if_pos hbr])
       clear HFE
       revert hr' HR1
       generalize allB (.mk 2 q T O l) q = pp
       obtain ⟨kd, qd, td, od, wd⟩ := pp
       intro hr' HR1
       obtain ⟨A', c', rfl, hwv, _, _⟩ := part_rep2 hr'
       have HREP := Lib.hid hr'; clear hr'
       clear h0 h1 h2 f1 f2 hgl kcl kfr kcl0 kfr0 KP hHB hbr hA
       have kcl0 := row_cells kP4.res
       have kfr0 := row_free kP4.res
       have hlt0 := row_lt kP4.res
       have KP := Lib.hid kP4; clear kP4
       go_wp2
       refine bodyPost_ret (v := .agg #[.int .i64 kd, .bool qd, .string (bstr td), .string (bstr od), .slice A' wd.length c']) (by simp [results, Tryz.results144, go_sem, kcl0]) rfl ?_
       rw [HR1.out]
       refine ⟨_, c2 + 1, rfl, hclt, rfl, ⟨_, rfl, ?_⟩, ?_, ?_⟩
       ·refine (HREP.out.stay (((((((Chg.refl (fun j => j = w.heap.size) _).setCell (fun _ => rfl) _).setCell (fun _ => rfl) _).setCell (fun _ => rfl) _).setCell (fun _ => rfl) _).setCell (fun _ => rfl) _)) (fun j hj e => ?_)).mono (fun j hj _ => ?_)
        ·simp at hj; omega
        ·simp at hj; omega
       ·exact row_far (row_far (row_far (row_far (row_far KP.out.scan hn4 _) hn4 _) hn4 _) hn4 _) hn4 _
       ·exact ((((KP.out.chg.setCell (fun h => absurd h (by simp)) _).setCell (fun h => absurd h (by simp)) _).setCell (fun h => absurd h (by simp)) _).setCell (fun h => absurd h (by simp)) _).setCell (fun h => absurd h (by simp)) _
   ·have hoe : ob.toList.isEmpty = false := by
     rw [ByteArray.toList_eq, HOB.out, bstr_toList]
     cases O with
     | nil => exact absurd rfl hO
     | cons x y => rfl
    have hOp : 0 < O.length := by
     cases O with
     | nil => exact absurd rfl hO
     | cons x y => simp
    have HF1 : Hid (∀ RW, wordF n (d + 1) true q [] (s.data.toList.drop (c + O.length)) = RW → finish (s.size - a) q T O RW = R) := Lib.hid (by
     rintro RW rfl
     rw [← HF.out, if_neg (by simpa using hO)])
    clear HF
    have HL := Lib.hid ((scan_len n).word (d + 1) true q [] (s.data.toList.drop (c + O.length)))
    go_wp2_with fail
    have hA4 : ScanAt ((wr4.setCell ⟨g, 1, none⟩ (.int .i64 ((c : Int) + (O.length : Int)))).drew) g s ((c + O.length : Nat) : Int) ((d + 1 : Nat) : Int) := (KP.out.at' (c + O.length)).scan
    refine (IH _ g s (c + O.length) (d + 1) true q hA4 (by omega) hs (by omega) (by omega)).mono ?_
    intro e w5 hpost
    generalize hRW : wordF n (d + 1) true q [] (s.data.toList.drop (c + O.length)) = RW at hpost HL
    have HF2 := Lib.hid (HF1.out RW hRW); clear HF1 hRW
    cases RW with
    | err left code =>
     obtain ⟨k5, hk5, hl5, rfl, hC5⟩ := hpost
     refine ⟨rfl, ?_⟩
     rw [← HF2.out]
     exact ⟨k5, hk5, hl5, rfl, ((KP.out.at' (c + O.length)).drewN 1).chg.trans hC5 (fun _ h _ => h)⟩
    | ok l rest =>
     obtain ⟨v5, k5, rfl, hk5, rfl, hO5, hA5, hC5⟩ := hpost
     have hL := HL.out _ _ rfl
     rw [drop_len, drop_len] at hL
     have hwl : Part.wts l ≤ 20000 := by simp only [Part.wts] at hL; omega
     have hac5 : a + 3 ≤ k5 := by omega
     have kP := ((KP.out.at' (c + O.length)).drewN 1).step hA5 hC5
     obtain ⟨A5, c5, rfl, _, hm5⟩ := Own.form hO5
     have hsz' : w.heap.size + 1 < (wr4.setCell ⟨g, 1, none⟩ (.int .i64 ((c : Int) + (O.length : Int)))).drew.heap.size := by simp; omega
     have HV5 : Rep w5 (fun j => w.heap.size + 2 ≤ j) (.sl 103 5 (Part.ds l)) [.slice A5 (Part.ds l).length c5] := (Own.rep hO5).mono (fun j h _ => h.elim (fun h => h.elim) (fun h => by omega))
     have HF := Lib.hid HF2.out
     clear HF2 HL hL hO5 hA5 hC5 hsz' hA4 hoe hOp hO t0 t1 hcs hac hkle KP h0 h1 h2 f1 f2 hgl kcl kfr kcl0 kfr0 hsz hgo hn1 hn2 hn3 hn4
     obtain ⟨h0, h1, h2, f1, f2, hgl⟩ := kP.scan.cells
     have kcl := row_cells kP.part
     have kfr := row_free kP.part
     have kcl0 := row_cells kP.res
     have kfr0 := row_free kP.res
     have hsz := row_lt kP.part
     have hgo := kP.old
     have hn1 : ¬ w.heap.size + 1 = g := by omega
     have hn2 : ¬ g = w.heap.size + 1 := by omega
     have hn3 : ¬ w.heap.size = g := by omega
     have hn4 : ¬ g = w.heap.size := by omega
     have KP := Lib.hid kP; clear kP
     go_wp2
     have HV6 := HV5.stay ((Chg.refl (fun j => j = w.heap.size + 1) _).setCell (p := ⟨w.heap.size + 1, 4, none⟩) (fun _ => rfl) (.slice A5 (Part.ds l).length c5)) (fun j h e => by omega)
     clear HV5
     revert HV6
     have kP : ParAt w (w5.setCell ⟨w.heap.size + 1, 4, none⟩ (.slice A5 (Part.ds l).length c5)) g s (k5) (d + 1) q tx ob (.slice A5 (Part.ds l).length c5) := KP.out.word (.slice A5 (Part.ds l).length c5)
     clear h0 h1 h2 f1 f2 hgl kcl kfr kcl0 kfr0 hsz hgo hn1 hn2 hn3 hn4 KP
     revert kP
     generalize w5.setCell ⟨w.heap.size + 1, 4, none⟩ (.slice A5 (Part.ds l).length c5) = wr6
     intro kP
     intro HV
     obtain ⟨h0, h1, h2, f1, f2, hgl⟩ := kP.scan.cells
     have kcl := row_cells kP.part
     have kfr := row_free kP.part
     have kcl0 := row_cells kP.res
     have kfr0 := row_free kP.res
     have hsz := row_lt kP.part
     have hgo := kP.old
     have hn1 : ¬ w.heap.size + 1 = g := by omega
     have hn2 : ¬ g = w.heap.size + 1 := by omega
     have hn3 : ¬ w.heap.size = g := by omega
     have hn4 : ¬ g = w.heap.size := by omega
     have KP := Lib.hid kP; clear kP
     have t0 : (0 : Int) ≤ (k5 : Int) := by omega
     go_quiet (fail)
     by_cases hend : k5 = s.size
     ·have t1 : ((k5 : Int) == (s.size : Int)) = true := by simp; omega
      go_wp2_with (go_at_call 110; refine (fail_calls _ _ _ _).mono ?_; rintro e w1 ⟨rfl, rfl⟩)
      refine ⟨rfl, ?_⟩
      rw [← HF.out, drop_end s k5 (by omega)]
      exact ⟨a, by omega, rfl, rfl, ((KP.out.chg.drewN _).mono (fun _ h _ => h))⟩
     ·have t1 : ((k5 : Int) == (s.size : Int)) = false := by simp; omega
      have hclt : k5 < s.size := by omega
      have hHB : isAt (s.data.toList.drop k5) 0 125 = (s[k5] == 125) := by rw [byte_drop s k5 hclt]; rfl
      have HFE : Hid (R = if s[k5] == 125 then .ok (allB (.mk 2 q T O l) q) (s.data.toList.drop (k5 + 1)) else .err (s.size - k5) 61) := Lib.hid (by
       rw [← HF.out, byte_drop s k5 hclt]
       simp only [finish, drop_len]
       split
       ·rfl
       ·rw [show s.size - (k5 + 1) + 1 = s.size - k5 by omega])
      clear HF
      have hA := KP.out.scan
      go_wp2_with fail
      cases hbr : s[k5] == 125
      case false =>
       rw [hbr] at hHB
       refine Calls.mono (is_brace g s k5 _ _ (hA.drewN _) (by omega) hs _ hHB) ?_
       rintro e w' ⟨rfl, m, rfl⟩
       go_wp2_with (go_at_call 110; refine (fail_calls _ _ _ _).mono ?_; rintro e w1 ⟨rfl, rfl⟩)
       refine ⟨rfl, ?_⟩
       rw [HFE.out, hbr]
       exact ⟨k5, by omega, rfl, rfl, KP.out.chg.drewN _⟩
      case true =>
       rw [hbr] at hHB
       refine Calls.mono (is_brace g s k5 _ _ (hA.drewN _) (by omega) hs _ hHB) ?_
       rintro e w' ⟨rfl, m, rfl⟩
       go_wp2_with fail
       have hrep : Rep wr6 (fun j => w.heap.size + 2 ≤ j) (Part.d (.mk 2 q T O l)) [.int .i64 2, .bool q, .string tx, .string ob, (.slice A5 (Part.ds l).length c5)] := part_rep.2 ⟨_, by rw [HXT.out, HOB.out], HV⟩
       refine (all_calls _ (fun j => w.heap.size + 2 ≤ j) (.mk 2 q T O l) q [.int .i64 2, .bool q, .string tx, .string ob, (.slice A5 (Part.ds l).length c5)] (by simp only [Part.wt]; omega) ?_).mono ?_
       ·exact hrep.stay ((((Chg.refl (· = g) _).drewN _).setCell (fun _ => rfl) _).setCell (fun _ => rfl) _) (fun j h e => by omega)
       ·rintro e w4 ⟨cs', rfl, hr', hC'⟩
        have kP4 : ParAt w w4 g s (k5 + 1) d q tx ob (.slice A5 (Part.ds l).length c5) := ParAt.step0 (((KP.out.drewN _).at' (k5 + 1)).deep' d) hC'
        have hz : wr6.heap.size ≤ w4.heap.size := by simpa using hC'.size
        have HR1 : Hid (R = .ok (allB (.mk 2 q T O l) q) (s.data.toList.drop (k5 + 1))) := Lib.hid (by rw [HFE.out, if_pos hbr])
        clear HFE
        revert hr' HR1
        generalize allB (.mk 2 q T O l) q = pp
        obtain ⟨kd, qd, td, od, wd⟩ := pp
        intro hr' HR1
        obtain ⟨A', c', rfl, hwv, _, _⟩ := part_rep2 hr'
        have HREP := Lib.hid hr'; clear hr'
        clear h0 h1 h2 f1 f2 hgl kcl kfr kcl0 kfr0 KP hHB hbr hA
        have kcl0 := row_cells kP4.res
        have kfr0 := row_free kP4.res
        have hlt0 := row_lt kP4.res
        have KP := Lib.hid kP4; clear kP4
        go_wp2
        refine bodyPost_ret (v := .agg #[.int .i64 kd, .bool qd, .string (bstr td), .string (bstr od), .slice A' wd.length c']) (by simp [results, Tryz.results144, go_sem, kcl0]) rfl ?_
        rw [HR1.out]
        refine ⟨_, k5 + 1, rfl, hclt, rfl, ⟨_, rfl, ?_⟩, ?_, ?_⟩
        ·refine (HREP.out.stay (((((((Chg.refl (fun j => j = w.heap.size) _).setCell (fun _ => rfl) _).setCell (fun _ => rfl) _).setCell (fun _ => rfl) _).setCell (fun _ => rfl) _).setCell (fun _ => rfl) _)) (fun j hj e => ?_)).mono (fun j hj _ => ?_)
         ·simp at hj; omega
         ·simp at hj; omega
        ·exact row_far (row_far (row_far (row_far (row_far KP.out.scan hn4 _) hn4 _) hn4 _) hn4 _) hn4 _
        ·exact ((((KP.out.chg.setCell (fun h => absurd h (by simp)) _).setCell (fun h => absurd h (by simp)) _).setCell (fun h => absurd h (by simp)) _).setCell (fun h => absurd h (by simp)) _).setCell (fun h => absurd h (by simp)) _
  ·have t1 : decide ((c : Int) < (s.size : Int)) = false := by simp; omega
   obtain ⟨O, l, hO, hl, HF1⟩ : ∃ O l, O = ([] : Bytes) ∧ l = ([] : List Part) ∧ Hid (finish (s.size - a) q T O (.ok l (s.data.toList.drop c)) = R) := ⟨[], [], rfl, rfl, Lib.hid (by rw [← HF.out, drop_end s c hcs]; rfl)⟩
   clear HF
   have HF := HF1; clear HF1
   have hOl : O.length ≤ 64 := by rw [hO]; decide
   have HOB : Hid (⟨#[]⟩ = bstr O) := Lib.hid (by rw [hO]; rfl)
   clear hO
   have HV : Rep wr3 (fun j => w.heap.size + 2 ≤ j) (.sl 103 5 (Part.ds l)) [.slice none 0 0] := by rw [hl]; exact (Own.nil _ _ _ _).rep
   have hwl : Part.wts l ≤ 20000 := by rw [hl]; simp [Part.wts]
   clear hl
   go_quiet (fail)
   go_wp2
   have t0 : (0 : Int) ≤ (c : Int) := by omega
   go_quiet (fail)
   have t1 : ((c : Int) == (s.size : Int)) = true := by simp; omega
   go_wp2_with (go_at_call 110; refine (fail_calls _ _ _ _).mono ?_; rintro e w1 ⟨rfl, rfl⟩)
   refine ⟨rfl, ?_⟩
   rw [← HF.out, drop_end s c (by omega)]
   exact ⟨a, by omega, rfl, rfl, ((KP.out.chg.drewN _).mono (fun _ h _ => h))⟩
set_option maxRecDepth 100000 in
set_option maxHeartbeats 4000000 in
theorem param_op2 (n : Nat) (IH : WordSaid n) (w : World) (g : Nat) (s : ByteArray) (a d : Nat) (q : Bool) (h : ScanAt w g s a d) (ha : a + 2 ≤ s.size) (hs : s.size ≤ 8192) (hd : ¬ 16 < d + 1) (hf : 4 * (s.size - a) ≤ n + 1) (i0 : isAt (s.data.toList.drop (a + 2)) 0 35 = true) (hnl : ¬ a + 3 < s.size) :
  Calls Tryz.prog 144 #[.pointer (some ⟨g, 0, none⟩), .bool q] w (ScanPost w g s d (paramF (n + 1) d q (s.data.toList.drop (a + 2))) (fun _ => False) (PartVal w)) := by
 generalize hR : paramF (n + 1) d q (s.data.toList.drop (a + 2)) = R
 have hlen : lenB (s.data.toList.drop (a + 2)) = false := by rw [lenB_is, drop_len]; simp [i0]; omega
 rw [paramF, if_neg hd, hlen, if_neg (by simp), drop_len, show s.size - (a + 2) + 2 = s.size - a by omega] at hR
 have HR := Lib.hid hR; clear hR hlen
 obtain ⟨h0, h1, h2, f1, f2, hgl⟩ := h.cells
 have e1 : decide ((16 : Int) < (d : Int) + 1) = false := by simp; omega
 have kP := ParAt.start h q (a + 2) (d + 1)
 have i2 : decide ((a : Int) + 2 + 1 < (s.size : Int)) = false := by simp; omega
 go_enter Tryz.func144, Tryz.ntmps144
 go_wp2
 simp only [Int.natCast_add, Int.cast_ofNat_Int] at kP
 revert kP
 generalize (((w.setCell ⟨g, 2, none⟩ (.int .i64 ((d : Int) + 1))).setCell ⟨g, 1, none⟩ (.int .i64 ((a : Int) + 2))).alloc (.cells #[.int .i64 0, .bool false, .string ⟨#[]⟩, .string ⟨#[]⟩, .slice none 0 0] 103)).alloc (.cells #[.int .i64 2, .bool q, .string ⟨#[]⟩, .string ⟨#[]⟩, .slice none 0 0] 103) = wr
 intro kP
 clear h0 h1 h2 f1 f2 hgl h
 have hA : ScanAt wr g s ((a + 2 : Nat) : Int) ((d : Int) + 1) := kP.scan
 obtain ⟨h0, h1, h2, f1, f2, hgl⟩ := kP.scan.cells
 have kcl := row_cells kP.part
 have kfr := row_free kP.part
 have kcl0 := row_cells kP.res
 have kfr0 := row_free kP.res
 have hsz := row_lt kP.part
 have hgo := kP.old
 have hn1 : ¬ w.heap.size + 1 = g := by omega
 have hn2 : ¬ g = w.heap.size + 1 := by omega
 have hn3 : ¬ w.heap.size = g := by omega
 have hn4 : ¬ g = w.heap.size := by omega
 have KP := Lib.hid kP; clear kP
 go_quiet ((go_at_call 160; exact (is_hash g s (a + 2) _ _ (hA.drewN _) ha hs _ i0).quiet_of))
 go_wp2
 have kP : ParAt w (wr.drewN nq) g s (a + 2) (d + 1) q ⟨#[]⟩ ⟨#[]⟩ (.slice none 0 0) := KP.out.drewN nq
 clear h0 h1 h2 f1 f2 hgl kcl kfr kcl0 kfr0 hsz hgo hn1 hn2 hn3 hn4 KP
 revert kP
 generalize wr.drewN nq = wr2
 intro kP
 clear hA wr
 clear i0 i2 hnl
 obtain ⟨b, hbe⟩ : ∃ b, b = a + 2 := ⟨_, rfl⟩
 rw [← hbe] at kP HR
 have hb0 : b ≤ s.size := by omega
 have hba : a + 2 ≤ b := by omega
 clear hbe
 obtain ⟨h0, h1, h2, f1, f2, hgl⟩ := kP.scan.cells
 have kcl := row_cells kP.part
 have kfr := row_free kP.part
 have kcl0 := row_cells kP.res
 have kfr0 := row_free kP.res
 have hsz := row_lt kP.part
 have hgo := kP.old
 have hn1 : ¬ w.heap.size + 1 = g := by omega
 have hn2 : ¬ g = w.heap.size + 1 := by omega
 have hn3 : ¬ w.heap.size = g := by omega
 have hn4 : ¬ g = w.heap.size := by omega
 have KP := Lib.hid kP; clear kP
 generalize hk : parameter (s.data.toList.drop b) = k at HR
 have hkle : b + k ≤ s.size := by have := parameter_le (s.data.toList.drop b); rw [hk, drop_len] at this; omega
 have HK := Lib.hid hk
 have HTP : Hid (parameter (s.extract b s.size).data.toList = k) := Lib.hid (by rw [Lib.extract_to_end]; exact hk)
 clear hk
 have p0 : (0 : Int) ≤ (b : Int) := by omega
 have p1 : (b : Int) ≤ (s.size : Int) := by omega
 have htz : (s.extract b s.size).size ≤ 8192 := by simp [ByteArray.size_extract]; omega
 go_quiet ((go_at_call 161; exact (par_q _ _ _ htz HTP.out).quiet_of_same))
 revert nq; intro nq1
 clear htz p1
 have hgood : (k == 0 || decide (k > 64)) = true ∨ (0 < k ∧ k ≤ 64) := by
  by_cases hh : 0 < k ∧ k ≤ 64
  ·exact .inr hh
  ·left; simp; omega
 rcases hgood with hbad | ⟨hk0, hk64⟩
 ·have HRE : Hid (R = .err (s.size - b) 61) := Lib.hid (by rw [← HR.out, paramG, HK.out, if_pos hbad, drop_len])
  clear HR
  cases hk0 : k == 0
  case true =>
   obtain rfl : k = 0 := by simpa using hk0
   go_wp2_with (go_at_call 110; refine (fail_calls _ _ _ _).mono ?_; rintro e w1 ⟨rfl, rfl⟩)
   refine ⟨rfl, ?_⟩
   rw [HRE.out]
   exact ⟨b, by omega, rfl, rfl, KP.out.chg.drewN _⟩
  case false =>
   have hk1 : ((k : Int) == 0) = false := by simp at hk0 ⊢; omega
   have hk64 : decide ((64 : Int) < (k : Int)) = true := by rw [hk0] at hbad; simp at hbad ⊢; omega
   clear hk0 hbad
   go_wp2_with (go_at_call 110; refine (fail_calls _ _ _ _).mono ?_; rintro e w1 ⟨rfl, rfl⟩)
   refine ⟨rfl, ?_⟩
   rw [HRE.out]
   exact ⟨b, by omega, rfl, rfl, KP.out.chg.drewN _⟩
 ·have HF : Hid (finish (s.size - a) q ((s.data.toList.drop b).take k) (opM (s.data.toList.drop (b + k))) (if opM (s.data.toList.drop (b + k)) == [] then .ok [] (s.data.toList.drop (b + k)) else wordF n (d + 1) true q [] (s.data.toList.drop (b + k + (opM (s.data.toList.drop (b + k))).length))) = R) := Lib.hid (by
   rw [← HR.out, paramG, HK.out, if_neg (show ¬ (k == 0 || decide (k > 64)) = true by simp; omega)]
   simp only [Bool.false_or, Bool.false_eq_true, if_false, List.drop_drop])
  have hk1 : ((k : Int) == 0) = false := by simp; omega
  have hk2 : decide ((64 : Int) < (k : Int)) = false := by simp; omega
  have p1 : (b : Int) ≤ (b : Int) + (k : Int) := by omega
  have p3 : (0 : Int) ≤ (k : Int) := by omega
  have p4 : IntKind.i64.wrap ((b : Int) + (k : Int)) = (b : Int) + (k : Int) := IntWalk.i64_in _ (by omega)
  have p5 : ((b : Int) + (k : Int)).toNat = b + k := by omega
  have p2 : (b : Int) + (k : Int) ≤ (s.size : Int) := by omega
  have hxt := extract_bstr s b (b + k)
  rw [show b + k - b = k by omega] at hxt
  have HXT := Lib.hid hxt; clear hxt
  go_wp2
  refine still_tail2 16 (by kernel_rfl) (by kernel_rfl) ?_
  simp only [List.take_succ_cons, List.take_zero, List.drop_succ_cons, List.drop_zero]
  repeat still_step
  refine wpStill_nil ?_
  go_wp2
  have kP : ParAt w (((wr2.drewN (nq1 + 1)).setCell ⟨w.heap.size + 1, 2, none⟩ (.string (s.extract b (b + k)))).setCell ⟨g, 1, none⟩ (.int .i64 ((b : Int) + (k : Int)))) g s (b + k) (d + 1) q (s.extract b (b + k)) ⟨#[]⟩ (.slice none 0 0) := ((KP.out.drewN (nq1 + 1)).text (s.extract b (b + k))).at' (b + k)
  clear h0 h1 h2 f1 f2 hgl kcl kfr kcl0 kfr0 hsz hgo hn1 hn2 hn3 hn4 KP
  revert kP
  generalize ((wr2.drewN (nq1 + 1)).setCell ⟨w.heap.size + 1, 2, none⟩ (.string (s.extract b (b + k)))).setCell ⟨g, 1, none⟩ (.int .i64 ((b : Int) + (k : Int))) = wr3
  intro kP
  clear p0 p1 p2 p3 p4 p5 hk1 hk2 HTP HK HR e1 wr2
  have hTl : ((s.data.toList.drop b).take k).length ≤ 64 := by simp; omega
  revert hTl
  revert kP
  revert HXT
  revert HF
  generalize s.extract b (b + k) = tx
  generalize (s.data.toList.drop b).take k = T
  obtain ⟨c, hc⟩ : ∃ c, c = b + k := ⟨_, rfl⟩
  rw [← hc] at hkle ⊢
  intro HF HXT kP hTl
  have hac : a + 3 ≤ c := by omega
  clear hc hba hb0 hk0 hk64
  obtain ⟨h0, h1, h2, f1, f2, hgl⟩ := kP.scan.cells
  have kcl := row_cells kP.part
  have kfr := row_free kP.part
  have kcl0 := row_cells kP.res
  have kfr0 := row_free kP.res
  have hsz := row_lt kP.part
  have hgo := kP.old
  have hn1 : ¬ w.heap.size + 1 = g := by omega
  have hn2 : ¬ g = w.heap.size + 1 := by omega
  have hn3 : ¬ w.heap.size = g := by omega
  have hn4 : ¬ g = w.heap.size := by omega
  have KP := Lib.hid kP; clear kP
  by_cases hcs : c < s.size
  ·have t1 : decide ((c : Int) < (s.size : Int)) = true := by simp; omega
   have t0 : (0 : Int) ≤ (c : Int) := by omega
   have t2 : (c : Int) ≤ (s.size : Int) := by omega
   go_quiet (fail)
   have hO : opM (s.extract c s.size).data.toList = opM (s.data.toList.drop c) := by rw [Lib.extract_to_end]
   have hOl : (opM (s.data.toList.drop c)).length ≤ s.size - c := by have := opL_prefix ops (s.data.toList.drop c); rwa [drop_len] at this
   revert HF hO hOl
   generalize opM (s.data.toList.drop c) = O
   intro HF hO hOl
   have HO := Lib.hid hO; clear hO
   go_wp2
   go_region_held3 (fun w' => w'.cell? ⟨g, 0, none⟩ = some (.string s) ∧ w'.cell? ⟨g, 1, none⟩ = some (.int .i64 c))
    (first
     | go_keep
     | (go_split_ands; exact ⟨hC1.cell (by assumption) (fun e => e), hC1.cell (by assumption) (fun e => e)⟩))
    (first | (go_at_call 162; refine (op_calls _ _).mono ?_; rintro e w1 ⟨rfl, hC1⟩; have kP5 := ParAt.step0 (KP.out.drewN _) hC1; have kcl5 := row_cells kP5.part; have kfr5 := row_free kP5.part; have KP5 := Lib.hid kP5; clear kP5))
   have hO' : opM (List.take (s.size - c) (s.data.toList.drop c)) = O := by rw [List.take_of_length_le (by rw [drop_len]; omega), ← HO.out, Lib.extract_to_end]
   simp only [hO']
   have kP : ParAt w (w1.setCell ⟨w.heap.size + 1, 3, none⟩ (.string (bstr O))) g s (c) (d + 1) q tx (bstr O) (.slice none 0 0) := ParAt.op' KP5.out (bstr O)
   clear h0 h1 h2 f1 f2 hgl kcl kfr kcl0 kfr0 hsz hgo hn1 hn2 hn3 hn4 KP
   revert kP
   generalize w1.setCell ⟨w.heap.size + 1, 3, none⟩ (.string (bstr O)) = wr4
   intro kP
   clear kcl5 kfr5 KP5 hC1 wr3 HO hO' t1 t2
   have hos : (bstr O).size = O.length := by rw [← len_data, bstr_toList]
   revert hos
   revert kP
   generalize hob : bstr O = ob
   intro kP hos
   have HOB := Lib.hid hob.symm; clear hob
   obtain ⟨h0, h1, h2, f1, f2, hgl⟩ := kP.scan.cells
   have kcl := row_cells kP.part
   have kfr := row_free kP.part
   have kcl0 := row_cells kP.res
   have kfr0 := row_free kP.res
   have hsz := row_lt kP.part
   have hgo := kP.old
   have hn1 : ¬ w.heap.size + 1 = g := by omega
   have hn2 : ¬ g = w.heap.size + 1 := by omega
   have hn3 : ¬ w.heap.size = g := by omega
   have hn4 : ¬ g = w.heap.size := by omega
   have KP := Lib.hid kP; clear kP
   have t1 : IntKind.i64.wrap ((c : Int) + (ob.size : Int)) = (c : Int) + (ob.size : Int) := IntWalk.i64_in _ (by omega)
   go_wp2
   refine still_tail2 10 (by kernel_rfl) (by kernel_rfl) ?_
   simp only [List.take_succ_cons, List.take_zero, List.drop_succ_cons, List.drop_zero]
   repeat still_step
   refine wpStill_nil ?_
   by_cases hO : O = []
   ·have hoe : ob.toList.isEmpty = true := by rw [ByteArray.toList_eq, HOB.out, bstr_toList, hO]; rfl
    obtain ⟨l, hl, HF1⟩ : ∃ l, l = ([] : List Part) ∧ Hid (finish (s.size - a) q T O (.ok l (s.data.toList.drop (c + O.length))) = R) := ⟨[], rfl, Lib.hid (by rw [← HF.out, if_pos (by rw [hO]; rfl), hO]; rfl)⟩
    clear HF
    have HF := HF1; clear HF1
    have hcl2 : c + O.length ≤ s.size := by omega
    clear hO
    go_wp2
    have kP : ParAt w ((wr4.setCell ⟨g, 1, none⟩ (.int .i64 ((c : Int) + (O.length : Int)))).drew) g s (c + O.length) (d + 1) q tx ob (.slice none 0 0) := (KP.out.at' (c + O.length)).drewN 1
    clear h0 h1 h2 f1 f2 hgl kcl kfr kcl0 kfr0 hsz hgo hn1 hn2 hn3 hn4 KP
    revert kP
    generalize (wr4.setCell ⟨g, 1, none⟩ (.int .i64 ((c : Int) + (O.length : Int)))).drew = wr5
    intro kP
    have hac2 : a + 3 ≤ c + O.length := by omega
    clear hoe t0 t1 hcs hac hkle
    revert hac2; revert hcl2; revert kP; revert HF
    generalize c + O.length = c2
    intro HF kP hcl2 hac2
    have HV : Rep wr5 (fun j => w.heap.size + 2 ≤ j) (.sl 103 5 (Part.ds l)) [.slice none 0 0] := by rw [hl]; exact (Own.nil _ _ _ _).rep
    have hwl : Part.wts l ≤ 20000 := by rw [hl]; simp [Part.wts]
    clear hl
    obtain ⟨h0, h1, h2, f1, f2, hgl⟩ := kP.scan.cells
    have kcl := row_cells kP.part
    have kfr := row_free kP.part
    have kcl0 := row_cells kP.res
    have kfr0 := row_free kP.res
    have hsz := row_lt kP.part
    have hgo := kP.old
    have hn1 : ¬ w.heap.size + 1 = g := by omega
    have hn2 : ¬ g = w.heap.size + 1 := by omega
    have hn3 : ¬ w.heap.size = g := by omega
    have hn4 : ¬ g = w.heap.size := by omega
    have KP := Lib.hid kP; clear kP
    have t0 : (0 : Int) ≤ (c2 : Int) := by omega
    go_quiet (fail)
    by_cases hend : c2 = s.size
    ·have t1 : ((c2 : Int) == (s.size : Int)) = true := by simp; omega
     go_wp2_with (go_at_call 110; refine (fail_calls _ _ _ _).mono ?_; rintro e w1 ⟨rfl, rfl⟩)
     refine ⟨rfl, ?_⟩
     rw [← HF.out, drop_end s c2 (by omega)]
     exact ⟨a, by omega, rfl, rfl, ((KP.out.chg.drewN _).mono (fun _ h _ => h))⟩
    ·have t1 : ((c2 : Int) == (s.size : Int)) = false := by simp; omega
     have hclt : c2 < s.size := by omega
     have hHB : isAt (s.data.toList.drop c2) 0 125 = (s[c2] == 125) := by rw [byte_drop s c2 hclt]; rfl
     have HFE : Hid (R = if s[c2] == 125 then .ok (allB (.mk 2 q T O l) q) (s.data.toList.drop (c2 + 1)) else .err (s.size - c2) 61) := Lib.hid (by
      rw [← HF.out, byte_drop s c2 hclt]
      simp only [finish, drop_len]
      split
      ·rfl
      ·rw [show s.size - (c2 + 1) + 1 = s.size - c2 by omega])
     clear HF
     have hA := KP.out.scan
     go_wp2_with fail
     cases hbr : s[c2] == 125
     case false =>
      rw [hbr] at hHB
      refine Calls.mono (is_brace g s c2 _ _ (hA.drewN _) (by omega) hs _ hHB) ?_
      rintro e w' ⟨rfl, m, rfl⟩
      go_wp2_with (go_at_call 110; refine (fail_calls _ _ _ _).mono ?_; rintro e w1 ⟨rfl, rfl⟩)
      refine ⟨rfl, ?_⟩
      rw [HFE.out, hbr]
      exact ⟨c2, by omega, rfl, rfl, KP.out.chg.drewN _⟩
     case true =>
      rw [hbr] at hHB
      refine Calls.mono (is_brace g s c2 _ _ (hA.drewN _) (by omega) hs _ hHB) ?_
      rintro e w' ⟨rfl, m, rfl⟩
      go_wp2_with fail
      have hrep : Rep wr5 (fun j => w.heap.size + 2 ≤ j) (Part.d (.mk 2 q T O l)) [.int .i64 2, .bool q, .string tx, .string ob, (.slice none 0 0)] := part_rep.2 ⟨_, by rw [HXT.out, HOB.out], HV⟩
      refine (all_calls _ (fun j => w.heap.size + 2 ≤ j) (.mk 2 q T O l) q [.int .i64 2, .bool q, .string tx, .string ob, (.slice none 0 0)] (by simp only [Part.wt]; omega) ?_).mono ?_
      ·exact hrep.stay ((((Chg.refl (· = g) _).drewN _).setCell (fun _ => rfl) _).setCell (fun _ => rfl) _) (fun j h e => by omega)
      ·rintro e w4 ⟨cs', rfl, hr', hC'⟩
       have kP4 : ParAt w w4 g s (c2 + 1) d q tx ob (.slice none 0 0) := ParAt.step0 (((KP.out.drewN _).at' (c2 + 1)).deep' d) hC'
       have hz : wr5.heap.size ≤ w4.heap.size := by simpa using hC'.size
       have HR1 : Hid (R = .ok (allB (.mk 2 q T O l) q) (s.data.toList.drop (c2 + 1))) := Lib.hid (by rw [HFE.out, if_pos hbr])
       clear HFE
       revert hr' HR1
       generalize allB (.mk 2 q T O l) q = pp
       obtain ⟨kd, qd, td, od, wd⟩ := pp
       intro hr' HR1
       obtain ⟨A', c', rfl, hwv, _, _⟩ := part_rep2 hr'
       have HREP := Lib.hid hr'; clear hr'
       clear h0 h1 h2 f1 f2 hgl kcl kfr kcl0 kfr0 KP hHB hbr hA
       have kcl0 := row_cells kP4.res
       have kfr0 := row_free kP4.res
       have hlt0 := row_lt kP4.res
       have KP := Lib.hid kP4; clear kP4
       go_wp2
       refine bodyPost_ret (v := .agg #[.int .i64 kd, .bool qd, .string (bstr td), .string (bstr od), .slice A' wd.length c']) (by simp [results, Tryz.results144, go_sem, kcl0]) rfl ?_
       rw [HR1.out]
       refine ⟨_, c2 + 1, rfl, hclt, rfl, ⟨_, rfl, ?_⟩, ?_, ?_⟩
       ·refine (HREP.out.stay (((((((Chg.refl (fun j => j = w.heap.size) _).setCell (fun _ => rfl) _).setCell (fun _ => rfl) _).setCell (fun _ => rfl) _).setCell (fun _ => rfl) _).setCell (fun _ => rfl) _)) (fun j hj e => ?_)).mono (fun j hj _ => ?_)
        ·simp at hj; omega
        ·simp at hj; omega
       ·exact row_far (row_far (row_far (row_far (row_far KP.out.scan hn4 _) hn4 _) hn4 _) hn4 _) hn4 _
       ·exact ((((KP.out.chg.setCell (fun h => absurd h (by simp)) _).setCell (fun h => absurd h (by simp)) _).setCell (fun h => absurd h (by simp)) _).setCell (fun h => absurd h (by simp)) _).setCell (fun h => absurd h (by simp)) _
   ·have hoe : ob.toList.isEmpty = false := by
     rw [ByteArray.toList_eq, HOB.out, bstr_toList]
     cases O with
     | nil => exact absurd rfl hO
     | cons x y => rfl
    have hOp : 0 < O.length := by
     cases O with
     | nil => exact absurd rfl hO
     | cons x y => simp
    have HF1 : Hid (∀ RW, wordF n (d + 1) true q [] (s.data.toList.drop (c + O.length)) = RW → finish (s.size - a) q T O RW = R) := Lib.hid (by
     rintro RW rfl
     rw [← HF.out, if_neg (by simpa using hO)])
    clear HF
    have HL := Lib.hid ((scan_len n).word (d + 1) true q [] (s.data.toList.drop (c + O.length)))
    go_wp2_with fail
    have hA4 : ScanAt ((wr4.setCell ⟨g, 1, none⟩ (.int .i64 ((c : Int) + (O.length : Int)))).drew) g s ((c + O.length : Nat) : Int) ((d + 1 : Nat) : Int) := (KP.out.at' (c + O.length)).scan
    refine (IH _ g s (c + O.length) (d + 1) true q hA4 (by omega) hs (by omega) (by omega)).mono ?_
    intro e w5 hpost
    generalize hRW : wordF n (d + 1) true q [] (s.data.toList.drop (c + O.length)) = RW at hpost HL
    have HF2 := Lib.hid (HF1.out RW hRW); clear HF1 hRW
    cases RW with
    | err left code =>
     obtain ⟨k5, hk5, hl5, rfl, hC5⟩ := hpost
     refine ⟨rfl, ?_⟩
     rw [← HF2.out]
     exact ⟨k5, hk5, hl5, rfl, ((KP.out.at' (c + O.length)).drewN 1).chg.trans hC5 (fun _ h _ => h)⟩
    | ok l rest =>
     obtain ⟨v5, k5, rfl, hk5, rfl, hO5, hA5, hC5⟩ := hpost
     have hL := HL.out _ _ rfl
     rw [drop_len, drop_len] at hL
     have hwl : Part.wts l ≤ 20000 := by simp only [Part.wts] at hL; omega
     have hac5 : a + 3 ≤ k5 := by omega
     have kP := ((KP.out.at' (c + O.length)).drewN 1).step hA5 hC5
     obtain ⟨A5, c5, rfl, _, hm5⟩ := Own.form hO5
     have hsz' : w.heap.size + 1 < (wr4.setCell ⟨g, 1, none⟩ (.int .i64 ((c : Int) + (O.length : Int)))).drew.heap.size := by simp; omega
     have HV5 : Rep w5 (fun j => w.heap.size + 2 ≤ j) (.sl 103 5 (Part.ds l)) [.slice A5 (Part.ds l).length c5] := (Own.rep hO5).mono (fun j h _ => h.elim (fun h => h.elim) (fun h => by omega))
     have HF := Lib.hid HF2.out
     clear HF2 HL hL hO5 hA5 hC5 hsz' hA4 hoe hOp hO t0 t1 hcs hac hkle KP h0 h1 h2 f1 f2 hgl kcl kfr kcl0 kfr0 hsz hgo hn1 hn2 hn3 hn4
     obtain ⟨h0, h1, h2, f1, f2, hgl⟩ := kP.scan.cells
     have kcl := row_cells kP.part
     have kfr := row_free kP.part
     have kcl0 := row_cells kP.res
     have kfr0 := row_free kP.res
     have hsz := row_lt kP.part
     have hgo := kP.old
     have hn1 : ¬ w.heap.size + 1 = g := by omega
     have hn2 : ¬ g = w.heap.size + 1 := by omega
     have hn3 : ¬ w.heap.size = g := by omega
     have hn4 : ¬ g = w.heap.size := by omega
     have KP := Lib.hid kP; clear kP
     go_wp2
     have HV6 := HV5.stay ((Chg.refl (fun j => j = w.heap.size + 1) _).setCell (p := ⟨w.heap.size + 1, 4, none⟩) (fun _ => rfl) (.slice A5 (Part.ds l).length c5)) (fun j h e => by omega)
     clear HV5
     revert HV6
     have kP : ParAt w (w5.setCell ⟨w.heap.size + 1, 4, none⟩ (.slice A5 (Part.ds l).length c5)) g s (k5) (d + 1) q tx ob (.slice A5 (Part.ds l).length c5) := KP.out.word (.slice A5 (Part.ds l).length c5)
     clear h0 h1 h2 f1 f2 hgl kcl kfr kcl0 kfr0 hsz hgo hn1 hn2 hn3 hn4 KP
     revert kP
     generalize w5.setCell ⟨w.heap.size + 1, 4, none⟩ (.slice A5 (Part.ds l).length c5) = wr6
     intro kP
     intro HV
     obtain ⟨h0, h1, h2, f1, f2, hgl⟩ := kP.scan.cells
     have kcl := row_cells kP.part
     have kfr := row_free kP.part
     have kcl0 := row_cells kP.res
     have kfr0 := row_free kP.res
     have hsz := row_lt kP.part
     have hgo := kP.old
     have hn1 : ¬ w.heap.size + 1 = g := by omega
     have hn2 : ¬ g = w.heap.size + 1 := by omega
     have hn3 : ¬ w.heap.size = g := by omega
     have hn4 : ¬ g = w.heap.size := by omega
     have KP := Lib.hid kP; clear kP
     have t0 : (0 : Int) ≤ (k5 : Int) := by omega
     go_quiet (fail)
     by_cases hend : k5 = s.size
     ·have t1 : ((k5 : Int) == (s.size : Int)) = true := by simp; omega
      go_wp2_with (go_at_call 110; refine (fail_calls _ _ _ _).mono ?_; rintro e w1 ⟨rfl, rfl⟩)
      refine ⟨rfl, ?_⟩
      rw [← HF.out, drop_end s k5 (by omega)]
      exact ⟨a, by omega, rfl, rfl, ((KP.out.chg.drewN _).mono (fun _ h _ => h))⟩
     ·have t1 : ((k5 : Int) == (s.size : Int)) = false := by simp; omega
      have hclt : k5 < s.size := by omega
      have hHB : isAt (s.data.toList.drop k5) 0 125 = (s[k5] == 125) := by rw [byte_drop s k5 hclt]; rfl
      have HFE : Hid (R = if s[k5] == 125 then .ok (allB (.mk 2 q T O l) q) (s.data.toList.drop (k5 + 1)) else .err (s.size - k5) 61) := Lib.hid (by
       rw [← HF.out, byte_drop s k5 hclt]
       simp only [finish, drop_len]
       split
       ·rfl
       ·rw [show s.size - (k5 + 1) + 1 = s.size - k5 by omega])
      clear HF
      have hA := KP.out.scan
      go_wp2_with fail
      cases hbr : s[k5] == 125
      case false =>
       rw [hbr] at hHB
       refine Calls.mono (is_brace g s k5 _ _ (hA.drewN _) (by omega) hs _ hHB) ?_
       rintro e w' ⟨rfl, m, rfl⟩
       go_wp2_with (go_at_call 110; refine (fail_calls _ _ _ _).mono ?_; rintro e w1 ⟨rfl, rfl⟩)
       refine ⟨rfl, ?_⟩
       rw [HFE.out, hbr]
       exact ⟨k5, by omega, rfl, rfl, KP.out.chg.drewN _⟩
      case true =>
       rw [hbr] at hHB
       refine Calls.mono (is_brace g s k5 _ _ (hA.drewN _) (by omega) hs _ hHB) ?_
       rintro e w' ⟨rfl, m, rfl⟩
       go_wp2_with fail
       have hrep : Rep wr6 (fun j => w.heap.size + 2 ≤ j) (Part.d (.mk 2 q T O l)) [.int .i64 2, .bool q, .string tx, .string ob, (.slice A5 (Part.ds l).length c5)] := part_rep.2 ⟨_, by rw [HXT.out, HOB.out], HV⟩
       refine (all_calls _ (fun j => w.heap.size + 2 ≤ j) (.mk 2 q T O l) q [.int .i64 2, .bool q, .string tx, .string ob, (.slice A5 (Part.ds l).length c5)] (by simp only [Part.wt]; omega) ?_).mono ?_
       ·exact hrep.stay ((((Chg.refl (· = g) _).drewN _).setCell (fun _ => rfl) _).setCell (fun _ => rfl) _) (fun j h e => by omega)
       ·rintro e w4 ⟨cs', rfl, hr', hC'⟩
        have kP4 : ParAt w w4 g s (k5 + 1) d q tx ob (.slice A5 (Part.ds l).length c5) := ParAt.step0 (((KP.out.drewN _).at' (k5 + 1)).deep' d) hC'
        have hz : wr6.heap.size ≤ w4.heap.size := by simpa using hC'.size
        have HR1 : Hid (R = .ok (allB (.mk 2 q T O l) q) (s.data.toList.drop (k5 + 1))) := Lib.hid (by rw [HFE.out, if_pos hbr])
        clear HFE
        revert hr' HR1
        generalize allB (.mk 2 q T O l) q = pp
        obtain ⟨kd, qd, td, od, wd⟩ := pp
        intro hr' HR1
        obtain ⟨A', c', rfl, hwv, _, _⟩ := part_rep2 hr'
        have HREP := Lib.hid hr'; clear hr'
        clear h0 h1 h2 f1 f2 hgl kcl kfr kcl0 kfr0 KP hHB hbr hA
        have kcl0 := row_cells kP4.res
        have kfr0 := row_free kP4.res
        have hlt0 := row_lt kP4.res
        have KP := Lib.hid kP4; clear kP4
        go_wp2
        refine bodyPost_ret (v := .agg #[.int .i64 kd, .bool qd, .string (bstr td), .string (bstr od), .slice A' wd.length c']) (by simp [results, Tryz.results144, go_sem, kcl0]) rfl ?_
        rw [HR1.out]
        refine ⟨_, k5 + 1, rfl, hclt, rfl, ⟨_, rfl, ?_⟩, ?_, ?_⟩
        ·refine (HREP.out.stay (((((((Chg.refl (fun j => j = w.heap.size) _).setCell (fun _ => rfl) _).setCell (fun _ => rfl) _).setCell (fun _ => rfl) _).setCell (fun _ => rfl) _).setCell (fun _ => rfl) _)) (fun j hj e => ?_)).mono (fun j hj _ => ?_)
         ·simp at hj; omega
         ·simp at hj; omega
        ·exact row_far (row_far (row_far (row_far (row_far KP.out.scan hn4 _) hn4 _) hn4 _) hn4 _) hn4 _
        ·exact ((((KP.out.chg.setCell (fun h => absurd h (by simp)) _).setCell (fun h => absurd h (by simp)) _).setCell (fun h => absurd h (by simp)) _).setCell (fun h => absurd h (by simp)) _).setCell (fun h => absurd h (by simp)) _
  ·have t1 : decide ((c : Int) < (s.size : Int)) = false := by simp; omega
   obtain ⟨O, l, hO, hl, HF1⟩ : ∃ O l, O = ([] : Bytes) ∧ l = ([] : List Part) ∧ Hid (finish (s.size - a) q T O (.ok l (s.data.toList.drop c)) = R) := ⟨[], [], rfl, rfl, Lib.hid (by rw [← HF.out, drop_end s c hcs]; rfl)⟩
   clear HF
   have HF := HF1; clear HF1
   have hOl : O.length ≤ 64 := by rw [hO]; decide
   have HOB : Hid (⟨#[]⟩ = bstr O) := Lib.hid (by rw [hO]; rfl)
   clear hO
   have HV : Rep wr3 (fun j => w.heap.size + 2 ≤ j) (.sl 103 5 (Part.ds l)) [.slice none 0 0] := by rw [hl]; exact (Own.nil _ _ _ _).rep
   have hwl : Part.wts l ≤ 20000 := by rw [hl]; simp [Part.wts]
   clear hl
   go_quiet (fail)
   go_wp2
   have t0 : (0 : Int) ≤ (c : Int) := by omega
   go_quiet (fail)
   have t1 : ((c : Int) == (s.size : Int)) = true := by simp; omega
   go_wp2_with (go_at_call 110; refine (fail_calls _ _ _ _).mono ?_; rintro e w1 ⟨rfl, rfl⟩)
   refine ⟨rfl, ?_⟩
   rw [← HF.out, drop_end s c (by omega)]
   exact ⟨a, by omega, rfl, rfl, ((KP.out.chg.drewN _).mono (fun _ h _ => h))⟩
set_option maxRecDepth 100000 in
set_option maxHeartbeats 4000000 in
theorem param_op3 (n : Nat) (IH : WordSaid n) (w : World) (g : Nat) (s : ByteArray) (a d : Nat) (q : Bool) (h : ScanAt w g s a d) (ha : a + 2 ≤ s.size) (hs : s.size ≤ 8192) (hd : ¬ 16 < d + 1) (hf : 4 * (s.size - a) ≤ n + 1) (i0 : isAt (s.data.toList.drop (a + 2)) 0 35 = true) (hl : a + 3 < s.size) (i1 : isAt (s.data.toList.drop (a + 2)) 1 125 = true) :
  Calls Tryz.prog 144 #[.pointer (some ⟨g, 0, none⟩), .bool q] w (ScanPost w g s d (paramF (n + 1) d q (s.data.toList.drop (a + 2))) (fun _ => False) (PartVal w)) := by
 generalize hR : paramF (n + 1) d q (s.data.toList.drop (a + 2)) = R
 have hlen : lenB (s.data.toList.drop (a + 2)) = false := by rw [lenB_is, drop_len]; simp [i0, i1]
 rw [paramF, if_neg hd, hlen, if_neg (by simp), drop_len, show s.size - (a + 2) + 2 = s.size - a by omega] at hR
 have HR := Lib.hid hR; clear hR hlen
 obtain ⟨h0, h1, h2, f1, f2, hgl⟩ := h.cells
 have e1 : decide ((16 : Int) < (d : Int) + 1) = false := by simp; omega
 have kP := ParAt.start h q (a + 2) (d + 1)
 have i23 : (a : Int) + 2 + 1 < (s.size : Int) ∧ (a : Int) + 3 < (s.size : Int) := (by omega); obtain ⟨i2, i3⟩ := i23
 go_enter Tryz.func144, Tryz.ntmps144
 go_wp2
 simp only [Int.natCast_add, Int.cast_ofNat_Int] at kP
 revert kP
 generalize (((w.setCell ⟨g, 2, none⟩ (.int .i64 ((d : Int) + 1))).setCell ⟨g, 1, none⟩ (.int .i64 ((a : Int) + 2))).alloc (.cells #[.int .i64 0, .bool false, .string ⟨#[]⟩, .string ⟨#[]⟩, .slice none 0 0] 103)).alloc (.cells #[.int .i64 2, .bool q, .string ⟨#[]⟩, .string ⟨#[]⟩, .slice none 0 0] 103) = wr
 intro kP
 clear h0 h1 h2 f1 f2 hgl h
 have hA : ScanAt wr g s ((a + 2 : Nat) : Int) ((d : Int) + 1) := kP.scan
 obtain ⟨h0, h1, h2, f1, f2, hgl⟩ := kP.scan.cells
 have kcl := row_cells kP.part
 have kfr := row_free kP.part
 have kcl0 := row_cells kP.res
 have kfr0 := row_free kP.res
 have hsz := row_lt kP.part
 have hgo := kP.old
 have hn1 : ¬ w.heap.size + 1 = g := by omega
 have hn2 : ¬ g = w.heap.size + 1 := by omega
 have hn3 : ¬ w.heap.size = g := by omega
 have hn4 : ¬ g = w.heap.size := by omega
 have KP := Lib.hid kP; clear kP
 go_quiet ((go_at_call 160; first | with_reducible exact (is_hash g s (a + 2) _ _ (hA.drewN _) ha hs _ i0).quiet_of | with_reducible exact (is_brace1 g s (a + 2) _ _ (hA.drewN _) ha hs _ i1).quiet_of))
 go_wp2
 have kP : ParAt w (wr.drewN nq) g s (a + 2) (d + 1) q ⟨#[]⟩ ⟨#[]⟩ (.slice none 0 0) := KP.out.drewN nq
 clear h0 h1 h2 f1 f2 hgl kcl kfr kcl0 kfr0 hsz hgo hn1 hn2 hn3 hn4 KP
 revert kP
 generalize wr.drewN nq = wr2
 intro kP
 clear hA wr
 clear i0 i1 i2 i3 hl
 obtain ⟨b, hbe⟩ : ∃ b, b = a + 2 := ⟨_, rfl⟩
 rw [← hbe] at kP HR
 have hb0 : b ≤ s.size := by omega
 have hba : a + 2 ≤ b := by omega
 clear hbe
 obtain ⟨h0, h1, h2, f1, f2, hgl⟩ := kP.scan.cells
 have kcl := row_cells kP.part
 have kfr := row_free kP.part
 have kcl0 := row_cells kP.res
 have kfr0 := row_free kP.res
 have hsz := row_lt kP.part
 have hgo := kP.old
 have hn1 : ¬ w.heap.size + 1 = g := by omega
 have hn2 : ¬ g = w.heap.size + 1 := by omega
 have hn3 : ¬ w.heap.size = g := by omega
 have hn4 : ¬ g = w.heap.size := by omega
 have KP := Lib.hid kP; clear kP
 generalize hk : parameter (s.data.toList.drop b) = k at HR
 have hkle : b + k ≤ s.size := by have := parameter_le (s.data.toList.drop b); rw [hk, drop_len] at this; omega
 have HK := Lib.hid hk
 have HTP : Hid (parameter (s.extract b s.size).data.toList = k) := Lib.hid (by rw [Lib.extract_to_end]; exact hk)
 clear hk
 have p0 : (0 : Int) ≤ (b : Int) := by omega
 have p1 : (b : Int) ≤ (s.size : Int) := by omega
 have htz : (s.extract b s.size).size ≤ 8192 := by simp [ByteArray.size_extract]; omega
 go_quiet ((go_at_call 161; exact (par_q _ _ _ htz HTP.out).quiet_of_same))
 revert nq; intro nq1
 clear htz p1
 have hgood : (k == 0 || decide (k > 64)) = true ∨ (0 < k ∧ k ≤ 64) := by
  by_cases hh : 0 < k ∧ k ≤ 64
  ·exact .inr hh
  ·left; simp; omega
 rcases hgood with hbad | ⟨hk0, hk64⟩
 ·have HRE : Hid (R = .err (s.size - b) 61) := Lib.hid (by rw [← HR.out, paramG, HK.out, if_pos hbad, drop_len])
  clear HR
  cases hk0 : k == 0
  case true =>
   obtain rfl : k = 0 := by simpa using hk0
   go_wp2_with (go_at_call 110; refine (fail_calls _ _ _ _).mono ?_; rintro e w1 ⟨rfl, rfl⟩)
   refine ⟨rfl, ?_⟩
   rw [HRE.out]
   exact ⟨b, by omega, rfl, rfl, KP.out.chg.drewN _⟩
  case false =>
   have hk1 : ((k : Int) == 0) = false := by simp at hk0 ⊢; omega
   have hk64 : decide ((64 : Int) < (k : Int)) = true := by rw [hk0] at hbad; simp at hbad ⊢; omega
   clear hk0 hbad
   go_wp2_with (go_at_call 110; refine (fail_calls _ _ _ _).mono ?_; rintro e w1 ⟨rfl, rfl⟩)
   refine ⟨rfl, ?_⟩
   rw [HRE.out]
   exact ⟨b, by omega, rfl, rfl, KP.out.chg.drewN _⟩
 ·have HF : Hid (finish (s.size - a) q ((s.data.toList.drop b).take k) (opM (s.data.toList.drop (b + k))) (if opM (s.data.toList.drop (b + k)) == [] then .ok [] (s.data.toList.drop (b + k)) else wordF n (d + 1) true q [] (s.data.toList.drop (b + k + (opM (s.data.toList.drop (b + k))).length))) = R) := Lib.hid (by
   rw [← HR.out, paramG, HK.out, if_neg (show ¬ (k == 0 || decide (k > 64)) = true by simp; omega)]
   simp only [Bool.false_or, Bool.false_eq_true, if_false, List.drop_drop])
  have hk1 : ((k : Int) == 0) = false := by simp; omega
  have hk2 : decide ((64 : Int) < (k : Int)) = false := by simp; omega
  have p1 : (b : Int) ≤ (b : Int) + (k : Int) := by omega
  have p3 : (0 : Int) ≤ (k : Int) := by omega
  have p4 : IntKind.i64.wrap ((b : Int) + (k : Int)) = (b : Int) + (k : Int) := IntWalk.i64_in _ (by omega)
  have p5 : ((b : Int) + (k : Int)).toNat = b + k := by omega
  have p2 : (b : Int) + (k : Int) ≤ (s.size : Int) := by omega
  have hxt := extract_bstr s b (b + k)
  rw [show b + k - b = k by omega] at hxt
  have HXT := Lib.hid hxt; clear hxt
  go_wp2
  refine still_tail2 16 (by kernel_rfl) (by kernel_rfl) ?_
  simp only [List.take_succ_cons, List.take_zero, List.drop_succ_cons, List.drop_zero]
  repeat still_step
  refine wpStill_nil ?_
  go_wp2
  have kP : ParAt w (((wr2.drewN (nq1 + 1)).setCell ⟨w.heap.size + 1, 2, none⟩ (.string (s.extract b (b + k)))).setCell ⟨g, 1, none⟩ (.int .i64 ((b : Int) + (k : Int)))) g s (b + k) (d + 1) q (s.extract b (b + k)) ⟨#[]⟩ (.slice none 0 0) := ((KP.out.drewN (nq1 + 1)).text (s.extract b (b + k))).at' (b + k)
  clear h0 h1 h2 f1 f2 hgl kcl kfr kcl0 kfr0 hsz hgo hn1 hn2 hn3 hn4 KP
  revert kP
  generalize ((wr2.drewN (nq1 + 1)).setCell ⟨w.heap.size + 1, 2, none⟩ (.string (s.extract b (b + k)))).setCell ⟨g, 1, none⟩ (.int .i64 ((b : Int) + (k : Int))) = wr3
  intro kP
  clear p0 p1 p2 p3 p4 p5 hk1 hk2 HTP HK HR e1 wr2
  have hTl : ((s.data.toList.drop b).take k).length ≤ 64 := by simp; omega
  revert hTl
  revert kP
  revert HXT
  revert HF
  generalize s.extract b (b + k) = tx
  generalize (s.data.toList.drop b).take k = T
  obtain ⟨c, hc⟩ : ∃ c, c = b + k := ⟨_, rfl⟩
  rw [← hc] at hkle ⊢
  intro HF HXT kP hTl
  have hac : a + 3 ≤ c := by omega
  clear hc hba hb0 hk0 hk64
  obtain ⟨h0, h1, h2, f1, f2, hgl⟩ := kP.scan.cells
  have kcl := row_cells kP.part
  have kfr := row_free kP.part
  have kcl0 := row_cells kP.res
  have kfr0 := row_free kP.res
  have hsz := row_lt kP.part
  have hgo := kP.old
  have hn1 : ¬ w.heap.size + 1 = g := by omega
  have hn2 : ¬ g = w.heap.size + 1 := by omega
  have hn3 : ¬ w.heap.size = g := by omega
  have hn4 : ¬ g = w.heap.size := by omega
  have KP := Lib.hid kP; clear kP
  by_cases hcs : c < s.size
  ·have t1 : decide ((c : Int) < (s.size : Int)) = true := by simp; omega
   have t0 : (0 : Int) ≤ (c : Int) := by omega
   have t2 : (c : Int) ≤ (s.size : Int) := by omega
   go_quiet (fail)
   have hO : opM (s.extract c s.size).data.toList = opM (s.data.toList.drop c) := by rw [Lib.extract_to_end]
   have hOl : (opM (s.data.toList.drop c)).length ≤ s.size - c := by have := opL_prefix ops (s.data.toList.drop c); rwa [drop_len] at this
   revert HF hO hOl
   generalize opM (s.data.toList.drop c) = O
   intro HF hO hOl
   have HO := Lib.hid hO; clear hO
   go_wp2
   go_region_held3 (fun w' => w'.cell? ⟨g, 0, none⟩ = some (.string s) ∧ w'.cell? ⟨g, 1, none⟩ = some (.int .i64 c))
    (first
     | go_keep
     | (go_split_ands; exact ⟨hC1.cell (by assumption) (fun e => e), hC1.cell (by assumption) (fun e => e)⟩))
    (first | (go_at_call 162; refine (op_calls _ _).mono ?_; rintro e w1 ⟨rfl, hC1⟩; have kP5 := ParAt.step0 (KP.out.drewN _) hC1; have kcl5 := row_cells kP5.part; have kfr5 := row_free kP5.part; have KP5 := Lib.hid kP5; clear kP5))
   have hO' : opM (List.take (s.size - c) (s.data.toList.drop c)) = O := by rw [List.take_of_length_le (by rw [drop_len]; omega), ← HO.out, Lib.extract_to_end]
   simp only [hO']
   have kP : ParAt w (w1.setCell ⟨w.heap.size + 1, 3, none⟩ (.string (bstr O))) g s (c) (d + 1) q tx (bstr O) (.slice none 0 0) := ParAt.op' KP5.out (bstr O)
   clear h0 h1 h2 f1 f2 hgl kcl kfr kcl0 kfr0 hsz hgo hn1 hn2 hn3 hn4 KP
   revert kP
   generalize w1.setCell ⟨w.heap.size + 1, 3, none⟩ (.string (bstr O)) = wr4
   intro kP
   clear kcl5 kfr5 KP5 hC1 wr3 HO hO' t1 t2
   have hos : (bstr O).size = O.length := by rw [← len_data, bstr_toList]
   revert hos
   revert kP
   generalize hob : bstr O = ob
   intro kP hos
   have HOB := Lib.hid hob.symm; clear hob
   obtain ⟨h0, h1, h2, f1, f2, hgl⟩ := kP.scan.cells
   have kcl := row_cells kP.part
   have kfr := row_free kP.part
   have kcl0 := row_cells kP.res
   have kfr0 := row_free kP.res
   have hsz := row_lt kP.part
   have hgo := kP.old
   have hn1 : ¬ w.heap.size + 1 = g := by omega
   have hn2 : ¬ g = w.heap.size + 1 := by omega
   have hn3 : ¬ w.heap.size = g := by omega
   have hn4 : ¬ g = w.heap.size := by omega
   have KP := Lib.hid kP; clear kP
   have t1 : IntKind.i64.wrap ((c : Int) + (ob.size : Int)) = (c : Int) + (ob.size : Int) := IntWalk.i64_in _ (by omega)
   go_wp2
   refine still_tail2 10 (by kernel_rfl) (by kernel_rfl) ?_
   simp only [List.take_succ_cons, List.take_zero, List.drop_succ_cons, List.drop_zero]
   repeat still_step
   refine wpStill_nil ?_
   by_cases hO : O = []
   ·have hoe : ob.toList.isEmpty = true := by rw [ByteArray.toList_eq, HOB.out, bstr_toList, hO]; rfl
    obtain ⟨l, hl, HF1⟩ : ∃ l, l = ([] : List Part) ∧ Hid (finish (s.size - a) q T O (.ok l (s.data.toList.drop (c + O.length))) = R) := ⟨[], rfl, Lib.hid (by rw [← HF.out, if_pos (by rw [hO]; rfl), hO]; rfl)⟩
    clear HF
    have HF := HF1; clear HF1
    have hcl2 : c + O.length ≤ s.size := by omega
    clear hO
    go_wp2
    have kP : ParAt w ((wr4.setCell ⟨g, 1, none⟩ (.int .i64 ((c : Int) + (O.length : Int)))).drew) g s (c + O.length) (d + 1) q tx ob (.slice none 0 0) := (KP.out.at' (c + O.length)).drewN 1
    clear h0 h1 h2 f1 f2 hgl kcl kfr kcl0 kfr0 hsz hgo hn1 hn2 hn3 hn4 KP
    revert kP
    generalize (wr4.setCell ⟨g, 1, none⟩ (.int .i64 ((c : Int) + (O.length : Int)))).drew = wr5
    intro kP
    have hac2 : a + 3 ≤ c + O.length := by omega
    clear hoe t0 t1 hcs hac hkle
    revert hac2; revert hcl2; revert kP; revert HF
    generalize c + O.length = c2
    intro HF kP hcl2 hac2
    have HV : Rep wr5 (fun j => w.heap.size + 2 ≤ j) (.sl 103 5 (Part.ds l)) [.slice none 0 0] := by rw [hl]; exact (Own.nil _ _ _ _).rep
    have hwl : Part.wts l ≤ 20000 := by rw [hl]; simp [Part.wts]
    clear hl
    obtain ⟨h0, h1, h2, f1, f2, hgl⟩ := kP.scan.cells
    have kcl := row_cells kP.part
    have kfr := row_free kP.part
    have kcl0 := row_cells kP.res
    have kfr0 := row_free kP.res
    have hsz := row_lt kP.part
    have hgo := kP.old
    have hn1 : ¬ w.heap.size + 1 = g := by omega
    have hn2 : ¬ g = w.heap.size + 1 := by omega
    have hn3 : ¬ w.heap.size = g := by omega
    have hn4 : ¬ g = w.heap.size := by omega
    have KP := Lib.hid kP; clear kP
    have t0 : (0 : Int) ≤ (c2 : Int) := by omega
    go_quiet (fail)
    by_cases hend : c2 = s.size
    ·have t1 : ((c2 : Int) == (s.size : Int)) = true := by simp; omega
     go_wp2_with (go_at_call 110; refine (fail_calls _ _ _ _).mono ?_; rintro e w1 ⟨rfl, rfl⟩)
     refine ⟨rfl, ?_⟩
     rw [← HF.out, drop_end s c2 (by omega)]
     exact ⟨a, by omega, rfl, rfl, ((KP.out.chg.drewN _).mono (fun _ h _ => h))⟩
    ·have t1 : ((c2 : Int) == (s.size : Int)) = false := by simp; omega
     have hclt : c2 < s.size := by omega
     have hHB : isAt (s.data.toList.drop c2) 0 125 = (s[c2] == 125) := by rw [byte_drop s c2 hclt]; rfl
     have HFE : Hid (R = if s[c2] == 125 then .ok (allB (.mk 2 q T O l) q) (s.data.toList.drop (c2 + 1)) else .err (s.size - c2) 61) := Lib.hid (by
      rw [← HF.out, byte_drop s c2 hclt]
      simp only [finish, drop_len]
      split
      ·rfl
      ·rw [show s.size - (c2 + 1) + 1 = s.size - c2 by omega])
     clear HF
     have hA := KP.out.scan
     go_wp2_with fail
     cases hbr : s[c2] == 125
     case false =>
      rw [hbr] at hHB
      refine Calls.mono (is_brace g s c2 _ _ (hA.drewN _) (by omega) hs _ hHB) ?_
      rintro e w' ⟨rfl, m, rfl⟩
      go_wp2_with (go_at_call 110; refine (fail_calls _ _ _ _).mono ?_; rintro e w1 ⟨rfl, rfl⟩)
      refine ⟨rfl, ?_⟩
      rw [HFE.out, hbr]
      exact ⟨c2, by omega, rfl, rfl, KP.out.chg.drewN _⟩
     case true =>
      rw [hbr] at hHB
      refine Calls.mono (is_brace g s c2 _ _ (hA.drewN _) (by omega) hs _ hHB) ?_
      rintro e w' ⟨rfl, m, rfl⟩
      go_wp2_with fail
      have hrep : Rep wr5 (fun j => w.heap.size + 2 ≤ j) (Part.d (.mk 2 q T O l)) [.int .i64 2, .bool q, .string tx, .string ob, (.slice none 0 0)] := part_rep.2 ⟨_, by rw [HXT.out, HOB.out], HV⟩
      refine (all_calls _ (fun j => w.heap.size + 2 ≤ j) (.mk 2 q T O l) q [.int .i64 2, .bool q, .string tx, .string ob, (.slice none 0 0)] (by simp only [Part.wt]; omega) ?_).mono ?_
      ·exact hrep.stay ((((Chg.refl (· = g) _).drewN _).setCell (fun _ => rfl) _).setCell (fun _ => rfl) _) (fun j h e => by omega)
      ·rintro e w4 ⟨cs', rfl, hr', hC'⟩
       have kP4 : ParAt w w4 g s (c2 + 1) d q tx ob (.slice none 0 0) := ParAt.step0 (((KP.out.drewN _).at' (c2 + 1)).deep' d) hC'
       have hz : wr5.heap.size ≤ w4.heap.size := by simpa using hC'.size
       have HR1 : Hid (R = .ok (allB (.mk 2 q T O l) q) (s.data.toList.drop (c2 + 1))) := Lib.hid (by rw [HFE.out, if_pos hbr])
       clear HFE
       revert hr' HR1
       generalize allB (.mk 2 q T O l) q = pp
       obtain ⟨kd, qd, td, od, wd⟩ := pp
       intro hr' HR1
       obtain ⟨A', c', rfl, hwv, _, _⟩ := part_rep2 hr'
       have HREP := Lib.hid hr'; clear hr'
       clear h0 h1 h2 f1 f2 hgl kcl kfr kcl0 kfr0 KP hHB hbr hA
       have kcl0 := row_cells kP4.res
       have kfr0 := row_free kP4.res
       have hlt0 := row_lt kP4.res
       have KP := Lib.hid kP4; clear kP4
       go_wp2
       refine bodyPost_ret (v := .agg #[.int .i64 kd, .bool qd, .string (bstr td), .string (bstr od), .slice A' wd.length c']) (by simp [results, Tryz.results144, go_sem, kcl0]) rfl ?_
       rw [HR1.out]
       refine ⟨_, c2 + 1, rfl, hclt, rfl, ⟨_, rfl, ?_⟩, ?_, ?_⟩
       ·refine (HREP.out.stay (((((((Chg.refl (fun j => j = w.heap.size) _).setCell (fun _ => rfl) _).setCell (fun _ => rfl) _).setCell (fun _ => rfl) _).setCell (fun _ => rfl) _).setCell (fun _ => rfl) _)) (fun j hj e => ?_)).mono (fun j hj _ => ?_)
        ·simp at hj; omega
        ·simp at hj; omega
       ·exact row_far (row_far (row_far (row_far (row_far KP.out.scan hn4 _) hn4 _) hn4 _) hn4 _) hn4 _
       ·exact ((((KP.out.chg.setCell (fun h => absurd h (by simp)) _).setCell (fun h => absurd h (by simp)) _).setCell (fun h => absurd h (by simp)) _).setCell (fun h => absurd h (by simp)) _).setCell (fun h => absurd h (by simp)) _
   ·have hoe : ob.toList.isEmpty = false := by
     rw [ByteArray.toList_eq, HOB.out, bstr_toList]
     cases O with
     | nil => exact absurd rfl hO
     | cons x y => rfl
    have hOp : 0 < O.length := by
     cases O with
     | nil => exact absurd rfl hO
     | cons x y => simp
    have HF1 : Hid (∀ RW, wordF n (d + 1) true q [] (s.data.toList.drop (c + O.length)) = RW → finish (s.size - a) q T O RW = R) := Lib.hid (by
     rintro RW rfl
     rw [← HF.out, if_neg (by simpa using hO)])
    clear HF
    have HL := Lib.hid ((scan_len n).word (d + 1) true q [] (s.data.toList.drop (c + O.length)))
    go_wp2_with fail
    have hA4 : ScanAt ((wr4.setCell ⟨g, 1, none⟩ (.int .i64 ((c : Int) + (O.length : Int)))).drew) g s ((c + O.length : Nat) : Int) ((d + 1 : Nat) : Int) := (KP.out.at' (c + O.length)).scan
    refine (IH _ g s (c + O.length) (d + 1) true q hA4 (by omega) hs (by omega) (by omega)).mono ?_
    intro e w5 hpost
    generalize hRW : wordF n (d + 1) true q [] (s.data.toList.drop (c + O.length)) = RW at hpost HL
    have HF2 := Lib.hid (HF1.out RW hRW); clear HF1 hRW
    cases RW with
    | err left code =>
     obtain ⟨k5, hk5, hl5, rfl, hC5⟩ := hpost
     refine ⟨rfl, ?_⟩
     rw [← HF2.out]
     exact ⟨k5, hk5, hl5, rfl, ((KP.out.at' (c + O.length)).drewN 1).chg.trans hC5 (fun _ h _ => h)⟩
    | ok l rest =>
     obtain ⟨v5, k5, rfl, hk5, rfl, hO5, hA5, hC5⟩ := hpost
     have hL := HL.out _ _ rfl
     rw [drop_len, drop_len] at hL
     have hwl : Part.wts l ≤ 20000 := by simp only [Part.wts] at hL; omega
     have hac5 : a + 3 ≤ k5 := by omega
     have kP := ((KP.out.at' (c + O.length)).drewN 1).step hA5 hC5
     obtain ⟨A5, c5, rfl, _, hm5⟩ := Own.form hO5
     have hsz' : w.heap.size + 1 < (wr4.setCell ⟨g, 1, none⟩ (.int .i64 ((c : Int) + (O.length : Int)))).drew.heap.size := by simp; omega
     have HV5 : Rep w5 (fun j => w.heap.size + 2 ≤ j) (.sl 103 5 (Part.ds l)) [.slice A5 (Part.ds l).length c5] := (Own.rep hO5).mono (fun j h _ => h.elim (fun h => h.elim) (fun h => by omega))
     have HF := Lib.hid HF2.out
     clear HF2 HL hL hO5 hA5 hC5 hsz' hA4 hoe hOp hO t0 t1 hcs hac hkle KP h0 h1 h2 f1 f2 hgl kcl kfr kcl0 kfr0 hsz hgo hn1 hn2 hn3 hn4
     obtain ⟨h0, h1, h2, f1, f2, hgl⟩ := kP.scan.cells
     have kcl := row_cells kP.part
     have kfr := row_free kP.part
     have kcl0 := row_cells kP.res
     have kfr0 := row_free kP.res
     have hsz := row_lt kP.part
     have hgo := kP.old
     have hn1 : ¬ w.heap.size + 1 = g := by omega
     have hn2 : ¬ g = w.heap.size + 1 := by omega
     have hn3 : ¬ w.heap.size = g := by omega
     have hn4 : ¬ g = w.heap.size := by omega
     have KP := Lib.hid kP; clear kP
     go_wp2
     have HV6 := HV5.stay ((Chg.refl (fun j => j = w.heap.size + 1) _).setCell (p := ⟨w.heap.size + 1, 4, none⟩) (fun _ => rfl) (.slice A5 (Part.ds l).length c5)) (fun j h e => by omega)
     clear HV5
     revert HV6
     have kP : ParAt w (w5.setCell ⟨w.heap.size + 1, 4, none⟩ (.slice A5 (Part.ds l).length c5)) g s (k5) (d + 1) q tx ob (.slice A5 (Part.ds l).length c5) := KP.out.word (.slice A5 (Part.ds l).length c5)
     clear h0 h1 h2 f1 f2 hgl kcl kfr kcl0 kfr0 hsz hgo hn1 hn2 hn3 hn4 KP
     revert kP
     generalize w5.setCell ⟨w.heap.size + 1, 4, none⟩ (.slice A5 (Part.ds l).length c5) = wr6
     intro kP
     intro HV
     obtain ⟨h0, h1, h2, f1, f2, hgl⟩ := kP.scan.cells
     have kcl := row_cells kP.part
     have kfr := row_free kP.part
     have kcl0 := row_cells kP.res
     have kfr0 := row_free kP.res
     have hsz := row_lt kP.part
     have hgo := kP.old
     have hn1 : ¬ w.heap.size + 1 = g := by omega
     have hn2 : ¬ g = w.heap.size + 1 := by omega
     have hn3 : ¬ w.heap.size = g := by omega
     have hn4 : ¬ g = w.heap.size := by omega
     have KP := Lib.hid kP; clear kP
     have t0 : (0 : Int) ≤ (k5 : Int) := by omega
     go_quiet (fail)
     by_cases hend : k5 = s.size
     ·have t1 : ((k5 : Int) == (s.size : Int)) = true := by simp; omega
      go_wp2_with (go_at_call 110; refine (fail_calls _ _ _ _).mono ?_; rintro e w1 ⟨rfl, rfl⟩)
      refine ⟨rfl, ?_⟩
      rw [← HF.out, drop_end s k5 (by omega)]
      exact ⟨a, by omega, rfl, rfl, ((KP.out.chg.drewN _).mono (fun _ h _ => h))⟩
     ·have t1 : ((k5 : Int) == (s.size : Int)) = false := by simp; omega
      have hclt : k5 < s.size := by omega
      have hHB : isAt (s.data.toList.drop k5) 0 125 = (s[k5] == 125) := by rw [byte_drop s k5 hclt]; rfl
      have HFE : Hid (R = if s[k5] == 125 then .ok (allB (.mk 2 q T O l) q) (s.data.toList.drop (k5 + 1)) else .err (s.size - k5) 61) := Lib.hid (by
       rw [← HF.out, byte_drop s k5 hclt]
       simp only [finish, drop_len]
       split
       ·rfl
       ·rw [show s.size - (k5 + 1) + 1 = s.size - k5 by omega])
      clear HF
      have hA := KP.out.scan
      go_wp2_with fail
      cases hbr : s[k5] == 125
      case false =>
       rw [hbr] at hHB
       refine Calls.mono (is_brace g s k5 _ _ (hA.drewN _) (by omega) hs _ hHB) ?_
       rintro e w' ⟨rfl, m, rfl⟩
       go_wp2_with (go_at_call 110; refine (fail_calls _ _ _ _).mono ?_; rintro e w1 ⟨rfl, rfl⟩)
       refine ⟨rfl, ?_⟩
       rw [HFE.out, hbr]
       exact ⟨k5, by omega, rfl, rfl, KP.out.chg.drewN _⟩
      case true =>
       rw [hbr] at hHB
       refine Calls.mono (is_brace g s k5 _ _ (hA.drewN _) (by omega) hs _ hHB) ?_
       rintro e w' ⟨rfl, m, rfl⟩
       go_wp2_with fail
       have hrep : Rep wr6 (fun j => w.heap.size + 2 ≤ j) (Part.d (.mk 2 q T O l)) [.int .i64 2, .bool q, .string tx, .string ob, (.slice A5 (Part.ds l).length c5)] := part_rep.2 ⟨_, by rw [HXT.out, HOB.out], HV⟩
       refine (all_calls _ (fun j => w.heap.size + 2 ≤ j) (.mk 2 q T O l) q [.int .i64 2, .bool q, .string tx, .string ob, (.slice A5 (Part.ds l).length c5)] (by simp only [Part.wt]; omega) ?_).mono ?_
       ·exact hrep.stay ((((Chg.refl (· = g) _).drewN _).setCell (fun _ => rfl) _).setCell (fun _ => rfl) _) (fun j h e => by omega)
       ·rintro e w4 ⟨cs', rfl, hr', hC'⟩
        have kP4 : ParAt w w4 g s (k5 + 1) d q tx ob (.slice A5 (Part.ds l).length c5) := ParAt.step0 (((KP.out.drewN _).at' (k5 + 1)).deep' d) hC'
        have hz : wr6.heap.size ≤ w4.heap.size := by simpa using hC'.size
        have HR1 : Hid (R = .ok (allB (.mk 2 q T O l) q) (s.data.toList.drop (k5 + 1))) := Lib.hid (by rw [HFE.out, if_pos hbr])
        clear HFE
        revert hr' HR1
        generalize allB (.mk 2 q T O l) q = pp
        obtain ⟨kd, qd, td, od, wd⟩ := pp
        intro hr' HR1
        obtain ⟨A', c', rfl, hwv, _, _⟩ := part_rep2 hr'
        have HREP := Lib.hid hr'; clear hr'
        clear h0 h1 h2 f1 f2 hgl kcl kfr kcl0 kfr0 KP hHB hbr hA
        have kcl0 := row_cells kP4.res
        have kfr0 := row_free kP4.res
        have hlt0 := row_lt kP4.res
        have KP := Lib.hid kP4; clear kP4
        go_wp2
        refine bodyPost_ret (v := .agg #[.int .i64 kd, .bool qd, .string (bstr td), .string (bstr od), .slice A' wd.length c']) (by simp [results, Tryz.results144, go_sem, kcl0]) rfl ?_
        rw [HR1.out]
        refine ⟨_, k5 + 1, rfl, hclt, rfl, ⟨_, rfl, ?_⟩, ?_, ?_⟩
        ·refine (HREP.out.stay (((((((Chg.refl (fun j => j = w.heap.size) _).setCell (fun _ => rfl) _).setCell (fun _ => rfl) _).setCell (fun _ => rfl) _).setCell (fun _ => rfl) _).setCell (fun _ => rfl) _)) (fun j hj e => ?_)).mono (fun j hj _ => ?_)
         ·simp at hj; omega
         ·simp at hj; omega
        ·exact row_far (row_far (row_far (row_far (row_far KP.out.scan hn4 _) hn4 _) hn4 _) hn4 _) hn4 _
        ·exact ((((KP.out.chg.setCell (fun h => absurd h (by simp)) _).setCell (fun h => absurd h (by simp)) _).setCell (fun h => absurd h (by simp)) _).setCell (fun h => absurd h (by simp)) _).setCell (fun h => absurd h (by simp)) _
  ·have t1 : decide ((c : Int) < (s.size : Int)) = false := by simp; omega
   obtain ⟨O, l, hO, hl, HF1⟩ : ∃ O l, O = ([] : Bytes) ∧ l = ([] : List Part) ∧ Hid (finish (s.size - a) q T O (.ok l (s.data.toList.drop c)) = R) := ⟨[], [], rfl, rfl, Lib.hid (by rw [← HF.out, drop_end s c hcs]; rfl)⟩
   clear HF
   have HF := HF1; clear HF1
   have hOl : O.length ≤ 64 := by rw [hO]; decide
   have HOB : Hid (⟨#[]⟩ = bstr O) := Lib.hid (by rw [hO]; rfl)
   clear hO
   have HV : Rep wr3 (fun j => w.heap.size + 2 ≤ j) (.sl 103 5 (Part.ds l)) [.slice none 0 0] := by rw [hl]; exact (Own.nil _ _ _ _).rep
   have hwl : Part.wts l ≤ 20000 := by rw [hl]; simp [Part.wts]
   clear hl
   go_quiet (fail)
   go_wp2
   have t0 : (0 : Int) ≤ (c : Int) := by omega
   go_quiet (fail)
   have t1 : ((c : Int) == (s.size : Int)) = true := by simp; omega
   go_wp2_with (go_at_call 110; refine (fail_calls _ _ _ _).mono ?_; rintro e w1 ⟨rfl, rfl⟩)
   refine ⟨rfl, ?_⟩
   rw [← HF.out, drop_end s c (by omega)]
   exact ⟨a, by omega, rfl, rfl, ((KP.out.chg.drewN _).mono (fun _ h _ => h))⟩
theorem param_said (n : Nat) (IH : WordSaid n) : ParamSaid (n + 1) := by
 intro w g s a d q h ha hs hd hf
 by_cases hdeep : 16 < d + 1
 ·exact param_deep n w g s a d q h ha hs hd hdeep
 ·cases i0 : isAt (s.data.toList.drop (a + 2)) 0 35 with
  | false => exact param_op1 n IH w g s a d q h ha hs hdeep hf i0
  | true =>
   by_cases hl : a + 3 < s.size
   ·cases i1 : isAt (s.data.toList.drop (a + 2)) 1 125 with
    | true => exact param_op3 n IH w g s a d q h ha hs hdeep hf i0 hl i1
    | false => exact param_len n IH w g s a d q h ha hs hdeep (by rw [lenB_is, i0, i1, drop_len]; simp; omega)
   ·exact param_op2 n IH w g s a d q h ha hs hdeep hf i0 hl
theorem word_nil (n d : Nat) (br q : Bool) (l : List Part) : wordF (n + 1) d br q l [] = .ok l [] := by rw [wordF]
theorem word_cons (n d : Nat) (br q : Bool) (l : List Part) (c : UInt8) (r : Bytes) : wordF (n + 1) d br q l (c :: r) =
  if (br && c == 125) || (!br && metaB c) then .ok l (c :: r)
  else if c == 92 then (match escape l (c :: r) with | .ok l' r' => wordF n d br q l' r' | .err a e => .err a e)
  else if c == 39 then (match idx 39 r with | none => .err (r.length + 1) 60 | some k => wordF n d br q (add l (lit (r.take k) true)) (r.drop (k + 1)))
  else if c == 34 then (match doubleF n d (r.length + 1) l r with | .ok l' r' => wordF n d br q l' r' | .err a e => .err a e)
  else if c == 96 then .err (r.length + 1) 61
  else if c == 36 then (match dollarF n d q r with | .ok p r' => wordF n d br q (add l p) r' | .err a e => .err a e)
  else wordF n d br q (add l (lit [c] q)) r := by rw [wordF]; rfl
theorem indexByte_idx (c : UInt8) : ∀ l : Bytes, Lib.indexByte l c = (match idx c l with | none => (-1 : Int) | some k => (k : Int))
 | [] => rfl
 | b :: l => by
  have h := indexByte_idx c l
  rw [Lib.indexByte, idx, h]
  by_cases e : (b == c) = true
  ·rw [if_pos e, if_pos e]; rfl
  ·rw [if_neg e, if_neg e]
   cases idx c l with
   | none => rfl
   | some k =>
    have : (((k : Int) == -1) = true) = False := by simp
    simp [this]
theorem ix_q (t : ByteArray) (w : World) (x : Int) (hx : Lib.indexByte t.data.toList 39 = x) : Calls Tryz.prog 109 #[.string t, .int .u8 39] w fun e w' => e = .returned (.int .i64 x) ∧ w' = w :=
 (Tryz.strings_IndexByte t 39 w).mono fun _ _ hh => ⟨by rw [← hx]; exact hh.1, by first | exact hh.2 | exact hh.2.symm⟩
def WordRel (w : World) (g : Nat) (s : ByteArray) (a d : Nat) (br q : Bool) (R : Rs (List Part)) (k : Nat) (v : Value) (wr : World) (b : Nat) (l : List Part) : Prop :=
 ScanAt wr g s b d ∧ a ≤ b ∧ b ≤ s.size ∧ 4 * (s.size - b) + 3 ≤ k ∧ Own wr (fun j => w.heap.size ≤ j) 103 5 v (Part.ds l) ∧ Chg (fun j => j = g ∨ False) w wr ∧
  Part.wts l + 2 * (s.size - b) ≤ 40000 ∧ wordF k d br q l (s.data.toList.drop b) = R
set_option maxRecDepth 100000 in
set_option maxHeartbeats 1000000 in
theorem word_said (n : Nat) (IH : ∀ m, m < n → DoubleSaid m ∧ DollarSaid m) : WordSaid n := by
 intro w g s a d br q h ha hs hd hf
 generalize hR : wordF n d br q [] (s.data.toList.drop a) = R
 have HR := Lib.hid hR; clear hR
 obtain ⟨h0, h1, h2, f1, _, hgl⟩ := h.cells
 have hgw := hgl
 go_enter Tryz.func97, Tryz.ntmps97
 go_wp2
 go_loopg [7] n (fun k v' wr => k ≤ n ∧ ∃ b l', WordRel w g s a d br q R k v' wr b l')
 case atStart =>
  exact ⟨Nat.le_refl _, a, [], h, by omega, by omega, by omega, Own.nil _ _ _ _, Chg.refl _ _, by simp [Part.wts]; omega, HR.out⟩
 case round =>
  obtain ⟨hkn, b, l', hA, hb1, hb2, hk, hO', hC, hwt, HK0⟩ := hrel
  have HK := Lib.hid HK0; clear HK0
  obtain ⟨A0, c0, hv0, _, _⟩ := hO'.form
  have HV := Lib.hid hv0; clear hv0
  obtain ⟨k0, k1, k2, kf1, _, kgl⟩ := hA.cells
  clear h0 h1 h2 f1 hgl
  have hSg : ∀ k, w.heap.size ≤ k → ¬ k = g := fun k hk e => by omega
  have hugb : ∀ j, u7.ownBlock = some j → j ≠ g := fun j hj => hSg j (hO'.block hj)
  by_cases hlt : b < s.size
  ·cases br
   case true =>
    obtain ⟨m, rfl⟩ : ∃ m, gk = m + 1 := ⟨gk - 1, by omega⟩
    have HD := Lib.hid (byte_drop s b hlt)
    have HCONS := Lib.hid (word_cons m d true q l' s[b] (s.data.toList.drop (b + 1)))
    have hx := extract_one s b hlt
    have q0 : (0 : Int) ≤ (b : Int) := by omega
    have q1 : (b : Int) < (s.size : Int) := by omega
    have hq125 : ((s[b].toNat : Int) == 125) = (s[b] == 125) := byte_eqn s[b] 125 (by decide)
    have hq39 : ((s[b].toNat : Int) == 39) = (s[b] == 39) := byte_eqn s[b] 39 (by decide)
    have hq34 : ((s[b].toNat : Int) == 34) = (s[b] == 34) := byte_eqn s[b] 34 (by decide)
    have hq96 : ((s[b].toNat : Int) == 96) = (s[b] == 96) := byte_eqn s[b] 96 (by decide)
    have hq36 : ((s[b].toNat : Int) == 36) = (s[b] == 36) := byte_eqn s[b] 36 (by decide)
    have hq92 : ((s[b].toNat : Int) == 92) = (s[b] == 92) := byte_eqn s[b] 92 (by decide)
    go_wp2
    go_quiet (fail)
    go_wp2
    go_quiet (fail)
    generalize s[b] = c at *
    have HSTOP : Hid (((true && c == 125) || (!true && metaB c)) = (c == 125)) := Lib.hid (by simp)
    cases hstop : (c == 125)
    case true =>
     rw [hstop] at hq125
     have HR1 : Hid (R = .ok l' (s.data.toList.drop b)) := Lib.hid (by
      rw [← HK.out, HD.out, HCONS.out, HSTOP.out, hstop, if_pos rfl])
     go_wp2_with (fail)
     go_ret
     rw [HR1.out]
     exact ⟨u7, b, rfl, by omega, rfl, (hO'.stay ((Chg.refl (fun _ => False) _).drewN _) (fun _ _ e => e)).mono (fun j h _ => .inr h), hA, hC.drewN _⟩
    case false =>
     rw [hstop] at hq125
     have HNS : Hid (((true && c == 125) || (!true && metaB c)) = false) := Lib.hid (by rw [HSTOP.out, hstop])
     clear HSTOP
     cases h92 : c == 92
     case true =>
      rw [h92] at hq92
      go_wp2_with (fail)
      have HD1 : Hid (∀ RD, escape l' (s.data.toList.drop b) = RD → (match RD with | .ok l1 r' => wordF m d true q l1 r' | .err a e => .err a e) = R) := Lib.hid (by
       rintro RD rfl
       rw [← HK.out, HD.out, HCONS.out, HNS.out, if_neg (by simp), if_pos h92])
      have HL := Lib.hid (escape_len l')
      refine (escape_calls g s b d (fun j => w.heap.size ≤ j) u7 l' (wr.drewN _) hA hlt hs (hO'.stay ((Chg.refl (fun _ => False) _).drewN _) (fun _ _ e => e)) (fun e => hSg g e rfl) (by omega)).mono ?_
      intro e w1 hpost
      generalize hRD : escape l' (s.data.toList.drop b) = RD at hpost
      have HD2 := Lib.hid (HD1.out RD hRD); clear HD1
      have HRD := Lib.hid hRD; clear hRD
      clear HCONS HK hx
      cases RD with
      | err left code =>
       obtain ⟨k, hk', hl, rfl, hC1⟩ := hpost
       refine ⟨rfl, ?_⟩
       rw [← HD2.out]
       exact ⟨k, hk', hl, rfl, (hC.drewN _).trans hC1 (fun j e hl => e.elim .inl (fun e => absurd (hO'.block e.symm) (by omega)))⟩
      | ok l1 rest =>
       obtain ⟨v2, k, rfl, hk', rfl, ⟨hO2, hat2⟩, hA2, hC2⟩ := hpost
       have hL := HL.out _ _ _ HRD.out
       rw [drop_len, drop_len] at hL
       have hz0 := hC.size
       have hC02 : Chg (fun j => j = g ∨ False) w w1 := (hC.drewN _).trans hC2 (fun j e hl => e.elim .inl (fun e => absurd (hO'.block e.symm) (by omega)))
       have hO2' := hO2.mono (S' := fun j => w.heap.size ≤ j) (fun j h _ => h.elim id (fun h => Nat.le_trans hz0 h))
       clear hO2
       go_wp2
       go_roundg m
       case measure => omega
       case rel => exact ⟨by omega, k, _, hA2, by omega, hk', by omega, hO2', hC02, by omega, HD2.out⟩
     case false =>
      rw [h92] at hq92
      cases h39 : c == 39
      case true =>
       rw [h39] at hq39
       have r0 : (0 : Int) ≤ (b : Int) + 1 := by omega
       have r1 : (b : Int) + 1 ≤ (s.size : Int) := by omega
       have r2 : ((b : Int) + 1).toNat = b + 1 := by omega
       have hwr : IntKind.i64.wrap ((b : Int) + 1) = (b : Int) + 1 := IntWalk.i64_in _ (by omega)
       have hIX : Lib.indexByte (s.extract (b + 1) s.size).data.toList 39 = (match idx 39 (s.data.toList.drop (b + 1)) with | none => (-1 : Int) | some k => (k : Int)) := by
        rw [Lib.extract_to_end, indexByte_idx]
       cases hidx : idx 39 (s.data.toList.drop (b + 1)) with
       | none =>
        rw [hidx] at hIX
        have HIX := Lib.hid hIX; clear hIX
        go_wp2_with (fail)
        go_quiet ((go_at_call 109; exact (ix_q _ _ _ HIX.out).mono (fun _ _ hh => ⟨hh.1, _, hh.2⟩)))
        go_wp2_with (go_at_call 110; refine (fail_calls _ _ _ _).mono ?_; rintro e w1 ⟨rfl, rfl⟩)
        refine ⟨rfl, ?_⟩
        rw [← HK.out, HD.out, HCONS.out, HNS.out, if_neg (by simp), if_neg (by simp [h92]), if_pos h39, hidx, drop_len]
        exact ⟨b, by omega, by omega, rfl, hC.drewN _⟩
       | some k =>
        rw [hidx] at hIX
        have HIX := Lib.hid hIX; clear hIX
        have hkl := idx_lt _ _ _ hidx
        rw [drop_len] at hkl
        have HNEXT : Hid (wordF m d true q (add l' (lit ((s.data.toList.drop (b + 1)).take k) true)) (s.data.toList.drop (b + (k + 2))) = R) := Lib.hid (by
         rw [← HK.out, HD.out, HCONS.out, HNS.out, if_neg (by simp), if_neg (by simp [h92]), if_pos h39, hidx]
         simp only [List.drop_drop]
         rw [show b + 1 + (k + 1) = b + (k + 2) by omega])
        have hx2 := extract_bstr s (b + 1) (b + 1 + k)
        rw [show b + 1 + k - (b + 1) = k by omega] at hx2
        have hTl : ((s.data.toList.drop (b + 1)).take k).length ≤ k := by simp; omega
        revert hTl; revert hx2; revert HNEXT
        generalize (s.data.toList.drop (b + 1)).take k = T
        intro HNEXT hx2 hTl
        clear hidx HD HCONS HK hx HNS
        have r3 : decide ((k : Int) < 0) = false := by simp
        have r5 : (b : Int) + 1 ≤ (b : Int) + 1 + (k : Int) := by omega
        have r6 : (b : Int) + 1 + (k : Int) ≤ (s.size : Int) := by omega
        have r7 : IntKind.i64.wrap ((b : Int) + 1 + (k : Int)) = (b : Int) + 1 + (k : Int) := IntWalk.i64_in _ (by omega)
        have r8 : ((b : Int) + 1 + (k : Int)).toNat = b + 1 + k := by omega
        have r9 : (0 : Int) ≤ (k : Int) := by omega
        have r10 : IntKind.i64.wrap ((b : Int) + ((k : Int) + 2)) = (b : Int) + ((k : Int) + 2) := IntWalk.i64_in _ (by omega)
        go_wp2_with (fail)
        go_quiet ((go_at_call 109; exact (ix_q _ _ _ HIX.out).mono (fun _ _ hh => ⟨hh.1, _, hh.2⟩)))
        go_wp2
        have hne : ¬ some g = u7.ownBlock := fun e => hugb g e.symm rfl
        have r3 : (b : Int) ≤ (b : Int) + 1 := by omega
        have r4 : (b : Int) + 1 ≤ (s.size : Int) := by omega
        go_region_held3 (fun w' => w'.cell? ⟨g, 0, none⟩ = some (.string s) ∧ w'.cell? ⟨g, 1, none⟩ = some (.int .i64 b))
         (first
          | go_keep
          | (go_split_ands; exact ⟨(Chg.of_below hb1').cell (by assumption) (fun e => e), (Chg.of_below hb1').cell (by assumption) (fun e => e)⟩)
          | (go_split_ands; exact ⟨hC2.cell (by assumption) hne, hC2.cell (by assumption) hne⟩))
         (first
          | (go_at_call 112; refine (lit_calls _ _ _).mono ?_; rintro e w1 ⟨rfl, hb1'⟩)
          | (go_at_call 111; refine (add_calls _ (fun j => w.heap.size ≤ j) (fun _ => False) u7 l' (lit T true) [.int .i64 1, .bool true, .string (bstr (T)), .string ⟨#[]⟩, .slice none 0 0] ((hO'.stay ((Chg.refl (fun _ => False) _).drewN _) (fun _ _ e => e)).stay (Chg.of_below hb1') (fun _ _ e => e)) (lit_rep _ (T) true) (fun _ h => h.elim) (by rw [lit_wt]; omega)).mono ?_; rintro e w2 ⟨v2, rfl, hO2, hC2, hat2⟩))
        have hz0 := hC.size
        have hz1 : wr.heap.size ≤ w1.heap.size := hb1'.size
        have hz2 := hC2.size
        have hA1 : ScanAt w1 g s (b : Nat) d := ScanAt.chg (w := wr.drewN _) hA (Chg.of_below hb1') (fun e => e)
        have hA2 := hA1.chg hC2 hne
        obtain ⟨j0, j1, j2, jf1, _, jgl⟩ := hA2.cells
        have haw := add_wt l' (lit T true)
        rw [lit_wt] at haw
        have hC02 : Chg (fun j => j = g ∨ False) w w2 := ((hC.drewN _).trans (Chg.of_below hb1') (fun _ h _ => h.elim)).trans hC2 (fun j e hl => absurd (hO'.block e.symm) (by omega))
        have hO2' := (hO2.mono (S' := fun j => w.heap.size ≤ j) (fun j h _ => h.elim id (fun h => by omega))).stay (((Chg.refl (· = g) _)).setCell (p := ⟨g, 1, none⟩) (fun _ => rfl) (.int .i64 (b + (k + 2) : Int))) hSg
        have hA3 := hA2.at' (b + (k + 2) : Int)
        have HC03 := hC02.setCell (p := ⟨g, 1, none⟩) (fun _ => .inl rfl) (.int .i64 (b + (k + 2) : Int))
        clear hO2 hA1
        go_wp2
        go_roundg m
        case measure => omega
        case rel => exact ⟨by omega, b + (k + 2), _, hA3, by omega, by omega, by omega, hO2', HC03, by omega, HNEXT.out⟩
      case false =>
       rw [h39] at hq39
       cases h34 : c == 34
       case true =>
        rw [h34] at hq34
        go_wp2_with (fail)
        have HD1 : Hid (∀ RD, doubleF m d ((s.data.toList.drop (b + 1)).length + 1) l' (s.data.toList.drop (b + 1)) = RD → (match RD with | .ok l1 r' => wordF m d true q l1 r' | .err a e => .err a e) = R) := Lib.hid (by
         rintro RD rfl
         rw [← HK.out, HD.out, HCONS.out, HNS.out, if_neg (by simp), if_neg (by simp [h92]), if_neg (by simp [h39]), if_pos h34])
        rw [drop_len, show s.size - (b + 1) + 1 = s.size - b by omega] at HD1
        have HL := Lib.hid ((scan_len m).double d (s.size - b) l' (s.data.toList.drop (b + 1)))
        refine ((IH m (by omega)).1 (wr.drewN _) g s b d (fun j => w.heap.size ≤ j) u7 l' hA hlt hs hd (by omega) (hO'.stay ((Chg.refl (fun _ => False) _).drewN _) (fun _ _ e => e)) (fun e => hSg g e rfl) (by omega)).mono ?_
        intro e w1 hpost
        generalize hRD : doubleF m d (s.size - b) l' (s.data.toList.drop (b + 1)) = RD at hpost
        have HD2 := Lib.hid (HD1.out RD hRD); clear HD1
        have HRD := Lib.hid hRD; clear hRD
        clear HCONS HK hx
        cases RD with
        | err left code =>
         obtain ⟨k, hk', hl, rfl, hC1⟩ := hpost
         refine ⟨rfl, ?_⟩
         rw [← HD2.out]
         exact ⟨k, hk', hl, rfl, (hC.drewN _).trans hC1 (fun j e hl => e.elim .inl (fun e => absurd (hO'.block e.symm) (by omega)))⟩
        | ok l1 rest =>
         obtain ⟨v2, k, rfl, hk', rfl, hO2, hA2, hC2⟩ := hpost
         have hL := HL.out _ _ HRD.out
         rw [drop_len, drop_len] at hL
         have hz0 := hC.size
         have hC02 : Chg (fun j => j = g ∨ False) w w1 := (hC.drewN _).trans hC2 (fun j e hl => e.elim .inl (fun e => absurd (hO'.block e.symm) (by omega)))
         have hO2' := hO2.mono (S' := fun j => w.heap.size ≤ j) (fun j h _ => h.elim id (fun h => Nat.le_trans hz0 h))
         clear hO2
         go_wp2
         go_roundg m
         case measure => omega
         case rel => exact ⟨by omega, k, _, hA2, by omega, hk', by omega, hO2', hC02, by omega, HD2.out⟩
       case false =>
        rw [h34] at hq34
        cases h96 : c == 96
        case true =>
         rw [h96] at hq96
         go_wp2_with (first | (go_at_call 110; refine (fail_calls _ _ _ _).mono ?_; rintro e w1 ⟨rfl, rfl⟩) | fail)
         refine ⟨rfl, ?_⟩
         rw [← HK.out, HD.out, HCONS.out, HNS.out, if_neg (by simp), if_neg (by simp [h92]), if_neg (by simp [h39]), if_neg (by simp [h34]), if_pos h96, drop_len]
         exact ⟨b, by omega, by omega, rfl, hC.drewN _⟩
        case false =>
         rw [h96] at hq96
         cases h36 : c == 36
         case true =>
          rw [h36] at hq36
          go_wp2_with (fail)
          have HD1 : Hid (∀ RD, dollarF m d q (s.data.toList.drop (b + 1)) = RD → (match RD with | .ok p r' => wordF m d true q (add l' p) r' | .err a e => .err a e) = R) := Lib.hid (by
           rintro RD rfl
           rw [← HK.out, HD.out, HCONS.out, HNS.out, if_neg (by simp), if_neg (by simp [h92]), if_neg (by simp [h39]), if_neg (by simp [h34]), if_neg (by simp [h96]), if_pos h36])
          have HL := Lib.hid ((scan_len m).dollar d q (s.data.toList.drop (b + 1)))
          refine ((IH m (by omega)).2 (wr.drewN _) g s b d q hA hlt hs hd (by omega)).mono ?_
          intro e w1 hpost
          generalize hRD : dollarF m d q (s.data.toList.drop (b + 1)) = RD at hpost HL
          have HD2 := Lib.hid (HD1.out RD hRD); clear HD1 hRD
          clear HD HCONS HK hx
          cases RD with
          | err left code =>
           obtain ⟨k, hk', hl, rfl, hC1⟩ := hpost
           refine ⟨rfl, ?_⟩
           rw [← HD2.out]
           exact ⟨k, hk', hl, rfl, (hC.drewN _).trans hC1 (fun _ h _ => h)⟩
          | ok p rest =>
           obtain ⟨v1, k, rfl, hk', rfl, ⟨cs, rfl, hrep⟩, hA1, hC1⟩ := hpost
           have hL := HL.out p _ rfl
           rw [drop_len, drop_len] at hL
           have hz0 := hC.size
           have hO1 : Own w1 (fun j => w.heap.size ≤ j) 103 5 u7 (Part.ds l') := hO'.stay (((Chg.refl (fun j => j = g ∨ False) _).drewN _).trans hC1 (fun _ h _ => h)) (fun k hk e => e.elim (hSg k hk) id)
           have hub : ∀ j, some j = u7.ownBlock → j < wr.heap.size := fun j e => Own.lt hO' e.symm
           go_wp2_with fail
           refine (add_calls w1 _ _ u7 l' p cs hO1 hrep (fun j hj hl => ⟨by simp at hj; omega, fun e => by have := hub j e; simp at hj; omega⟩) (by omega)).mono ?_
           rintro e w2 ⟨v2, rfl, hO2, hC2, hat2⟩
           have hz1 : wr.heap.size ≤ w1.heap.size := hC1.size
           have hz2 := hC2.size
           have hne : ¬ some g = u7.ownBlock := fun e => hugb g e.symm rfl
           have haw := add_wt l' p
           have hC02 : Chg (fun j => j = g ∨ False) w w2 := ((hC.drewN _).trans hC1 (fun _ h _ => h)).trans hC2 (fun j e hl => absurd (hO'.block e.symm) (by omega))
           have hO2' := hO2.mono (S' := fun j => w.heap.size ≤ j) (fun j h _ => h.elim id (fun h => by omega))
           have hA2 := hA1.chg hC2 hne
           clear hub hO1 hrep
           go_wp2
           go_roundg m
           case measure => omega
           case rel => exact ⟨by omega, k, _, hA2, by omega, hk', by omega, hO2', hC02, by omega, HD2.out⟩
         case false =>
          rw [h36] at hq36
          have HNEXT : Hid (wordF m d true q (add l' (lit [c] q)) (s.data.toList.drop (b + 1)) = R) := Lib.hid (by
           rw [← HK.out, HD.out, HCONS.out, HNS.out, if_neg (by simp), if_neg (by simp [h92]), if_neg (by simp [h39]), if_neg (by simp [h34]), if_neg (by simp [h96]), if_neg (by simp [h36])])
          clear HD HCONS HK HNS
          have hTl : ([c] : Bytes).length = 1 := rfl
          have hwr : IntKind.i64.wrap ((b : Int) + 1) = (b : Int) + 1 := IntWalk.i64_in _ (by omega)
          go_wp2_with (fail)
          have hne : ¬ some g = u7.ownBlock := fun e => hugb g e.symm rfl
          have r3 : (b : Int) ≤ (b : Int) + 1 := by omega
          have r4 : (b : Int) + 1 ≤ (s.size : Int) := by omega
          go_region_held3 (fun w' => w'.cell? ⟨g, 0, none⟩ = some (.string s) ∧ w'.cell? ⟨g, 1, none⟩ = some (.int .i64 b))
           (first
            | go_keep
            | (go_split_ands; exact ⟨(Chg.of_below hb1').cell (by assumption) (fun e => e), (Chg.of_below hb1').cell (by assumption) (fun e => e)⟩)
            | (go_split_ands; exact ⟨hC2.cell (by assumption) hne, hC2.cell (by assumption) hne⟩))
           (first
            | (go_at_call 112; refine (lit_calls _ _ _).mono ?_; rintro e w1 ⟨rfl, hb1'⟩)
            | (go_at_call 111; refine (add_calls _ (fun j => w.heap.size ≤ j) (fun _ => False) u7 l' (lit [c] q) [.int .i64 1, .bool q, .string (bstr ([c])), .string ⟨#[]⟩, .slice none 0 0] ((hO'.stay ((Chg.refl (fun _ => False) _).drewN _) (fun _ _ e => e)).stay (Chg.of_below hb1') (fun _ _ e => e)) (lit_rep _ ([c]) q) (fun _ h => h.elim) (by rw [lit_wt]; omega)).mono ?_; rintro e w2 ⟨v2, rfl, hO2, hC2, hat2⟩))
          have hz0 := hC.size
          have hz1 : wr.heap.size ≤ w1.heap.size := hb1'.size
          have hz2 := hC2.size
          have hA1 : ScanAt w1 g s (b : Nat) d := ScanAt.chg (w := wr.drewN _) hA (Chg.of_below hb1') (fun e => e)
          have hA2 := hA1.chg hC2 hne
          obtain ⟨j0, j1, j2, jf1, _, jgl⟩ := hA2.cells
          have haw := add_wt l' (lit [c] q)
          rw [lit_wt] at haw
          have hC02 : Chg (fun j => j = g ∨ False) w w2 := ((hC.drewN _).trans (Chg.of_below hb1') (fun _ h _ => h.elim)).trans hC2 (fun j e hl => absurd (hO'.block e.symm) (by omega))
          have hO2' := (hO2.mono (S' := fun j => w.heap.size ≤ j) (fun j h _ => h.elim id (fun h => by omega))).stay (((Chg.refl (· = g) _)).setCell (p := ⟨g, 1, none⟩) (fun _ => rfl) (.int .i64 (b + 1 : Int))) hSg
          have hA3 := hA2.at' (b + 1 : Int)
          have HC03 := hC02.setCell (p := ⟨g, 1, none⟩) (fun _ => .inl rfl) (.int .i64 (b + 1 : Int))
          clear hO2 hA1
          go_wp2
          go_roundg m
          case measure => omega
          case rel => exact ⟨by omega, b + 1, _, hA3, by omega, by omega, by omega, hO2', HC03, by omega, HNEXT.out⟩
   case false =>
    obtain ⟨m, rfl⟩ : ∃ m, gk = m + 1 := ⟨gk - 1, by omega⟩
    have HD := Lib.hid (byte_drop s b hlt)
    have HCONS := Lib.hid (word_cons m d false q l' s[b] (s.data.toList.drop (b + 1)))
    have hx := extract_one s b hlt
    have q0 : (0 : Int) ≤ (b : Int) := by omega
    have q1 : (b : Int) < (s.size : Int) := by omega
    have hq125 : ((s[b].toNat : Int) == 125) = (s[b] == 125) := byte_eqn s[b] 125 (by decide)
    have hq39 : ((s[b].toNat : Int) == 39) = (s[b] == 39) := byte_eqn s[b] 39 (by decide)
    have hq34 : ((s[b].toNat : Int) == 34) = (s[b] == 34) := byte_eqn s[b] 34 (by decide)
    have hq96 : ((s[b].toNat : Int) == 96) = (s[b] == 96) := byte_eqn s[b] 96 (by decide)
    have hq36 : ((s[b].toNat : Int) == 36) = (s[b] == 36) := byte_eqn s[b] 36 (by decide)
    have hq92 : ((s[b].toNat : Int) == 92) = (s[b] == 92) := byte_eqn s[b] 92 (by decide)
    go_wp2
    go_quiet (fail)
    go_wp2
    go_quiet (fail)
    generalize s[b] = c at *
    have HSTOP : Hid (((false && c == 125) || (!false && metaB c)) = (metaB c)) := Lib.hid (by simp)
    cases hstop : (metaB c)
    case true =>
     skip
     have HR1 : Hid (R = .ok l' (s.data.toList.drop b)) := Lib.hid (by
      rw [← HK.out, HD.out, HCONS.out, HSTOP.out, hstop, if_pos rfl])
     go_wp2_with ((go_at_call 107; refine (meta_calls _ _).mono ?_; rintro e w' ⟨rfl, rfl⟩; rw [hstop]))
     go_ret
     rw [HR1.out]
     exact ⟨u7, b, rfl, by omega, rfl, (hO'.stay ((Chg.refl (fun _ => False) _).drewN _) (fun _ _ e => e)).mono (fun j h _ => .inr h), hA, hC.drewN _⟩
    case false =>
     skip
     have HNS : Hid (((false && c == 125) || (!false && metaB c)) = false) := Lib.hid (by rw [HSTOP.out, hstop])
     clear HSTOP
     cases h92 : c == 92
     case true =>
      rw [h92] at hq92
      go_wp2_with ((go_at_call 107; refine (meta_calls _ _).mono ?_; rintro e w' ⟨rfl, rfl⟩; rw [hstop]))
      have HD1 : Hid (∀ RD, escape l' (s.data.toList.drop b) = RD → (match RD with | .ok l1 r' => wordF m d false q l1 r' | .err a e => .err a e) = R) := Lib.hid (by
       rintro RD rfl
       rw [← HK.out, HD.out, HCONS.out, HNS.out, if_neg (by simp), if_pos h92])
      have HL := Lib.hid (escape_len l')
      refine (escape_calls g s b d (fun j => w.heap.size ≤ j) u7 l' (wr.drewN _) hA hlt hs (hO'.stay ((Chg.refl (fun _ => False) _).drewN _) (fun _ _ e => e)) (fun e => hSg g e rfl) (by omega)).mono ?_
      intro e w1 hpost
      generalize hRD : escape l' (s.data.toList.drop b) = RD at hpost
      have HD2 := Lib.hid (HD1.out RD hRD); clear HD1
      have HRD := Lib.hid hRD; clear hRD
      clear HCONS HK hx
      cases RD with
      | err left code =>
       obtain ⟨k, hk', hl, rfl, hC1⟩ := hpost
       refine ⟨rfl, ?_⟩
       rw [← HD2.out]
       exact ⟨k, hk', hl, rfl, (hC.drewN _).trans hC1 (fun j e hl => e.elim .inl (fun e => absurd (hO'.block e.symm) (by omega)))⟩
      | ok l1 rest =>
       obtain ⟨v2, k, rfl, hk', rfl, ⟨hO2, hat2⟩, hA2, hC2⟩ := hpost
       have hL := HL.out _ _ _ HRD.out
       rw [drop_len, drop_len] at hL
       have hz0 := hC.size
       have hC02 : Chg (fun j => j = g ∨ False) w w1 := (hC.drewN _).trans hC2 (fun j e hl => e.elim .inl (fun e => absurd (hO'.block e.symm) (by omega)))
       have hO2' := hO2.mono (S' := fun j => w.heap.size ≤ j) (fun j h _ => h.elim id (fun h => Nat.le_trans hz0 h))
       clear hO2
       go_wp2
       go_roundg m
       case measure => omega
       case rel => exact ⟨by omega, k, _, hA2, by omega, hk', by omega, hO2', hC02, by omega, HD2.out⟩
     case false =>
      rw [h92] at hq92
      cases h39 : c == 39
      case true =>
       rw [h39] at hq39
       have r0 : (0 : Int) ≤ (b : Int) + 1 := by omega
       have r1 : (b : Int) + 1 ≤ (s.size : Int) := by omega
       have r2 : ((b : Int) + 1).toNat = b + 1 := by omega
       have hwr : IntKind.i64.wrap ((b : Int) + 1) = (b : Int) + 1 := IntWalk.i64_in _ (by omega)
       have hIX : Lib.indexByte (s.extract (b + 1) s.size).data.toList 39 = (match idx 39 (s.data.toList.drop (b + 1)) with | none => (-1 : Int) | some k => (k : Int)) := by
        rw [Lib.extract_to_end, indexByte_idx]
       cases hidx : idx 39 (s.data.toList.drop (b + 1)) with
       | none =>
        rw [hidx] at hIX
        have HIX := Lib.hid hIX; clear hIX
        go_wp2_with ((go_at_call 107; refine (meta_calls _ _).mono ?_; rintro e w' ⟨rfl, rfl⟩; rw [hstop]))
        go_quiet ((go_at_call 109; exact (ix_q _ _ _ HIX.out).mono (fun _ _ hh => ⟨hh.1, _, hh.2⟩)))
        go_wp2_with (go_at_call 110; refine (fail_calls _ _ _ _).mono ?_; rintro e w1 ⟨rfl, rfl⟩)
        refine ⟨rfl, ?_⟩
        rw [← HK.out, HD.out, HCONS.out, HNS.out, if_neg (by simp), if_neg (by simp [h92]), if_pos h39, hidx, drop_len]
        exact ⟨b, by omega, by omega, rfl, hC.drewN _⟩
       | some k =>
        rw [hidx] at hIX
        have HIX := Lib.hid hIX; clear hIX
        have hkl := idx_lt _ _ _ hidx
        rw [drop_len] at hkl
        have HNEXT : Hid (wordF m d false q (add l' (lit ((s.data.toList.drop (b + 1)).take k) true)) (s.data.toList.drop (b + (k + 2))) = R) := Lib.hid (by
         rw [← HK.out, HD.out, HCONS.out, HNS.out, if_neg (by simp), if_neg (by simp [h92]), if_pos h39, hidx]
         simp only [List.drop_drop]
         rw [show b + 1 + (k + 1) = b + (k + 2) by omega])
        have hx2 := extract_bstr s (b + 1) (b + 1 + k)
        rw [show b + 1 + k - (b + 1) = k by omega] at hx2
        have hTl : ((s.data.toList.drop (b + 1)).take k).length ≤ k := by simp; omega
        revert hTl; revert hx2; revert HNEXT
        generalize (s.data.toList.drop (b + 1)).take k = T
        intro HNEXT hx2 hTl
        clear hidx HD HCONS HK hx HNS
        have r3 : decide ((k : Int) < 0) = false := by simp
        have r5 : (b : Int) + 1 ≤ (b : Int) + 1 + (k : Int) := by omega
        have r6 : (b : Int) + 1 + (k : Int) ≤ (s.size : Int) := by omega
        have r7 : IntKind.i64.wrap ((b : Int) + 1 + (k : Int)) = (b : Int) + 1 + (k : Int) := IntWalk.i64_in _ (by omega)
        have r8 : ((b : Int) + 1 + (k : Int)).toNat = b + 1 + k := by omega
        have r9 : (0 : Int) ≤ (k : Int) := by omega
        have r10 : IntKind.i64.wrap ((b : Int) + ((k : Int) + 2)) = (b : Int) + ((k : Int) + 2) := IntWalk.i64_in _ (by omega)
        go_wp2_with ((go_at_call 107; refine (meta_calls _ _).mono ?_; rintro e w' ⟨rfl, rfl⟩; rw [hstop]))
        go_quiet ((go_at_call 109; exact (ix_q _ _ _ HIX.out).mono (fun _ _ hh => ⟨hh.1, _, hh.2⟩)))
        go_wp2
        have hne : ¬ some g = u7.ownBlock := fun e => hugb g e.symm rfl
        have r3 : (b : Int) ≤ (b : Int) + 1 := by omega
        have r4 : (b : Int) + 1 ≤ (s.size : Int) := by omega
        go_region_held3 (fun w' => w'.cell? ⟨g, 0, none⟩ = some (.string s) ∧ w'.cell? ⟨g, 1, none⟩ = some (.int .i64 b))
         (first
          | go_keep
          | (go_split_ands; exact ⟨(Chg.of_below hb1').cell (by assumption) (fun e => e), (Chg.of_below hb1').cell (by assumption) (fun e => e)⟩)
          | (go_split_ands; exact ⟨hC2.cell (by assumption) hne, hC2.cell (by assumption) hne⟩))
         (first
          | (go_at_call 112; refine (lit_calls _ _ _).mono ?_; rintro e w1 ⟨rfl, hb1'⟩)
          | (go_at_call 111; refine (add_calls _ (fun j => w.heap.size ≤ j) (fun _ => False) u7 l' (lit T true) [.int .i64 1, .bool true, .string (bstr (T)), .string ⟨#[]⟩, .slice none 0 0] ((hO'.stay ((Chg.refl (fun _ => False) _).drewN _) (fun _ _ e => e)).stay (Chg.of_below hb1') (fun _ _ e => e)) (lit_rep _ (T) true) (fun _ h => h.elim) (by rw [lit_wt]; omega)).mono ?_; rintro e w2 ⟨v2, rfl, hO2, hC2, hat2⟩))
        have hz0 := hC.size
        have hz1 : wr.heap.size ≤ w1.heap.size := hb1'.size
        have hz2 := hC2.size
        have hA1 : ScanAt w1 g s (b : Nat) d := ScanAt.chg (w := wr.drewN _) hA (Chg.of_below hb1') (fun e => e)
        have hA2 := hA1.chg hC2 hne
        obtain ⟨j0, j1, j2, jf1, _, jgl⟩ := hA2.cells
        have haw := add_wt l' (lit T true)
        rw [lit_wt] at haw
        have hC02 : Chg (fun j => j = g ∨ False) w w2 := ((hC.drewN _).trans (Chg.of_below hb1') (fun _ h _ => h.elim)).trans hC2 (fun j e hl => absurd (hO'.block e.symm) (by omega))
        have hO2' := (hO2.mono (S' := fun j => w.heap.size ≤ j) (fun j h _ => h.elim id (fun h => by omega))).stay (((Chg.refl (· = g) _)).setCell (p := ⟨g, 1, none⟩) (fun _ => rfl) (.int .i64 (b + (k + 2) : Int))) hSg
        have hA3 := hA2.at' (b + (k + 2) : Int)
        have HC03 := hC02.setCell (p := ⟨g, 1, none⟩) (fun _ => .inl rfl) (.int .i64 (b + (k + 2) : Int))
        clear hO2 hA1
        go_wp2
        go_roundg m
        case measure => omega
        case rel => exact ⟨by omega, b + (k + 2), _, hA3, by omega, by omega, by omega, hO2', HC03, by omega, HNEXT.out⟩
      case false =>
       rw [h39] at hq39
       cases h34 : c == 34
       case true =>
        rw [h34] at hq34
        go_wp2_with ((go_at_call 107; refine (meta_calls _ _).mono ?_; rintro e w' ⟨rfl, rfl⟩; rw [hstop]))
        have HD1 : Hid (∀ RD, doubleF m d ((s.data.toList.drop (b + 1)).length + 1) l' (s.data.toList.drop (b + 1)) = RD → (match RD with | .ok l1 r' => wordF m d false q l1 r' | .err a e => .err a e) = R) := Lib.hid (by
         rintro RD rfl
         rw [← HK.out, HD.out, HCONS.out, HNS.out, if_neg (by simp), if_neg (by simp [h92]), if_neg (by simp [h39]), if_pos h34])
        rw [drop_len, show s.size - (b + 1) + 1 = s.size - b by omega] at HD1
        have HL := Lib.hid ((scan_len m).double d (s.size - b) l' (s.data.toList.drop (b + 1)))
        refine ((IH m (by omega)).1 (wr.drewN _) g s b d (fun j => w.heap.size ≤ j) u7 l' hA hlt hs hd (by omega) (hO'.stay ((Chg.refl (fun _ => False) _).drewN _) (fun _ _ e => e)) (fun e => hSg g e rfl) (by omega)).mono ?_
        intro e w1 hpost
        generalize hRD : doubleF m d (s.size - b) l' (s.data.toList.drop (b + 1)) = RD at hpost
        have HD2 := Lib.hid (HD1.out RD hRD); clear HD1
        have HRD := Lib.hid hRD; clear hRD
        clear HCONS HK hx
        cases RD with
        | err left code =>
         obtain ⟨k, hk', hl, rfl, hC1⟩ := hpost
         refine ⟨rfl, ?_⟩
         rw [← HD2.out]
         exact ⟨k, hk', hl, rfl, (hC.drewN _).trans hC1 (fun j e hl => e.elim .inl (fun e => absurd (hO'.block e.symm) (by omega)))⟩
        | ok l1 rest =>
         obtain ⟨v2, k, rfl, hk', rfl, hO2, hA2, hC2⟩ := hpost
         have hL := HL.out _ _ HRD.out
         rw [drop_len, drop_len] at hL
         have hz0 := hC.size
         have hC02 : Chg (fun j => j = g ∨ False) w w1 := (hC.drewN _).trans hC2 (fun j e hl => e.elim .inl (fun e => absurd (hO'.block e.symm) (by omega)))
         have hO2' := hO2.mono (S' := fun j => w.heap.size ≤ j) (fun j h _ => h.elim id (fun h => Nat.le_trans hz0 h))
         clear hO2
         go_wp2
         go_roundg m
         case measure => omega
         case rel => exact ⟨by omega, k, _, hA2, by omega, hk', by omega, hO2', hC02, by omega, HD2.out⟩
       case false =>
        rw [h34] at hq34
        cases h96 : c == 96
        case true =>
         rw [h96] at hq96
         go_wp2_with (first | (go_at_call 110; refine (fail_calls _ _ _ _).mono ?_; rintro e w1 ⟨rfl, rfl⟩) | (go_at_call 107; refine (meta_calls _ _).mono ?_; rintro e w' ⟨rfl, rfl⟩; rw [hstop]))
         refine ⟨rfl, ?_⟩
         rw [← HK.out, HD.out, HCONS.out, HNS.out, if_neg (by simp), if_neg (by simp [h92]), if_neg (by simp [h39]), if_neg (by simp [h34]), if_pos h96, drop_len]
         exact ⟨b, by omega, by omega, rfl, hC.drewN _⟩
        case false =>
         rw [h96] at hq96
         cases h36 : c == 36
         case true =>
          rw [h36] at hq36
          go_wp2_with ((go_at_call 107; refine (meta_calls _ _).mono ?_; rintro e w' ⟨rfl, rfl⟩; rw [hstop]))
          have HD1 : Hid (∀ RD, dollarF m d q (s.data.toList.drop (b + 1)) = RD → (match RD with | .ok p r' => wordF m d false q (add l' p) r' | .err a e => .err a e) = R) := Lib.hid (by
           rintro RD rfl
           rw [← HK.out, HD.out, HCONS.out, HNS.out, if_neg (by simp), if_neg (by simp [h92]), if_neg (by simp [h39]), if_neg (by simp [h34]), if_neg (by simp [h96]), if_pos h36])
          have HL := Lib.hid ((scan_len m).dollar d q (s.data.toList.drop (b + 1)))
          refine ((IH m (by omega)).2 (wr.drewN _) g s b d q hA hlt hs hd (by omega)).mono ?_
          intro e w1 hpost
          generalize hRD : dollarF m d q (s.data.toList.drop (b + 1)) = RD at hpost HL
          have HD2 := Lib.hid (HD1.out RD hRD); clear HD1 hRD
          clear HD HCONS HK hx
          cases RD with
          | err left code =>
           obtain ⟨k, hk', hl, rfl, hC1⟩ := hpost
           refine ⟨rfl, ?_⟩
           rw [← HD2.out]
           exact ⟨k, hk', hl, rfl, (hC.drewN _).trans hC1 (fun _ h _ => h)⟩
          | ok p rest =>
           obtain ⟨v1, k, rfl, hk', rfl, ⟨cs, rfl, hrep⟩, hA1, hC1⟩ := hpost
           have hL := HL.out p _ rfl
           rw [drop_len, drop_len] at hL
           have hz0 := hC.size
           have hO1 : Own w1 (fun j => w.heap.size ≤ j) 103 5 u7 (Part.ds l') := hO'.stay (((Chg.refl (fun j => j = g ∨ False) _).drewN _).trans hC1 (fun _ h _ => h)) (fun k hk e => e.elim (hSg k hk) id)
           have hub : ∀ j, some j = u7.ownBlock → j < wr.heap.size := fun j e => Own.lt hO' e.symm
           go_wp2_with fail
           refine (add_calls w1 _ _ u7 l' p cs hO1 hrep (fun j hj hl => ⟨by simp at hj; omega, fun e => by have := hub j e; simp at hj; omega⟩) (by omega)).mono ?_
           rintro e w2 ⟨v2, rfl, hO2, hC2, hat2⟩
           have hz1 : wr.heap.size ≤ w1.heap.size := hC1.size
           have hz2 := hC2.size
           have hne : ¬ some g = u7.ownBlock := fun e => hugb g e.symm rfl
           have haw := add_wt l' p
           have hC02 : Chg (fun j => j = g ∨ False) w w2 := ((hC.drewN _).trans hC1 (fun _ h _ => h)).trans hC2 (fun j e hl => absurd (hO'.block e.symm) (by omega))
           have hO2' := hO2.mono (S' := fun j => w.heap.size ≤ j) (fun j h _ => h.elim id (fun h => by omega))
           have hA2 := hA1.chg hC2 hne
           clear hub hO1 hrep
           go_wp2
           go_roundg m
           case measure => omega
           case rel => exact ⟨by omega, k, _, hA2, by omega, hk', by omega, hO2', hC02, by omega, HD2.out⟩
         case false =>
          rw [h36] at hq36
          have HNEXT : Hid (wordF m d false q (add l' (lit [c] q)) (s.data.toList.drop (b + 1)) = R) := Lib.hid (by
           rw [← HK.out, HD.out, HCONS.out, HNS.out, if_neg (by simp), if_neg (by simp [h92]), if_neg (by simp [h39]), if_neg (by simp [h34]), if_neg (by simp [h96]), if_neg (by simp [h36])])
          clear HD HCONS HK HNS
          have hTl : ([c] : Bytes).length = 1 := rfl
          have hwr : IntKind.i64.wrap ((b : Int) + 1) = (b : Int) + 1 := IntWalk.i64_in _ (by omega)
          go_wp2_with ((go_at_call 107; refine (meta_calls _ _).mono ?_; rintro e w' ⟨rfl, rfl⟩; rw [hstop]))
          have hne : ¬ some g = u7.ownBlock := fun e => hugb g e.symm rfl
          have r3 : (b : Int) ≤ (b : Int) + 1 := by omega
          have r4 : (b : Int) + 1 ≤ (s.size : Int) := by omega
          go_region_held3 (fun w' => w'.cell? ⟨g, 0, none⟩ = some (.string s) ∧ w'.cell? ⟨g, 1, none⟩ = some (.int .i64 b))
           (first
            | go_keep
            | (go_split_ands; exact ⟨(Chg.of_below hb1').cell (by assumption) (fun e => e), (Chg.of_below hb1').cell (by assumption) (fun e => e)⟩)
            | (go_split_ands; exact ⟨hC2.cell (by assumption) hne, hC2.cell (by assumption) hne⟩))
           (first
            | (go_at_call 112; refine (lit_calls _ _ _).mono ?_; rintro e w1 ⟨rfl, hb1'⟩)
            | (go_at_call 111; refine (add_calls _ (fun j => w.heap.size ≤ j) (fun _ => False) u7 l' (lit [c] q) [.int .i64 1, .bool q, .string (bstr ([c])), .string ⟨#[]⟩, .slice none 0 0] ((hO'.stay ((Chg.refl (fun _ => False) _).drewN _) (fun _ _ e => e)).stay (Chg.of_below hb1') (fun _ _ e => e)) (lit_rep _ ([c]) q) (fun _ h => h.elim) (by rw [lit_wt]; omega)).mono ?_; rintro e w2 ⟨v2, rfl, hO2, hC2, hat2⟩))
          have hz0 := hC.size
          have hz1 : wr.heap.size ≤ w1.heap.size := hb1'.size
          have hz2 := hC2.size
          have hA1 : ScanAt w1 g s (b : Nat) d := ScanAt.chg (w := wr.drewN _) hA (Chg.of_below hb1') (fun e => e)
          have hA2 := hA1.chg hC2 hne
          obtain ⟨j0, j1, j2, jf1, _, jgl⟩ := hA2.cells
          have haw := add_wt l' (lit [c] q)
          rw [lit_wt] at haw
          have hC02 : Chg (fun j => j = g ∨ False) w w2 := ((hC.drewN _).trans (Chg.of_below hb1') (fun _ h _ => h.elim)).trans hC2 (fun j e hl => absurd (hO'.block e.symm) (by omega))
          have hO2' := (hO2.mono (S' := fun j => w.heap.size ≤ j) (fun j h _ => h.elim id (fun h => by omega))).stay (((Chg.refl (· = g) _)).setCell (p := ⟨g, 1, none⟩) (fun _ => rfl) (.int .i64 (b + 1 : Int))) hSg
          have hA3 := hA2.at' (b + 1 : Int)
          have HC03 := hC02.setCell (p := ⟨g, 1, none⟩) (fun _ => .inl rfl) (.int .i64 (b + 1 : Int))
          clear hO2 hA1
          go_wp2
          go_roundg m
          case measure => omega
          case rel => exact ⟨by omega, b + 1, _, hA3, by omega, by omega, by omega, hO2', HC03, by omega, HNEXT.out⟩
  ·have q1 : decide ((b : Int) < (s.size : Int)) = false := by simp; omega
   obtain ⟨m, rfl⟩ : ∃ m, gk = m + 1 := ⟨gk - 1, by omega⟩
   have HR1 : Hid (R = .ok l' (s.data.toList.drop b)) := Lib.hid (by rw [← HK.out, drop_end s b hlt, word_nil])
   go_wp2
   go_quiet (fail)
   go_wp2
   go_ret
   rw [HR1.out]
   exact ⟨u7, b, rfl, by omega, rfl, (hO'.stay ((Chg.refl (fun _ => False) _).drewN _) (fun _ _ e => e)).mono (fun j h _ => .inr h), hA, hC.drewN _⟩
structure ScanSaid (n : Nat) : Prop where
 word : WordSaid n
 double : DoubleSaid n
 dollar : DollarSaid n
 param : ParamSaid n
theorem scan_said (n : Nat) : ScanSaid n := by
 induction n using Nat.strongRecOn with
 | _ n ih =>
  refine ⟨word_said n (fun m h => ⟨(ih m h).double, (ih m h).dollar⟩), double_said n (fun m h => (ih m h).dollar), ?_, ?_⟩
  ·cases n with
   | zero => intro w g s a d q h ha hs hd hf; exact absurd hf (by omega)
   | succ n => exact dollar_said n (ih n (by omega)).param
  ·cases n with
   | zero => intro w g s a d q h ha hs hd hf; exact absurd hf (by omega)
   | succ n => exact param_said n (ih n (by omega)).word
theorem word_calls (w : World) (g : Nat) (s : ByteArray) (a : Nat) (h : ScanAt w g s a 0) (ha : a ≤ s.size) (hs : s.size ≤ 8192) :
  Calls Tryz.prog 97 #[.pointer (some ⟨g, 0, none⟩), .bool false, .bool false] w (ScanPost w g s 0 (scan (s.data.toList.drop a)) (fun _ => False) (RowVal w (fun _ => False))) :=
 (scan_said _).word w g s a 0 false false h ha hs (by decide) (by rw [fuel, drop_len]; exact Nat.le_refl _)
end Go.Proofs.YtdfnkmiabmjolaaGreatDoor
