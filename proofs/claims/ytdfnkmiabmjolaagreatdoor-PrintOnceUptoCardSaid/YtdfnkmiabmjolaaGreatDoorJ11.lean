/- assigned. And what stands with it. -/
import Derived.Test.YtdfnkmiabmjolaaGreatDoorJ10
import Derived.BigRegion
import Derived.WalkSpells
set_option linter.unusedVariables false
set_option linter.unusedSimpArgs false
namespace Go.Proofs.YtdfnkmiabmjolaaGreatDoor
open Go.RowKit
theorem RepE.one' {w : World} {S : Nat → Prop} {sz : Nat} : ∀ (ds : List D) (cs : List Value), RepE w S sz ds cs → ∀ u ∈ cs, u.oneCell' = true
 | [], _, h => by intro u hu; cases h; cases hu
 | d :: ds, _, ⟨c1, c2, h1, h2, h3, h4⟩ => by
  intro u hu
  rw [h1] at hu
  rcases List.mem_append.1 hu with hu | hu
  ·exact Rep.one d c1 h3 u hu
  ·exact RepE.one' ds c2 h4 u hu
theorem own_append_many {P : Program} {W : World} {ops : Array Oper} {rest : List Oper} {o : Oper} {a : Act} {Q : Exit → Act → World → Prop} (S S2 : Nat → Prop) (hgd : o.guard = none) (s x : Operand) (t e : TypeId) (z : Value) (sz bytes : Nat)
  (ho : o.op = .call { callee := .builtin .append, args := #[s, x], argTypes := #[t, t] }) (ht : P.underlying t = some (.slice e))
  (hinfo : (P.info? e).map (fun i => (i.zero, i.size, i.bytes)) = some (some z, sz, bytes)) (hz : z.cells.size = sz) (hs0 : 0 < sz) (hb0 : 0 < bytes)
  (v : Value) (xs ds : List D) (news : List Value) (ad : Addr) (m c : Nat) (hs : a.eval s = v) (hx : a.eval x = .slice (some ad) m c) (hm : ds.length = m) (hnews : ∀ j u, news[j]? = some u → W.cell? (ad.add j) = some u)
  (hd : RepE W S2 sz ds news) (hS2 : ∀ k, S2 k → k < W.heap.size ∧ some k ≠ v.ownBlock) (HO : Own W S e sz v xs) (hl : (xs.length + m) * bytes ≤ 140737488355328)
  (h : ∀ A c' w1, Own w1 (fun k => S k ∨ S2 k ∨ W.heap.size ≤ k) e sz (.slice A (xs.length + m) c') (xs ++ ds) → Chg (fun k => some k = v.ownBlock) W w1 → wpList P ops Q rest (a.put o.dst (.slice A (xs.length + m) c')) w1) :
  wpList P ops Q (o :: rest) a W := by
 obtain ⟨i0, hi, hz0, hz1, hz2⟩ := info_parts hinfo
 have hlt := fun k hk => Own.lt HO (k := k) hk
 obtain ⟨cs, h1, h2, h3⟩ := HO
 have hlen : xs.length + m ≤ 140737488355328 := Nat.le_trans (Nat.le_mul_of_pos_right _ hb0) hl
 have hnl : news.length = m * sz := by rw [← hm]; exact RepE.length hd
 refine wpList_append_own_at W hgd s x t ho 0 e i0 z sz bytes ht hi hz0 hz1 hz2 hz hs0 v xs.length cs hs h1 ad m c news hx hnl hnews (RepE.one' _ _ hd) (by simp only [maxLen]; omega) hl (by simp) ?_
 intro v1 w1 hown hg _ hat
 have hsame : ∀ {T : Nat → Prop}, (∀ k, T k → k < W.heap.size → some k ≠ v.ownBlock) → Same T W w1 := fun hT k hk hl => hg.block k hl (hT k hk hl)
 have ne : ∀ k, k < W.heap.size → some k ≠ v.ownBlock → some k ≠ v1.ownBlock := by
  intro k hk hn
  rcases hat with hat | hat
  ·rw [hat]; exact hn
  ·rw [hat]; intro e; cases e; omega
 have hO : Own w1 (fun k => S k ∨ S2 k ∨ W.heap.size ≤ k) e sz v1 (xs ++ ds) := by
  refine ⟨cs ++ news, by rw [List.length_append, hm]; exact hown, fun k hk => ?_, ?_⟩
  ·rcases hat with hat | hat
   ·exact .inl (h2 k (hat ▸ hk))
   ·rw [hat] at hk; cases hk; exact .inr (.inr (Nat.le_refl _))
  ·exact RepE.append (RepE.move (hsame (fun k hk _ => hk.2)) (fun k hk hl => ⟨.inl hk.1, ne k hl hk.2⟩) _ _ _ h3) (RepE.move (hsame (fun k hk hl => (hS2 k hk).2)) (fun k hk hl => ⟨.inr (.inl hk), ne k hl (hS2 k hk).2⟩) _ _ _ hd)
 obtain ⟨A, c', rfl, _, _⟩ := hO.form
 rw [List.length_append, hm] at hO ⊢
 exact h A c' w1 hO (Chg.of_grown hg)
theorem sl_tail {w : World} {S : Nat → Prop} {e sz : Nat} {d : D} {ds : List D} {v : Value} (hsz : 0 < sz) (h : Rep w S (.sl e sz (d :: ds)) [v]) : ∃ b o c hd inner, v = .slice (some ⟨b, o, none⟩) (ds.length + 1) c ∧ ds.length + 1 ≤ c ∧ c ≤ maxLen ∧ Rep w S d hd ∧ hd.length = sz ∧ (∀ j u, hd[j]? = some u → w.cell? ⟨b, o + j, none⟩ = some u) ∧
  RepE w S sz ds inner ∧ ∀ j u, inner[j]? = some u → w.cell? ⟨b, o + sz + j, none⟩ = some u := by
 obtain ⟨A, c, inner, h1, h2, h3, h4, c1, c2, e1, e2, h5, h6⟩ := h
 cases h1
 have hne : ∃ u, c1[0]? = some u := ⟨c1[0]'(by omega), List.getElem?_eq_getElem (by omega)⟩
 obtain ⟨u0, hu0⟩ := hne
 have h0 : inner[0]? = some u0 := by rw [e1, List.getElem?_append_left (by omega)]; exact hu0
 obtain ⟨b, o, hA, _, _⟩ := h4 0 u0 h0
 subst hA
 refine ⟨b, o, c, c1, c2, rfl, h2, h3, h5, e2, fun j u hj => ?_, h6, fun j u hj => ?_⟩
 ·have hlt := (List.getElem?_eq_some_iff.1 hj).1
  obtain ⟨b', o', e', _, hc⟩ := h4 j u (by rw [e1, List.getElem?_append_left hlt]; exact hj)
  cases e'; exact hc
 ·obtain ⟨b', o', e', _, hc⟩ := h4 (sz + j) u (by rw [e1, List.getElem?_append_right (by omega), e2, Nat.add_sub_cancel_left]; exact hj)
  cases e'
  rw [Nat.add_assoc]; exact hc
theorem addr_add (b o j : Nat) : (⟨b, o, none⟩ : Addr).add j = ⟨b, o + j, none⟩ := by
 unfold Addr.add
 by_cases hj : j = 0 <;> simp [hj]
def isAsg (T : Nat → Prop) (o : Option Asg) (v : Value) (w' : World) : Prop := match o with
 | some a => ∃ cs, v = .tuple #[.agg cs.toArray, .bool true] ∧ Rep w' T a.d cs
 | none => v = .tuple #[.agg #[.string ⟨#[]⟩, .slice none 0 0], .bool false]
set_option maxRecDepth 100000 in
set_option maxHeartbeats 4000000 in
theorem assigned_calls (l : List Part) (v : Value) (w : World) (S : Nat → Prop) (hl : l.length ≤ 20000) (ht : ∀ k q t o wd l', l = .mk k q t o wd :: l' → t.length ≤ 20000) (hv : Rep w S (.sl 103 5 (Part.ds l)) [v]) :
  Calls Tryz.prog 124 #[v] w fun e w' => (∃ r, e = .returned r ∧ isAsg (fun k => S k ∨ w.heap.size ≤ k) (assigned l) r w') ∧ Chg (fun _ => False) w w' := by
 have hC0 : Chg (fun _ => False) w (w.alloc (.cells #[.string ⟨#[]⟩, .slice none 0 0] 72)) := (Chg.refl _ w).alloc _
 have hZ0 := row_new w (.cells #[.string ⟨#[]⟩, .slice none 0 0] 72)
 match l with
 | [] =>
  obtain ⟨A, c, rfl⟩ := sl_form hv
  simp only [Part.ds, List.length_nil]
  have HM : Hid (assigned [] = none) := Lib.hid rfl
  generalize assigned [] = M at *
  go_enter Tryz.func124, Tryz.ntmps124
  go_wp2
  refine bodyPost_ret (v := .tuple #[.agg #[.string ⟨#[]⟩, .slice none 0 0], .bool false]) (by simp [results, Tryz.results124, go_sem, row_cells hZ0]) rfl ?_
  rw [HM.out]
  exact ⟨⟨_, rfl, rfl⟩, hC0⟩
 | .mk k q t o wd :: l' =>
  have htl := ht _ _ _ _ _ _ rfl
  have hl2 : l'.length ≤ 20000 := by simp at hl; omega
  obtain ⟨b, of, c, hd, inner, rfl, hc1, hc2, hr, hhl, hcells, hE, hin⟩ := sl_tail (by decide) hv
  obtain ⟨A1, c1, rfl, hwv, _, _⟩ := part_rep2 hr
  have g10 := hcells 0 _ rfl
  have g11 := hcells 1 _ rfl
  have g12 := hcells 2 _ rfl
  have g13 := hcells 3 _ rfl
  have g14 := hcells 4 _ rfl
  simp only [Nat.add_zero] at g10
  have hll : (Part.ds l').length = l'.length := by rw [Part.ds_length]
  simp only [maxLen] at hc2
  rw [hll] at hc1 hv ⊢
  have hbl : b < w.heap.size := World.block_lt_of_cell? w _ g10
  have hHL : Hid (∃ M, assigned (.mk k q t o wd :: l') = M) := Lib.hid ⟨_, rfl⟩
  generalize hM : assigned (.mk k q t o wd :: l') = M
  rw [assigned] at hM
  have HM := Lib.hid hM
  clear hM hcells hhl hr hwv ht hHL
  have q0 : (((l'.length : Int) + 1) == 0) = false := by simp; omega
  have hzb : (bstr t).size = t.length := bstr_size t
  cases ck : k == 1
  case false =>
   have HM2 : Hid (M = none) := Lib.hid (by rw [← HM.out, ck]; rfl)
   have ck2 : (k != 1) = true := by simpa using ck
   clear HM ck
   go_enter Tryz.func124, Tryz.ntmps124
   go_wp2
   have HM := HM2
   refine bodyPost_ret (v := .tuple #[.agg #[.string ⟨#[]⟩, .slice none 0 0], .bool false]) (by simp [results, Tryz.results124, go_sem, row_cells hZ0]) rfl ?_
   rw [HM.out]
   exact ⟨⟨_, rfl, rfl⟩, hC0⟩
  case true =>
   obtain rfl : k = 1 := by simpa using ck
   cases q
   case true =>
    have HM2 : Hid (M = none) := Lib.hid (by rw [← HM.out]; rfl)
    clear HM ck
    go_enter Tryz.func124, Tryz.ntmps124
    go_wp2
    have HM := HM2
    refine bodyPost_ret (v := .tuple #[.agg #[.string ⟨#[]⟩, .slice none 0 0], .bool false]) (by simp [results, Tryz.results124, go_sem, row_cells hZ0]) rfl ?_
    rw [HM.out]
    exact ⟨⟨_, rfl, rfl⟩, hC0⟩
   case false =>
    have hCut := fun w => cut_calls (bstr t) w (by rw [hzb]; exact htl)
    clear ck
    go_enter Tryz.func124, Tryz.ntmps124
    go_wp2_with fail
    refine Calls.mono (hCut _) ?_
    rintro e w1 ⟨⟨cv, rfl, hcv⟩, n1, rfl⟩
    rw [IsCut, bstr_toList] at hcv
    have hC1 : Chg (fun _ => False) w ((w.alloc (.cells #[.string ⟨#[]⟩, .slice none 0 0] 72)).drewN n1) := hC0.drewN n1
    have hZ1 : ((w.alloc (.cells #[.string ⟨#[]⟩, .slice none 0 0] 72)).drewN n1).heap[w.heap.size]? = some (.cells #[.string ⟨#[]⟩, .slice none 0 0] 72) := hZ0
    have hsz1 : ((w.alloc (.cells #[.string ⟨#[]⟩, .slice none 0 0] 72)).drewN n1).heap.size = w.heap.size + 1 := by simp
    clear hCut hC0 hZ0 q0 g10 g11 g12 g13 g14
    generalize (w.alloc (.cells #[.string ⟨#[]⟩, .slice none 0 0] 72)).drewN n1 = W at *
    cases hix : idx 61 t with
    | none =>
     rw [hix] at hcv
     dsimp only at hcv
     subst hcv
     have HM2 : Hid (M = none) := Lib.hid (by rw [← HM.out, hix]; rfl)
     clear HM hix
     have hcZ := row_cells hZ1
     have hfZ := row_free hZ1
     go_wp2
     have HM := HM2
     have hCZ : Chg (· = w.heap.size) W ((W.setCell ⟨w.heap.size, 0, none⟩ (.string ⟨#[]⟩)).setCell ⟨w.heap.size, 1, none⟩ (.slice none 0 0)) := (setCell_chg W w.heap.size 0 _).setCell (fun _ => rfl) _
     refine bodyPost_ret (v := .tuple #[.agg #[.string ⟨#[]⟩, .slice none 0 0], .bool false]) (by simp [results, Tryz.results124, go_sem, hcZ]) rfl ?_
     rw [HM.out]
     exact ⟨⟨_, rfl, rfl⟩, hC1.trans hCZ (fun k hk hl => by omega)⟩
    | some i =>
     rw [hix] at hcv
     obtain ⟨x, y, rfl, hx, hy⟩ := hcv
     have hxs : x.size ≤ 140737488355328 := by
      have : x.size = x.data.toList.length := by rw [len_data]
      rw [this, hx, List.length_take]; omega
     have hNm := fun w => name_calls x w hxs
     rw [hx] at hNm
     have HX := Lib.hid hx
     have HY := Lib.hid hy
     clear hx hy
     cases hnm : nameB (t.take i)
     case false =>
      have HM2 : Hid (M = none) := Lib.hid (by rw [← HM.out, hix]; simp only [hnm]; rfl)
      rw [hnm] at hNm
      clear HM hix hnm
      have hcZ := row_cells hZ1
      have hfZ := row_free hZ1
      go_wp2_with fail
      refine Calls.mono (hNm _) ?_
      rintro e w2 ⟨rfl, rfl⟩
      go_wp2
      have HM := HM2
      have hCZ : Chg (· = w.heap.size) W ((W.setCell ⟨w.heap.size, 0, none⟩ (.string ⟨#[]⟩)).setCell ⟨w.heap.size, 1, none⟩ (.slice none 0 0)) := (setCell_chg W w.heap.size 0 _).setCell (fun _ => rfl) _
      refine bodyPost_ret (v := .tuple #[.agg #[.string ⟨#[]⟩, .slice none 0 0], .bool false]) (by simp [results, Tryz.results124, go_sem, hcZ]) rfl ?_
      rw [HM.out]
      exact ⟨⟨_, rfl, rfl⟩, hC1.trans hCZ (fun k hk hl => by omega)⟩
     case true =>
      have HM2 : Hid (M = some ⟨t.take i, (if (t.drop (i + 1)).isEmpty then [] else [lit (t.drop (i + 1)) false]) ++ l'⟩) := Lib.hid (by rw [← HM.out, hix]; simp only [hnm]; rfl)
      rw [hnm] at hNm
      have hX1 := row_new W (.cells #[.string x, .slice none 0 0] 72)
      rw [hsz1] at hX1
      have hCa : Chg (fun _ => False) W (W.alloc (.cells #[.string x, .slice none 0 0] 72)) := (Chg.refl _ W).alloc _
      have hZ2 := row_chg hZ1 hCa (fun e => e)
      have hC2 := hC1.trans hCa (fun _ h _ => h)
      have hyt : y.toList = t.drop (i + 1) := by rw [ByteArray.toList_eq]; exact HY.out
      clear HM hix hnm hZ1
      cases hem : (t.drop (i + 1)).isEmpty
      case true =>
       have HM3 : Hid (M = some ⟨t.take i, [] ++ l'⟩) := Lib.hid (by rw [HM2.out, hem]; rfl)
       have hye : y.toList.isEmpty = true := by rw [hyt]; exact hem
       have hye2 : (y.toList == []) = true := by rw [hyt]; simpa using hem
       clear hyt hem HM2
       go_wp2_with fail
       refine Calls.mono (hNm _) ?_
       rintro e w2 ⟨rfl, rfl⟩
       have hcX := row_cells hX1
       have hfX := row_free hX1
       clear hNm
       go_wp2
       have hsU : (W.alloc (.cells #[.string x, .slice none 0 0] 72)).heap.size = W.heap.size + 1 := by simp
       generalize W.alloc (.cells #[.string x, .slice none 0 0] 72) = U at *
       have hE2 : RepE U (fun k => S k ∧ k < w.heap.size) 5 (Part.ds l') inner := RepE.move (hC2.same (fun _ _ _ e => e)) (fun k hk hl => ⟨hk, hl⟩) _ _ _ hE
       have hin2 : ∀ (j : Nat) (u : Value), inner[j]? = some u → U.cell? ⟨b, of + 5 + j, none⟩ = some u := fun j u h => hC2.cell (hin j u h) (fun e => e)
       have p1 : (1 : Int) ≤ (l'.length : Int) + 1 := by omega
       have p2 : (l'.length : Int) + 1 ≤ (c : Int) := by omega
       have p3 : ((l'.length : Int) + 1 - 1) = (l'.length : Int) := by omega
       have p4 : l'.length + 1 - 1 = l'.length := by omega
       have hEd : RepE U.drew (fun k => S k ∧ k < w.heap.size) 5 (Part.ds l') inner := RepE.move (Same.drewN _ U 1) (fun k h _ => h) _ _ _ hE2
       by_cases hcc : c = 1
       ·subst hcc
        obtain rfl : l' = [] := List.eq_nil_of_length_eq_zero (by omega)
        have hin0 : inner = [] := hEd
        subst hin0
        clear p1 p2 p3 p4
        refine still_tail2 4 (by kernel_rfl) (by kernel_rfl) ?_
        simp only [List.take_succ_cons, List.take_zero, List.drop_succ_cons, List.drop_zero]
        repeat still_step
        refine wpStill_nil ?_
        go_wp2_with (at_builtin; go_must (refine own_append_many (fun _ => False) (fun k => S k ∧ k < w.heap.size) rfl _ _ _ _ _ 5 72 rfl Tryz.underlying70 info_Part rfl (by decide) (by decide) (.slice none 0 0) (Part.ds ([] : List Part)) (Part.ds []) [] ⟨b, of, none⟩ 0 0 rfl (by simp [Act.eval]) rfl (by intro j u h; simp at h) hEd (fun k hk => ⟨by have := hk.2; show k < U.heap.size; omega, by simp [Value.ownBlock]⟩) (Own.nil _ _ _ _) (by rw [Part.ds_length]; simp only [List.length_cons, List.length_nil]; omega) ?_))
        intro A3 c3 w3 hO3 hC3
        have hC4 := hC3.mono (B' := fun k => w.heap.size + 1 < k) (fun k hk hl => (by simp [Value.ownBlock] at hk))
        have hX4 := row_chg (B := fun k => w.heap.size + 1 < k) (w := U.drew) hX1 hC4 (by omega)
        have hZ4 := row_chg (B := fun k => w.heap.size + 1 < k) (w := U.drew) hZ2 hC4 (by omega)
        have hC5 := (hC2.drewN 1).trans hC4 (fun k hk hl => by omega)
        have hcX4 := row_cells hX4
        have hfX4 := row_free hX4
        have hcZ4 := row_cells hZ4
        have hfZ4 := row_free hZ4
        have e2 : Part.ds ([] : List Part) ++ Part.ds ([] : List Part) = Part.ds (([] : List Part) ++ ([] : List Part)) := by simp only [Part.ds_map, List.map_append]
        rw [e2] at hO3
        clear hcX hfX hX1 hZ2 hC3 hC4 hEd hE2 hin2 hE hin e2
        go_wp2
        have hCall : Chg (fun k => k = w.heap.size + 1 ∨ k = w.heap.size) w3 (((w3.setCell ⟨w.heap.size + 1, 1, none⟩ (.slice A3 0 c3)).setCell ⟨w.heap.size, 0, none⟩ (.string x)).setCell ⟨w.heap.size, 1, none⟩ (.slice A3 0 c3)) :=
         (((Chg.refl _ w3).setCell (fun _ => .inl rfl) _).setCell (fun _ => .inr rfl) _).setCell (fun _ => .inr rfl) _
        have hcZ5 := row_cells (row_chg (B := (· = w.heap.size + 1)) hZ4 (setCell_chg w3 (w.heap.size + 1) 1 (.slice A3 0 c3)) (by omega))
        refine bodyPost_ret (v := .tuple #[.agg #[.string x, .slice A3 0 c3], .bool true]) (by simp [results, Tryz.results124, go_sem, hcZ5]) rfl ?_
        rw [HM3.out]
        refine ⟨⟨_, rfl, [.string x, .slice A3 0 c3], rfl, asg_rep.2 ⟨_, by rw [← HX.out, bstr_of], ?_⟩⟩, hC5.trans hCall (fun k hk hl => by omega)⟩
        refine (hO3.rep.stay hCall (fun k hk e => ?_)).mono (fun k hk _ => ?_)
        ·have hsU2 : w.heap.size + 1 + 1 ≤ U.drew.heap.size := by show _ ≤ U.heap.size; omega
         (rcases hk with hk | hk <;> omega)
        ·have hsU2 : w.heap.size + 1 + 1 ≤ U.drew.heap.size := by show _ ≤ U.heap.size; omega
         (rcases hk with hk | hk; exact .inl hk.1; right; omega)
       ·refine still_tail2 4 (by kernel_rfl) (by kernel_rfl) ?_
        simp only [List.take_succ_cons, List.take_zero, List.drop_succ_cons, List.drop_zero]
        repeat still_step
        refine wpStill_nil ?_
        go_wp2_with (at_builtin; go_must (refine own_append_many (fun _ => False) (fun k => S k ∧ k < w.heap.size) rfl _ _ _ _ _ 5 72 rfl Tryz.underlying70 info_Part rfl (by decide) (by decide) (.slice none 0 0) (Part.ds ([] : List Part)) (Part.ds l') inner ⟨b, of + 5, none⟩ l'.length (c - 1) rfl (by simp [Act.eval]) (by rw [Part.ds_length]) (by intro j u h; rw [addr_add]; exact hin2 j u h) hEd (fun k hk => ⟨by have := hk.2; show k < U.heap.size; omega, by simp [Value.ownBlock]⟩) (Own.nil _ _ _ _) (by rw [Part.ds_length]; simp only [List.length_cons, List.length_nil]; omega) ?_))
        intro A3 c3 w3 hO3 hC3
        generalize hn3 : (Part.ds ([] : List Part)).length + List.length l' = n3 at hO3 ⊢
        clear hn3
        have hC4 := hC3.mono (B' := fun k => w.heap.size + 1 < k) (fun k hk hl => (by simp [Value.ownBlock] at hk))
        have hX4 := row_chg (B := fun k => w.heap.size + 1 < k) (w := U.drew) hX1 hC4 (by omega)
        have hZ4 := row_chg (B := fun k => w.heap.size + 1 < k) (w := U.drew) hZ2 hC4 (by omega)
        have hC5 := (hC2.drewN 1).trans hC4 (fun k hk hl => by omega)
        have hcX4 := row_cells hX4
        have hfX4 := row_free hX4
        have hcZ4 := row_cells hZ4
        have hfZ4 := row_free hZ4
        have e2 : Part.ds ([] : List Part) ++ Part.ds l' = Part.ds (([] : List Part) ++ l') := by simp only [Part.ds_map, List.map_append]
        rw [e2] at hO3
        clear hcX hfX hX1 hZ2 hC3 hC4 hEd hE2 hin2 hE hin e2
        go_wp2
        have hCall : Chg (fun k => k = w.heap.size + 1 ∨ k = w.heap.size) w3 (((w3.setCell ⟨w.heap.size + 1, 1, none⟩ (.slice A3 n3 c3)).setCell ⟨w.heap.size, 0, none⟩ (.string x)).setCell ⟨w.heap.size, 1, none⟩ (.slice A3 n3 c3)) :=
         (((Chg.refl _ w3).setCell (fun _ => .inl rfl) _).setCell (fun _ => .inr rfl) _).setCell (fun _ => .inr rfl) _
        have hcZ5 := row_cells (row_chg (B := (· = w.heap.size + 1)) hZ4 (setCell_chg w3 (w.heap.size + 1) 1 (.slice A3 n3 c3)) (by omega))
        refine bodyPost_ret (v := .tuple #[.agg #[.string x, .slice A3 n3 c3], .bool true]) (by simp [results, Tryz.results124, go_sem, hcZ5]) rfl ?_
        rw [HM3.out]
        refine ⟨⟨_, rfl, [.string x, .slice A3 n3 c3], rfl, asg_rep.2 ⟨_, by rw [← HX.out, bstr_of], ?_⟩⟩, hC5.trans hCall (fun k hk hl => by omega)⟩
        refine (hO3.rep.stay hCall (fun k hk e => ?_)).mono (fun k hk _ => ?_)
        ·have hsU2 : w.heap.size + 1 + 1 ≤ U.drew.heap.size := by show _ ≤ U.heap.size; omega
         (rcases hk with hk | hk <;> omega)
        ·have hsU2 : w.heap.size + 1 + 1 ≤ U.drew.heap.size := by show _ ≤ U.heap.size; omega
         (rcases hk with hk | hk; exact .inl hk.1; right; omega)
      case false =>
       have HM3 : Hid (M = some ⟨t.take i, [lit (t.drop (i + 1)) false] ++ l'⟩) := Lib.hid (by rw [HM2.out, hem]; rfl)
       have hye : y.toList.isEmpty = false := by rw [hyt]; exact hem
       have hye2 : (y.toList == []) = false := by rw [hyt]; simpa using hem
       clear hyt hem HM2
       go_wp2_with fail
       refine Calls.mono (hNm _) ?_
       rintro e w2 ⟨rfl, rfl⟩
       have hcX := row_cells hX1
       have hfX := row_free hX1
       clear hNm
       have HYB : Hid (y = bstr (t.drop (i + 1))) := Lib.hid (by rw [← HY.out, bstr_of])
       have hsU : (W.alloc (.cells #[.string x, .slice none 0 0] 72)).heap.size = w.heap.size + 1 + 1 := by simp; omega
       go_wp2_with (at_builtin; go_must (refine own_append2 (fun k => w.heap.size + 1 < k) (w.heap.size + 1 + 1) rfl _ _ _ _ _ 5 72 rfl Tryz.underlying70 info_Part rfl (by decide) (by decide) (.slice none 0 0) [] (Part.d (lit (t.drop (i + 1)) false)) _ rfl (by simp [Act.eval]) (part_nil _ _ 1 false y (t.drop (i + 1)) HYB.out) rfl (fun k hk => by omega) (by rw [hsU]; exact Nat.le_refl _) (by simp [Value.ownBlock]) (Own.nil _ _ _ _) (by decide) ?_))
       intro A5 c5 w5 hO5 hC5'
       have hC5 := hC5'.mono (B' := fun k => w.heap.size + 1 < k) (fun k hk hl => by simp [Value.ownBlock] at hk)
       have hX5 := row_chg hX1 hC5 (by omega)
       have hZ5 := row_chg hZ2 hC5 (by omega)
       have hC6 := hC2.trans hC5 (fun k hk hl => by omega)
       have hcX := row_cells hX5
       have hfX := row_free hX5
       have hs5 : w.heap.size + 1 + 1 ≤ w5.heap.size := by rw [← hsU]; exact hC5.size
       clear hX1 hZ2 hC2 hC5 hC5' HYB hye hye2 hCa hsU hC1 hsz1
       go_wp2
       have hX6 := row_set hX5 1 (.slice A5 1 c5)
       have hCc := setCell_chg w5 (w.heap.size + 1) 1 (.slice A5 1 c5)
       have hZ2 := row_chg hZ5 hCc (by omega)
       have hO6 := hO5.stay hCc (fun k hk e => by omega)
       have hC2 := hC6.trans hCc (fun k hk hl => by omega)
       simp only [List.setIfInBounds_toArray, List.set_cons_zero, List.set_cons_succ] at hX6
       have hX1 := hX6
       have hvl : ∀ k, (Value.slice A5 1 c5).ownBlock = some k → w.heap.size + 1 < k := fun k hk => hO5.block hk
       have hsU : w.heap.size + 1 + 1 ≤ (w5.setCell ⟨w.heap.size + 1, 1, none⟩ (.slice A5 1 c5)).heap.size := by simpa using hs5
       clear hX5 hZ5 hO5 hC6 hcX hfX hX6 hCc
       generalize w5.setCell ⟨w.heap.size + 1, 1, none⟩ (.slice A5 1 c5) = U at *
       have hcX := row_cells hX1
       have hfX := row_free hX1
       have hE2 : RepE U (fun k => S k ∧ k < w.heap.size) 5 (Part.ds l') inner := RepE.move (hC2.same (fun _ _ _ e => e)) (fun k hk hl => ⟨hk, hl⟩) _ _ _ hE
       have hin2 : ∀ (j : Nat) (u : Value), inner[j]? = some u → U.cell? ⟨b, of + 5 + j, none⟩ = some u := fun j u h => hC2.cell (hin j u h) (fun e => e)
       have p1 : (1 : Int) ≤ (l'.length : Int) + 1 := by omega
       have p2 : (l'.length : Int) + 1 ≤ (c : Int) := by omega
       have p3 : ((l'.length : Int) + 1 - 1) = (l'.length : Int) := by omega
       have p4 : l'.length + 1 - 1 = l'.length := by omega
       have hEd : RepE U.drew (fun k => S k ∧ k < w.heap.size) 5 (Part.ds l') inner := RepE.move (Same.drewN _ U 1) (fun k h _ => h) _ _ _ hE2
       by_cases hcc : c = 1
       ·subst hcc
        obtain rfl : l' = [] := List.eq_nil_of_length_eq_zero (by omega)
        have hin0 : inner = [] := hEd
        subst hin0
        clear p1 p2 p3 p4
        refine still_tail2 4 (by kernel_rfl) (by kernel_rfl) ?_
        simp only [List.take_succ_cons, List.take_zero, List.drop_succ_cons, List.drop_zero]
        repeat still_step
        refine wpStill_nil ?_
        go_wp2_with (at_builtin; go_must (refine own_append_many (fun k => w.heap.size + 1 < k) (fun k => S k ∧ k < w.heap.size) rfl _ _ _ _ _ 5 72 rfl Tryz.underlying70 info_Part rfl (by decide) (by decide) (.slice A5 1 c5) (Part.ds [lit (t.drop (i + 1)) false]) (Part.ds []) [] ⟨b, of, none⟩ 0 0 rfl (by simp [Act.eval]) rfl (by intro j u h; simp at h) hEd (fun k hk => ⟨by have := hk.2; show k < U.heap.size; omega, fun e => by have := hvl k e.symm; have := hk.2; omega⟩) (hO6.move (Same.drewN _ U 1) (fun k h _ => h)) (by rw [Part.ds_length]; simp only [List.length_cons, List.length_nil]; omega) ?_))
        intro A3 c3 w3 hO3 hC3
        have hC4 := hC3.mono (B' := fun k => w.heap.size + 1 < k) (fun k hk hl => (hvl k hk.symm))
        have hX4 := row_chg (B := fun k => w.heap.size + 1 < k) (w := U.drew) hX1 hC4 (by omega)
        have hZ4 := row_chg (B := fun k => w.heap.size + 1 < k) (w := U.drew) hZ2 hC4 (by omega)
        have hC5 := (hC2.drewN 1).trans hC4 (fun k hk hl => by omega)
        have hcX4 := row_cells hX4
        have hfX4 := row_free hX4
        have hcZ4 := row_cells hZ4
        have hfZ4 := row_free hZ4
        have e2 : Part.ds [lit (t.drop (i + 1)) false] ++ Part.ds ([] : List Part) = Part.ds ([lit (t.drop (i + 1)) false] ++ ([] : List Part)) := by simp only [Part.ds_map, List.map_append]
        rw [e2] at hO3
        clear hcX hfX hX1 hZ2 hC3 hC4 hEd hE2 hin2 hE hin e2
        go_wp2
        have hCall : Chg (fun k => k = w.heap.size + 1 ∨ k = w.heap.size) w3 (((w3.setCell ⟨w.heap.size + 1, 1, none⟩ (.slice A3 (Part.ds [lit (t.drop (i + 1)) false]).length c3)).setCell ⟨w.heap.size, 0, none⟩ (.string x)).setCell ⟨w.heap.size, 1, none⟩ (.slice A3 (Part.ds [lit (t.drop (i + 1)) false]).length c3)) :=
         (((Chg.refl _ w3).setCell (fun _ => .inl rfl) _).setCell (fun _ => .inr rfl) _).setCell (fun _ => .inr rfl) _
        have hcZ5 := row_cells (row_chg (B := (· = w.heap.size + 1)) hZ4 (setCell_chg w3 (w.heap.size + 1) 1 (.slice A3 (Part.ds [lit (t.drop (i + 1)) false]).length c3)) (by omega))
        refine bodyPost_ret (v := .tuple #[.agg #[.string x, .slice A3 (Part.ds [lit (t.drop (i + 1)) false]).length c3], .bool true]) (by simp [results, Tryz.results124, go_sem, hcZ5]) rfl ?_
        rw [HM3.out]
        refine ⟨⟨_, rfl, [.string x, .slice A3 (Part.ds [lit (t.drop (i + 1)) false]).length c3], rfl, asg_rep.2 ⟨_, by rw [← HX.out, bstr_of], ?_⟩⟩, hC5.trans hCall (fun k hk hl => by omega)⟩
        refine (hO3.rep.stay hCall (fun k hk e => ?_)).mono (fun k hk _ => ?_)
        ·have hsU2 : w.heap.size + 1 + 1 ≤ U.drew.heap.size := by show _ ≤ U.heap.size; omega
         (rcases hk with hk | hk | hk <;> omega)
        ·have hsU2 : w.heap.size + 1 + 1 ≤ U.drew.heap.size := by show _ ≤ U.heap.size; omega
         (rcases hk with hk | hk | hk; exact .inr (by omega); exact .inl hk.1; right; omega)
       ·refine still_tail2 4 (by kernel_rfl) (by kernel_rfl) ?_
        simp only [List.take_succ_cons, List.take_zero, List.drop_succ_cons, List.drop_zero]
        repeat still_step
        refine wpStill_nil ?_
        go_wp2_with (at_builtin; go_must (refine own_append_many (fun k => w.heap.size + 1 < k) (fun k => S k ∧ k < w.heap.size) rfl _ _ _ _ _ 5 72 rfl Tryz.underlying70 info_Part rfl (by decide) (by decide) (.slice A5 1 c5) (Part.ds [lit (t.drop (i + 1)) false]) (Part.ds l') inner ⟨b, of + 5, none⟩ l'.length (c - 1) rfl (by simp [Act.eval]) (by rw [Part.ds_length]) (by intro j u h; rw [addr_add]; exact hin2 j u h) hEd (fun k hk => ⟨by have := hk.2; show k < U.heap.size; omega, fun e => by have := hvl k e.symm; have := hk.2; omega⟩) (hO6.move (Same.drewN _ U 1) (fun k h _ => h)) (by rw [Part.ds_length]; simp only [List.length_cons, List.length_nil]; omega) ?_))
        intro A3 c3 w3 hO3 hC3
        generalize hn3 : (Part.ds [lit (t.drop (i + 1)) false]).length + List.length l' = n3 at hO3 ⊢
        clear hn3
        have hC4 := hC3.mono (B' := fun k => w.heap.size + 1 < k) (fun k hk hl => (hvl k hk.symm))
        have hX4 := row_chg (B := fun k => w.heap.size + 1 < k) (w := U.drew) hX1 hC4 (by omega)
        have hZ4 := row_chg (B := fun k => w.heap.size + 1 < k) (w := U.drew) hZ2 hC4 (by omega)
        have hC5 := (hC2.drewN 1).trans hC4 (fun k hk hl => by omega)
        have hcX4 := row_cells hX4
        have hfX4 := row_free hX4
        have hcZ4 := row_cells hZ4
        have hfZ4 := row_free hZ4
        have e2 : Part.ds [lit (t.drop (i + 1)) false] ++ Part.ds l' = Part.ds ([lit (t.drop (i + 1)) false] ++ l') := by simp only [Part.ds_map, List.map_append]
        rw [e2] at hO3
        clear hcX hfX hX1 hZ2 hC3 hC4 hEd hE2 hin2 hE hin e2
        go_wp2
        have hCall : Chg (fun k => k = w.heap.size + 1 ∨ k = w.heap.size) w3 (((w3.setCell ⟨w.heap.size + 1, 1, none⟩ (.slice A3 n3 c3)).setCell ⟨w.heap.size, 0, none⟩ (.string x)).setCell ⟨w.heap.size, 1, none⟩ (.slice A3 n3 c3)) :=
         (((Chg.refl _ w3).setCell (fun _ => .inl rfl) _).setCell (fun _ => .inr rfl) _).setCell (fun _ => .inr rfl) _
        have hcZ5 := row_cells (row_chg (B := (· = w.heap.size + 1)) hZ4 (setCell_chg w3 (w.heap.size + 1) 1 (.slice A3 n3 c3)) (by omega))
        refine bodyPost_ret (v := .tuple #[.agg #[.string x, .slice A3 n3 c3], .bool true]) (by simp [results, Tryz.results124, go_sem, hcZ5]) rfl ?_
        rw [HM3.out]
        refine ⟨⟨_, rfl, [.string x, .slice A3 n3 c3], rfl, asg_rep.2 ⟨_, by rw [← HX.out, bstr_of], ?_⟩⟩, hC5.trans hCall (fun k hk hl => by omega)⟩
        refine (hO3.rep.stay hCall (fun k hk e => ?_)).mono (fun k hk _ => ?_)
        ·have hsU2 : w.heap.size + 1 + 1 ≤ U.drew.heap.size := by show _ ≤ U.heap.size; omega
         (rcases hk with hk | hk | hk <;> omega)
        ·have hsU2 : w.heap.size + 1 + 1 ≤ U.drew.heap.size := by show _ ≤ U.heap.size; omega
         (rcases hk with hk | hk | hk; exact .inr (by omega); exact .inl hk.1; right; omega)
def isCmd0 (w : World) (c : Cmd) (v : Value) (w' : World) : Prop := ∃ cs, v = .agg cs.toArray ∧ Rep w' (fun k => w.heap.size ≤ k) (Cmd.d c) cs ∧ cs[8]? = some (.slice none 0 0)
def isComp (w : World) (o : Option Cmd) (v : Value) (w' : World) : Prop := match o with
 | some c => ∃ cs, v = .tuple #[.agg cs.toArray, .bool true] ∧ Rep w' (fun k => w.heap.size ≤ k) (Cmd.d c) cs ∧ cs[8]? = some (.slice none 0 0)
 | none => v = .tuple #[.agg #[.int .i64 0, .string ⟨#[]⟩, .slice none 0 0, .slice none 0 0, .slice none 0 0, .slice none 0 0, .slice none 0 0, .slice none 0 0, .slice none 0 0], .bool false]
def Said0 (f : Nat) (F : Bytes → Rs Cmd) (d : Nat) (m : Nat) : Prop := ∀ (g : Nat) (s : ByteArray) (r : Bytes) (w : World), ParsR w g s r d → s.size ≤ 8192 → r.length ≤ m →
 Calls Tryz.prog f #[.pointer (some ⟨g, 0, none⟩)] w (PPost w g s d (F r) (isCmd0 w))
theorem cmd_form0 {w : World} {S : Nat → Prop} {c : Cmd} {cs : List Value} (h : Rep w S c.d cs) (h8 : cs[8]? = some (.slice none 0 0)) : ∃ k n A1 n1 c1 A2 n2 c2 A3 n3 c3 A4 n4 c4 A5 n5 c5 A6 n6 c6,
  cs = [.int .i64 k, .string n, .slice A1 n1 c1, .slice A2 n2 c2, .slice A3 n3 c3, .slice A4 n4 c4, .slice A5 n5 c5, .slice A6 n6 c6, .slice none 0 0] := by
 obtain ⟨k, n, A1, n1, c1, A2, n2, c2, A3, n3, c3, A4, n4, c4, A5, n5, c5, A6, n6, c6, A7, n7, c7, rfl⟩ := cmd_form h
 simp at h8
 obtain ⟨rfl, rfl, rfl⟩ := h8
 exact ⟨_, _, _, _, _, _, _, _, _, _, _, _, _, _, _, _, _, _, _, _, rfl⟩
theorem chg9 (w : World) (X : Nat) (v0 v1 v2 v3 v4 v5 v6 v7 v8 : Value) : Chg (· = X) w (((((((((w.setCell ⟨X, 0, none⟩ v0).setCell ⟨X, 1, none⟩ v1).setCell ⟨X, 2, none⟩ v2).setCell ⟨X, 3, none⟩ v3).setCell ⟨X, 4, none⟩ v4).setCell ⟨X, 5, none⟩ v5).setCell ⟨X, 6, none⟩ v6).setCell ⟨X, 7, none⟩ v7).setCell ⟨X, 8, none⟩ v8) :=
 ((((((((setCell_chg w X 0 v0).setCell (fun _ => rfl) _).setCell (fun _ => rfl) _).setCell (fun _ => rfl) _).setCell (fun _ => rfl) _).setCell (fun _ => rfl) _).setCell (fun _ => rfl) _).setCell (fun _ => rfl) _).setCell (fun _ => rfl) _
abbrev zCmd : Array Value := #[.int .i64 0, .string ⟨#[]⟩, .slice none 0 0, .slice none 0 0, .slice none 0 0, .slice none 0 0, .slice none 0 0, .slice none 0 0, .slice none 0 0]
set_option maxRecDepth 100000 in
set_option maxHeartbeats 4000000 in
theorem compound_calls (wd : Bytes → Rs (List Part)) (ls : Bytes → Rs (List Lst)) (br : Bytes → Rs Cmd) (d : Nat) (m : Nat) (hll : Le ls)
  (g : Nat) (s : ByteArray) (r : Bytes) (w : World) (h : ParsR w g s r d) (hs : s.size ≤ 8192) (hm : r.length ≤ m + 1)
  (hls : 1 ≤ r.length → LsSaid ls d m) (hbr : 1 ≤ r.length → Said0 117 br d m) (hea : 1 ≤ r.length → Said0 119 (eachP wd ls) d m) (hch : 1 ≤ r.length → Said0 120 (choiceP wd ls) d m) :
  Calls Tryz.prog 98 #[.pointer (some ⟨g, 0, none⟩)] w (PPost w g s d (compoundP wd ls br r) (isComp w)) := by
 have hgl := h.lt
 have hrl := h.len
 have hbl := blanks_le r
 have hT := fun w h => take_calls g s r d [40] w h hs
 generalize hR : compoundP wd ls br r = R
 have HR := Lib.hid hR.symm; clear hR
 go_enter Tryz.func98, Tryz.ntmps98
 have hC0 : Chg (· = g) w (w.alloc (.cells zCmd 49)) := (Chg.refl _ w).alloc _
 have hP0 := ParsR.chg (B := fun _ => False) h ((Chg.refl _ w).alloc (.cells zCmd 49)) (fun e => e)
 have hZ0 := row_new w (.cells zCmd 49)
 go_wp2_with fail
 refine Calls.mono (hT _ hP0) ?_
 clear hT
 rintro e w1 ⟨rfl, hP1, hC1⟩
 have hZ1 := row_chg hZ0 hC1 (by omega)
 have hC2 := hC0.trans hC1 (fun _ h _ => h)
 have hs0 : w.heap.size < w1.heap.size := by have := hC1.size; simp at this; omega
 clear hP0 hZ0 hC0 hC1
 rw [compoundP] at HR
 cases q40 : sgn r == [40]
 case true =>
  have hsl := sgn_len q40
  rw [takeR, q40] at hP1
  simp only [if_true, List.length_cons, List.length_nil, Nat.zero_add] at hP1 hsl
  have HR2 : Hid (R = (ls ((blanks r).drop 1)).bind fun l r1 => (wantP [41] r1).bind fun _ r2 => .ok (some (.mk 3 [] [] [] [] l [] [] [])) r2) := Lib.hid (by rw [HR.out, if_pos q40])
  have hL := hls (by omega) g s _ w1 hP1 hs (by rw [List.length_drop]; omega)
  clear HR q40
  go_wp2_with fail
  refine Calls.mono hL ?_
  rintro e w2 hp
  rcases ppost_cases hp with ⟨l, rl, v, hXl, rfl, ⟨A, c, rfl, hO⟩, hP2, hC3⟩ | ⟨le, ce, ke, hXl, hke, hle', rfl, hC3⟩
  rotate_left
  ·go_wp2
   exact ⟨rfl, by rw [HR2.out, hXl]; exact ⟨ke, hke, hle', rfl, hC2.trans hC3 (fun _ h _ => h)⟩⟩
  clear hp
  have HR3 : Hid (R = (wantP [41] rl).bind fun _ r2 => .ok (some (.mk 3 [] [] [] [] l [] [] [])) r2) := Lib.hid (by rw [HR2.out, hXl]; rfl)
  clear HR2 hXl hL
  have hZ2 := row_chg hZ1 hC3 (by omega)
  have hC4 := hC2.trans hC3 (fun _ h _ => h)
  have hszA := hC3.size
  have HO := Lib.hid hO; clear hO
  clear hZ1 hC2
  go_wp2_with fail
  have hX1 := row_new w2 (.cells #[.int .i64 3, .string ⟨#[]⟩, .slice none 0 0, .slice none 0 0, .slice none 0 0, .slice A l.length c, .slice none 0 0, .slice none 0 0, .slice none 0 0] 49)
  have hCa : Chg (fun _ => False) w2 (w2.alloc (.cells #[.int .i64 3, .string ⟨#[]⟩, .slice none 0 0, .slice none 0 0, .slice none 0 0, .slice A l.length c, .slice none 0 0, .slice none 0 0, .slice none 0 0] 49)) := (Chg.refl _ w2).alloc _
  have hP3 := hP2.chg hCa (fun e => e)
  have hZ3 := row_chg hZ2 hCa (fun e => e)
  have hC5 := hC4.trans hCa (fun _ h _ => h.elim)
  have HO3 := Lib.hid (HO.out.bound.stay hCa (fun _ _ e => e))
  clear hCa hP2 hZ2 hC4 HO hC3
  generalize w2.alloc (.cells #[.int .i64 3, .string ⟨#[]⟩, .slice none 0 0, .slice none 0 0, .slice none 0 0, .slice A l.length c, .slice none 0 0, .slice none 0 0, .slice none 0 0] 49) = U at *
  refine Calls.mono ((want_calls g s rl d [41] _ hP3 hs)) ?_
  rintro e w3 hp
  rcases ppost_cases hp with ⟨u, r4, v, hXu, rfl, hu, hP4, hC6⟩ | ⟨le, ce, ke, hXu, hke, hle', rfl, hC6⟩
  rotate_left
  ·go_wp2
   exact ⟨rfl, by rw [HR3.out, hXu]; exact ⟨ke, hke, hle', rfl, hC5.trans hC6 (fun _ h _ => h)⟩⟩
  clear hp
  have hu' : v = .tuple #[] := hu
  subst hu'
  have HR4 : Hid (R = .ok (some (.mk 3 [] [] [] [] l [] [] [])) r4) := Lib.hid (by rw [HR3.out, hXu]; rfl)
  have hX2 := row_chg hX1 hC6 (by omega)
  have hZ4 := row_chg hZ3 hC6 (by omega)
  have hC7 := hC5.trans hC6 (fun _ h _ => h)
  have HO4 := Lib.hid (HO3.out.stay hC6 (fun k hk e => by have := hk.1; omega))
  have hcX := row_cells hX2
  have hcZ := row_cells hZ4
  have hfZ := row_free hZ4
  clear HR3 hXu hu hX1 hZ3 hC5 hC6 HO3 hP3
  go_wp2
  have hC9 := chg9 w3 w.heap.size (.int .i64 3) (.string ⟨#[]⟩) (.slice none 0 0) (.slice none 0 0) (.slice none 0 0) (.slice A l.length c) (.slice none 0 0) (.slice none 0 0) (.slice none 0 0)
  refine bodyPost_ret (v := .tuple #[.agg #[.int .i64 3, .string ⟨#[]⟩, .slice none 0 0, .slice none 0 0, .slice none 0 0, .slice A l.length c, .slice none 0 0, .slice none 0 0, .slice none 0 0], .bool true]) (by simp [results, Tryz.results98, go_sem, hcZ]) rfl ?_
  rw [HR4.out]
  refine ⟨_, rfl, ⟨[.int .i64 3, .string ⟨#[]⟩, .slice none 0 0, .slice none 0 0, .slice none 0 0, .slice A l.length c, .slice none 0 0, .slice none 0 0, .slice none 0 0], rfl, cmd_rep.2 ⟨_, _, _, _, _, _, _, rfl, rep_nil _ _ _ _, rep_nil _ _ _ _, rep_nil _ _ _ _, ?_, rep_nil _ _ _ _, rep_nil _ _ _ _, rep_nil _ _ _ _⟩, rfl⟩, hP4.chg hC9 (by omega), hC7.trans hC9 (fun k hk hl => by omega)⟩
  exact (HO4.out.stay hC9 (fun k hk e => by have := hk.1; omega)).mono (fun k hk _ => by have := hk.1; omega)
 case false =>
  rw [takeR, q40] at hP1
  simp only [Bool.false_eq_true, if_false] at hP1
  have hPk := peek_calls g s _ d w1 hP1 hs
  have HR2 := Lib.hid HR.out
  rw [if_neg (by rw [q40]; simp)] at HR2
  have hlt := fun k hk => peek_lt2 (r := blanks r) (s := k) hk
  dsimp only at HR2
  generalize peek (blanks r) = p at *
  generalize blanks (blanks r) = b2 at *
  obtain ⟨pt, pr⟩ := p
  simp only at HR2 hlt
  have e1 : ((bstr pt).toList == [123]) = (pt == [123]) := by rw [ByteArray.toList_eq, bstr_toList]
  have e2 : ((bstr pt).toList == [105, 102]) = (pt == [105, 102]) := by rw [ByteArray.toList_eq, bstr_toList]
  have e3 : ((bstr pt).toList == [119, 104, 105, 108, 101]) = (pt == [119, 104, 105, 108, 101]) := by rw [ByteArray.toList_eq, bstr_toList]
  have e4 : ((bstr pt).toList == [117, 110, 116, 105, 108]) = (pt == [117, 110, 116, 105, 108]) := by rw [ByteArray.toList_eq, bstr_toList]
  have e5 : ((bstr pt).toList == [102, 111, 114]) = (pt == [102, 111, 114]) := by rw [ByteArray.toList_eq, bstr_toList]
  have e6 : ((bstr pt).toList == [99, 97, 115, 101]) = (pt == [99, 97, 115, 101]) := by rw [ByteArray.toList_eq, bstr_toList]
  clear HR q40
  go_wp2_with fail
  refine Calls.mono hPk ?_
  clear hPk
  rintro e w2 ⟨n, rfl, hn, hP2, hC3⟩
  have hZ2 := row_chg hZ1 hC3 (by omega)
  have hC4 := hC2.trans hC3 (fun _ h _ => h)
  have hs2 : w.heap.size < w2.heap.size := by have := hC3.size; omega
  have HN := Lib.hid hn
  clear hZ1 hC2 hC3 hP1 hn hs0
  obtain ⟨a2, ha2, _, _, hA2⟩ := hP2.pos
  obtain ⟨h0, h1, h2, f1, f2, _⟩ := ParsAt.cells hA2
  simp only at HN
  generalize bstr pt = pB at *
  have HP2 := Lib.hid hP2; clear hP2
  cases q1 : pt == [123]
  case true =>
   rw [q1] at e1 HR2
   have HR3 : Hid (R = (ls pr).bind fun l r1 => (mustP [125] r1).bind fun _ r2 => .ok (some (.mk 2 [] [] [] [] l [] [] [])) r2) := Lib.hid HR2.out
   have hpe : pt = [123] := by simpa using q1
   have hlt1 := hlt [123] (by simp) q1
   obtain ⟨hn1, hn2⟩ := HN.out (by rw [hpe]; simp)
   have hA3 := hA2.at' (n : Int)
   have hP3 : ParsR (w2.setCell ⟨g, 1, none⟩ (.int .i64 (n : Int))) g s pr d := ⟨n, hn1, hn2, hA3⟩
   have hZ1 := row_far hZ2 (p := ⟨g, 1, none⟩) (by simp; omega) (.int .i64 (n : Int))
   have hC2 := hC4.setCell (p := ⟨g, 1, none⟩) (fun _ => rfl) (.int .i64 (n : Int))
   have hs0 : w.heap.size < (w2.setCell ⟨g, 1, none⟩ (.int .i64 (n : Int))).heap.size := by simpa using hs2
   clear hpe hn1 hn2 hA3
   clear HR2 e2 e3 e4 e5 e6 q1
   go_wp2_with fail
   clear h0 h1 h2 f1 f2 hA2 HP2 HN hZ2 hC4 hs2
   generalize w2.setCell ⟨g, 1, none⟩ (.int .i64 (n : Int)) = w1 at *
   refine Calls.mono (hls (by omega) g s pr _ hP3 hs (by omega)) ?_
   rintro e w2 hp
   rcases ppost_cases hp with ⟨l, rl, v, hXl, rfl, ⟨A, c, rfl, hO⟩, hP2, hC3⟩ | ⟨le, ce, ke, hXl, hke, hle', rfl, hC3⟩
   rotate_left
   ·go_wp2
    exact ⟨rfl, by rw [HR3.out, hXl]; exact ⟨ke, hke, hle', rfl, hC2.trans hC3 (fun _ h _ => h)⟩⟩
   clear hp
   have HR2 : Hid (R = (mustP [125] rl).bind fun _ r2 => .ok (some (.mk 2 [] [] [] [] l [] [] [])) r2) := Lib.hid (by rw [HR3.out, hXl]; rfl)
   have HR3 := HR2
   clear HR2 hXl
   have hZ2 := row_chg hZ1 hC3 (by omega)
   have hC4 := hC2.trans hC3 (fun _ h _ => h)
   have hszA := hC3.size
   have HO := Lib.hid hO; clear hO
   clear hZ1 hC2
   go_wp2_with fail
   have hX1 := row_new w2 (.cells #[.int .i64 2, .string ⟨#[]⟩, .slice none 0 0, .slice none 0 0, .slice none 0 0, .slice A l.length c, .slice none 0 0, .slice none 0 0, .slice none 0 0] 49)
   have hCa : Chg (fun _ => False) w2 (w2.alloc (.cells #[.int .i64 2, .string ⟨#[]⟩, .slice none 0 0, .slice none 0 0, .slice none 0 0, .slice A l.length c, .slice none 0 0, .slice none 0 0, .slice none 0 0] 49)) := (Chg.refl _ w2).alloc _
   have hP3 := hP2.chg hCa (fun e => e)
   have hZ3 := row_chg hZ2 hCa (fun e => e)
   have hC5 := hC4.trans hCa (fun _ h _ => h.elim)
   have HO3 := Lib.hid (HO.out.bound.stay hCa (fun _ _ e => e))
   clear hCa hP2 hZ2 hC4 HO hC3
   generalize w2.alloc (.cells #[.int .i64 2, .string ⟨#[]⟩, .slice none 0 0, .slice none 0 0, .slice none 0 0, .slice A l.length c, .slice none 0 0, .slice none 0 0, .slice none 0 0] 49) = U at *
   refine Calls.mono ((must_calls g s rl d [125] (by simp) _ hP3 hs)) ?_
   rintro e w3 hp
   rcases ppost_cases hp with ⟨u, r4, v, hXu, rfl, hu, hP4, hC6⟩ | ⟨le, ce, ke, hXu, hke, hle', rfl, hC6⟩
   rotate_left
   ·go_wp2
    exact ⟨rfl, by rw [HR3.out, hXu]; exact ⟨ke, hke, hle', rfl, hC5.trans hC6 (fun _ h _ => h)⟩⟩
   clear hp
   have hu' : v = .tuple #[] := hu
   subst hu'
   have HR4 : Hid (R = .ok (some (.mk 2 [] [] [] [] l [] [] [])) r4) := Lib.hid (by rw [HR3.out, hXu]; rfl)
   have hX2 := row_chg hX1 hC6 (by omega)
   have hZ4 := row_chg hZ3 hC6 (by omega)
   have hC7 := hC5.trans hC6 (fun _ h _ => h)
   have HO4 := Lib.hid (HO3.out.stay hC6 (fun k hk e => by have := hk.1; omega))
   have hcX := row_cells hX2
   have hcZ := row_cells hZ4
   have hfZ := row_free hZ4
   clear HR3 hXu hu hX1 hZ3 hC5 hC6 HO3 hP3
   go_wp2
   have hC9 := chg9 w3 w.heap.size (.int .i64 2) (.string ⟨#[]⟩) (.slice none 0 0) (.slice none 0 0) (.slice none 0 0) (.slice A l.length c) (.slice none 0 0) (.slice none 0 0) (.slice none 0 0)
   refine bodyPost_ret (v := .tuple #[.agg #[.int .i64 2, .string ⟨#[]⟩, .slice none 0 0, .slice none 0 0, .slice none 0 0, .slice A l.length c, .slice none 0 0, .slice none 0 0, .slice none 0 0], .bool true]) (by simp [results, Tryz.results98, go_sem, hcZ]) rfl ?_
   rw [HR4.out]
   refine ⟨_, rfl, ⟨[.int .i64 2, .string ⟨#[]⟩, .slice none 0 0, .slice none 0 0, .slice none 0 0, .slice A l.length c, .slice none 0 0, .slice none 0 0, .slice none 0 0], rfl, cmd_rep.2 ⟨_, _, _, _, _, _, _, rfl, rep_nil _ _ _ _, rep_nil _ _ _ _, rep_nil _ _ _ _, ?_, rep_nil _ _ _ _, rep_nil _ _ _ _, rep_nil _ _ _ _⟩, rfl⟩, hP4.chg hC9 (by omega), hC7.trans hC9 (fun k hk hl => by omega)⟩
   exact (HO4.out.stay hC9 (fun k hk e => by have := hk.1; omega)).mono (fun k hk _ => by have := hk.1; omega)
  case false =>
   rw [q1] at e1 HR2
   simp only [Bool.false_eq_true, if_false] at HR2
   cases q2 : pt == [105, 102]
   case true =>
    rw [q2] at e2 HR2
    have HR3 : Hid (R = (br pr).bind fun c r1 => .ok (some c) r1) := Lib.hid HR2.out
    have hpe : pt = [105, 102] := by simpa using q2
    have hlt1 := hlt [105, 102] (by simp) q2
    obtain ⟨hn1, hn2⟩ := HN.out (by rw [hpe]; simp)
    have hA3 := hA2.at' (n : Int)
    have hP3 : ParsR (w2.setCell ⟨g, 1, none⟩ (.int .i64 (n : Int))) g s pr d := ⟨n, hn1, hn2, hA3⟩
    have hZ1 := row_far hZ2 (p := ⟨g, 1, none⟩) (by simp; omega) (.int .i64 (n : Int))
    have hC2 := hC4.setCell (p := ⟨g, 1, none⟩) (fun _ => rfl) (.int .i64 (n : Int))
    have hs0 : w.heap.size < (w2.setCell ⟨g, 1, none⟩ (.int .i64 (n : Int))).heap.size := by simpa using hs2
    clear hpe hn1 hn2 hA3
    clear HR2 e3 e4 e5 e6 q1 q2
    go_wp2_with fail
    clear h0 h1 h2 f1 f2 hA2 HP2 HN hZ2 hC4 hs2
    generalize w2.setCell ⟨g, 1, none⟩ (.int .i64 (n : Int)) = w1 at *
    refine Calls.mono (hbr (by omega) g s pr _ hP3 hs (by omega)) ?_
    rintro e w3 hp
    rcases ppost_cases hp with ⟨x, r4, v, hXx, rfl, ⟨cs, rfl, hcs, h8⟩, hP4, hC6⟩ | ⟨le, ce, ke, hXx, hke, hle', rfl, hC6⟩
    rotate_left
    ·go_wp2
     exact ⟨rfl, by rw [HR3.out, hXx]; exact ⟨ke, hke, hle', rfl, hC2.trans hC6 (fun _ h _ => h)⟩⟩
    clear hp
    obtain ⟨kk, nn, A1, n1, c1, A2, n2, c2, A3, n3, c3, A4, n4, c4, A5, n5, c5, A6, n6, c6, rfl⟩ := cmd_form0 hcs h8
    have HR4 : Hid (R = .ok (some x) r4) := Lib.hid (by rw [HR3.out, hXx]; rfl)
    have hZ4 := row_chg hZ1 hC6 (by omega)
    have hC7 := hC2.trans hC6 (fun _ h _ => h)
    have HCS := Lib.hid hcs
    have hcZ := row_cells hZ4
    have hfZ := row_free hZ4
    clear HR3 hXx hcs h8 hZ1 hC2 hC6 hP3
    go_wp2
    have hC9 := chg9 w3 w.heap.size (.int .i64 kk) (.string nn) (.slice A1 n1 c1) (.slice A2 n2 c2) (.slice A3 n3 c3) (.slice A4 n4 c4) (.slice A5 n5 c5) (.slice A6 n6 c6) (.slice none 0 0)
    refine bodyPost_ret (v := .tuple #[.agg #[.int .i64 kk, .string nn, .slice A1 n1 c1, .slice A2 n2 c2, .slice A3 n3 c3, .slice A4 n4 c4, .slice A5 n5 c5, .slice A6 n6 c6, .slice none 0 0], .bool true]) (by simp [results, Tryz.results98, go_sem, hcZ]) rfl ?_
    rw [HR4.out]
    refine ⟨_, rfl, ⟨[.int .i64 kk, .string nn, .slice A1 n1 c1, .slice A2 n2 c2, .slice A3 n3 c3, .slice A4 n4 c4, .slice A5 n5 c5, .slice A6 n6 c6, .slice none 0 0], rfl, ?_, rfl⟩, hP4.chg hC9 (by omega), hC7.trans hC9 (fun k hk hl => by omega)⟩
    exact (HCS.out.stay hC9 (fun k hk e => by omega)).mono (fun k hk _ => by omega)
   case false =>
    rw [q2] at e2 HR2
    simp only [Bool.false_eq_true, if_false] at HR2
    cases q3 : pt == [119, 104, 105, 108, 101]
    case true =>
     have hpt : pt = [119, 104, 105, 108, 101] := by simpa using q3
     have q4 : (pt == [117, 110, 116, 105, 108]) = false := by rw [hpt]; rfl
     rw [q3] at e3 HR2
     rw [q4] at e4 HR2
     have HR3 : Hid (R = (ls pr).bind fun cond r1 => (loopP ls r1).bind fun l r2 => .ok (some (.mk 5 [] [] [] cond l [] [] [])) r2) := Lib.hid HR2.out
     have hpe : pt = [119, 104, 105, 108, 101] := by simpa using q3
     have hlt1 := hlt [119, 104, 105, 108, 101] (by simp) q3
     obtain ⟨hn1, hn2⟩ := HN.out (by rw [hpe]; simp)
     have hA3 := hA2.at' (n : Int)
     have hP3 : ParsR (w2.setCell ⟨g, 1, none⟩ (.int .i64 (n : Int))) g s pr d := ⟨n, hn1, hn2, hA3⟩
     have hZ1 := row_far hZ2 (p := ⟨g, 1, none⟩) (by simp; omega) (.int .i64 (n : Int))
     have hC2 := hC4.setCell (p := ⟨g, 1, none⟩) (fun _ => rfl) (.int .i64 (n : Int))
     have hs0 : w.heap.size < (w2.setCell ⟨g, 1, none⟩ (.int .i64 (n : Int))).heap.size := by simpa using hs2
     clear hpe hn1 hn2 hA3
     clear HR2 e5 e6 q1 q2 q3 q4 hpt
     go_wp2_with fail
     clear h0 h1 h2 f1 f2 hA2 HP2 HN hZ2 hC4 hs2
     generalize w2.setCell ⟨g, 1, none⟩ (.int .i64 (n : Int)) = w1 at *
     refine Calls.mono (hls (by omega) g s pr _ hP3 hs (by omega)) ?_
     rintro e w2 hp
     rcases ppost_cases hp with ⟨l, rl, v, hXl, rfl, ⟨A, c, rfl, hO⟩, hP2, hC3⟩ | ⟨le, ce, ke, hXl, hke, hle', rfl, hC3⟩
     rotate_left
     ·go_wp2
      exact ⟨rfl, by rw [HR3.out, hXl]; exact ⟨ke, hke, hle', rfl, hC2.trans hC3 (fun _ h _ => h)⟩⟩
     clear hp
     have HR4 : Hid (R = (loopP ls rl).bind fun l2 r2 => .ok (some (.mk 5 [] [] [] l l2 [] [] [])) r2) := Lib.hid (by rw [HR3.out, hXl]; rfl)
     have hrl : rl.length ≤ m := by have := hll _ _ _ hXl; omega
     have hZ2 := row_chg hZ1 hC3 (by omega)
     have hC4 := hC2.trans hC3 (fun _ h _ => h)
     have hszA := hC3.size
     have HO := Lib.hid hO; clear hO
     clear hZ1 hC2 HR3 hXl hP3
     go_wp2_with fail
     have hX1 := row_new w2 (.cells #[.int .i64 5, .string ⟨#[]⟩, .slice none 0 0, .slice none 0 0, .slice A l.length c, .slice none 0 0, .slice none 0 0, .slice none 0 0, .slice none 0 0] 49)
     have hCa : Chg (fun _ => False) w2 (w2.alloc (.cells #[.int .i64 5, .string ⟨#[]⟩, .slice none 0 0, .slice none 0 0, .slice A l.length c, .slice none 0 0, .slice none 0 0, .slice none 0 0, .slice none 0 0] 49)) := (Chg.refl _ w2).alloc _
     have hP3 := hP2.chg hCa (fun e => e)
     have hZ3 := row_chg hZ2 hCa (fun e => e)
     have hC5 := hC4.trans hCa (fun _ h _ => h.elim)
     have HO3 := Lib.hid (HO.out.bound.stay hCa (fun _ _ e => e))
     clear hCa hP2 hZ2 hC4 HO hC3
     generalize w2.alloc (.cells #[.int .i64 5, .string ⟨#[]⟩, .slice none 0 0, .slice none 0 0, .slice A l.length c, .slice none 0 0, .slice none 0 0, .slice none 0 0, .slice none 0 0] 49) = U at *
     have hUX : w2.heap.size < U.heap.size := row_lt hX1
     refine Calls.mono (loop_calls ls d m (hls (by omega)) g s rl _ hP3 hs (fun r1 h1 => by have := le_must _ (by simp) _ _ _ h1; omega)) ?_
     rintro e w3 hp
     rcases ppost_cases hp with ⟨l2, r4, v, hXu, rfl, ⟨A2, c2, rfl, hO2⟩, hP4, hC6⟩ | ⟨le, ce, ke, hXu, hke, hle', rfl, hC6⟩
     rotate_left
     ·go_wp2
      exact ⟨rfl, by rw [HR4.out, hXu]; exact ⟨ke, hke, hle', rfl, hC5.trans hC6 (fun _ h _ => h)⟩⟩
     clear hp
     have HR5 : Hid (R = .ok (some (.mk 5 [] [] [] l l2 [] [] [])) r4) := Lib.hid (by rw [HR4.out, hXu]; rfl)
     have hX2 := row_chg hX1 hC6 (by omega)
     have hZ4 := row_chg hZ3 hC6 (by omega)
     have hC7 := hC5.trans hC6 (fun _ h _ => h)
     have HO4 := Lib.hid (HO3.out.stay hC6 (fun k hk e => by have := hk.1; omega))
     have HO5 := Lib.hid hO2
     have hcX := row_cells hX2
     have hfX := row_free hX2
     have hcZ := row_cells hZ4
     have hfZ := row_free hZ4
     clear HR4 hXu hO2 hX1 hZ3 hC5 hC6 HO3 hP3
     go_wp2
     have hCX := setCell_chg w3 w2.heap.size 5 (.slice A2 l2.length c2)
     have hC9 := chg9 (w3.setCell ⟨w2.heap.size, 5, none⟩ (.slice A2 l2.length c2)) w.heap.size (.int .i64 5) (.string ⟨#[]⟩) (.slice none 0 0) (.slice none 0 0) (.slice A l.length c) (.slice A2 l2.length c2) (.slice none 0 0) (.slice none 0 0) (.slice none 0 0)
     have hcZ5 := row_cells (row_chg hZ4 hCX (by omega))
     refine bodyPost_ret (v := .tuple #[.agg #[.int .i64 5, .string ⟨#[]⟩, .slice none 0 0, .slice none 0 0, .slice A l.length c, .slice A2 l2.length c2, .slice none 0 0, .slice none 0 0, .slice none 0 0], .bool true]) (by simp [results, Tryz.results98, go_sem, hcZ5]) rfl ?_
     rw [HR5.out]
     refine ⟨_, rfl, ⟨[.int .i64 5, .string ⟨#[]⟩, .slice none 0 0, .slice none 0 0, .slice A l.length c, .slice A2 l2.length c2, .slice none 0 0, .slice none 0 0, .slice none 0 0], rfl, cmd_rep.2 ⟨_, _, _, _, _, _, _, rfl, rep_nil _ _ _ _, rep_nil _ _ _ _, ?_, ?_, rep_nil _ _ _ _, rep_nil _ _ _ _, rep_nil _ _ _ _⟩, rfl⟩, (hP4.chg hCX (by omega)).chg hC9 (by omega), (hC7.trans hCX (fun k hk hl => by omega)).trans hC9 (fun k hk hl => by omega)⟩
     ·exact ((HO4.out.stay hCX (fun k hk e => by have := hk.2; omega)).stay hC9 (fun k hk e => by have := hk.1; omega)).mono (fun k hk _ => by have := hk.1; omega)
     ·exact ((HO5.out.stay hCX (fun k hk e => by omega)).stay hC9 (fun k hk e => by omega)).mono (fun k hk _ => by omega)
    case false =>
     rw [q3] at e3 HR2
     cases q4 : pt == [117, 110, 116, 105, 108]
     case true =>
      rw [q4] at e4 HR2
      have HR3 : Hid (R = (ls pr).bind fun cond r1 => (loopP ls r1).bind fun l r2 => .ok (some (.mk 6 [] [] [] cond l [] [] [])) r2) := Lib.hid HR2.out
      have hpe : pt = [117, 110, 116, 105, 108] := by simpa using q4
      have hlt1 := hlt [117, 110, 116, 105, 108] (by simp) q4
      obtain ⟨hn1, hn2⟩ := HN.out (by rw [hpe]; simp)
      have hA3 := hA2.at' (n : Int)
      have hP3 : ParsR (w2.setCell ⟨g, 1, none⟩ (.int .i64 (n : Int))) g s pr d := ⟨n, hn1, hn2, hA3⟩
      have hZ1 := row_far hZ2 (p := ⟨g, 1, none⟩) (by simp; omega) (.int .i64 (n : Int))
      have hC2 := hC4.setCell (p := ⟨g, 1, none⟩) (fun _ => rfl) (.int .i64 (n : Int))
      have hs0 : w.heap.size < (w2.setCell ⟨g, 1, none⟩ (.int .i64 (n : Int))).heap.size := by simpa using hs2
      clear hpe hn1 hn2 hA3
      clear HR2 e5 e6 q1 q2 q3 q4
      go_wp2_with fail
      clear h0 h1 h2 f1 f2 hA2 HP2 HN hZ2 hC4 hs2
      generalize w2.setCell ⟨g, 1, none⟩ (.int .i64 (n : Int)) = w1 at *
      refine Calls.mono (hls (by omega) g s pr _ hP3 hs (by omega)) ?_
      rintro e w2 hp
      rcases ppost_cases hp with ⟨l, rl, v, hXl, rfl, ⟨A, c, rfl, hO⟩, hP2, hC3⟩ | ⟨le, ce, ke, hXl, hke, hle', rfl, hC3⟩
      rotate_left
      ·go_wp2
       exact ⟨rfl, by rw [HR3.out, hXl]; exact ⟨ke, hke, hle', rfl, hC2.trans hC3 (fun _ h _ => h)⟩⟩
      clear hp
      have HR4 : Hid (R = (loopP ls rl).bind fun l2 r2 => .ok (some (.mk 6 [] [] [] l l2 [] [] [])) r2) := Lib.hid (by rw [HR3.out, hXl]; rfl)
      have hrl : rl.length ≤ m := by have := hll _ _ _ hXl; omega
      have hZ2 := row_chg hZ1 hC3 (by omega)
      have hC4 := hC2.trans hC3 (fun _ h _ => h)
      have hszA := hC3.size
      have HO := Lib.hid hO; clear hO
      clear hZ1 hC2 HR3 hXl hP3
      go_wp2_with fail
      have hX1 := row_new w2 (.cells #[.int .i64 6, .string ⟨#[]⟩, .slice none 0 0, .slice none 0 0, .slice A l.length c, .slice none 0 0, .slice none 0 0, .slice none 0 0, .slice none 0 0] 49)
      have hCa : Chg (fun _ => False) w2 (w2.alloc (.cells #[.int .i64 6, .string ⟨#[]⟩, .slice none 0 0, .slice none 0 0, .slice A l.length c, .slice none 0 0, .slice none 0 0, .slice none 0 0, .slice none 0 0] 49)) := (Chg.refl _ w2).alloc _
      have hP3 := hP2.chg hCa (fun e => e)
      have hZ3 := row_chg hZ2 hCa (fun e => e)
      have hC5 := hC4.trans hCa (fun _ h _ => h.elim)
      have HO3 := Lib.hid (HO.out.bound.stay hCa (fun _ _ e => e))
      clear hCa hP2 hZ2 hC4 HO hC3
      generalize w2.alloc (.cells #[.int .i64 6, .string ⟨#[]⟩, .slice none 0 0, .slice none 0 0, .slice A l.length c, .slice none 0 0, .slice none 0 0, .slice none 0 0, .slice none 0 0] 49) = U at *
      have hUX : w2.heap.size < U.heap.size := row_lt hX1
      refine Calls.mono (loop_calls ls d m (hls (by omega)) g s rl _ hP3 hs (fun r1 h1 => by have := le_must _ (by simp) _ _ _ h1; omega)) ?_
      rintro e w3 hp
      rcases ppost_cases hp with ⟨l2, r4, v, hXu, rfl, ⟨A2, c2, rfl, hO2⟩, hP4, hC6⟩ | ⟨le, ce, ke, hXu, hke, hle', rfl, hC6⟩
      rotate_left
      ·go_wp2
       exact ⟨rfl, by rw [HR4.out, hXu]; exact ⟨ke, hke, hle', rfl, hC5.trans hC6 (fun _ h _ => h)⟩⟩
      clear hp
      have HR5 : Hid (R = .ok (some (.mk 6 [] [] [] l l2 [] [] [])) r4) := Lib.hid (by rw [HR4.out, hXu]; rfl)
      have hX2 := row_chg hX1 hC6 (by omega)
      have hZ4 := row_chg hZ3 hC6 (by omega)
      have hC7 := hC5.trans hC6 (fun _ h _ => h)
      have HO4 := Lib.hid (HO3.out.stay hC6 (fun k hk e => by have := hk.1; omega))
      have HO5 := Lib.hid hO2
      have hcX := row_cells hX2
      have hfX := row_free hX2
      have hcZ := row_cells hZ4
      have hfZ := row_free hZ4
      clear HR4 hXu hO2 hX1 hZ3 hC5 hC6 HO3 hP3
      go_wp2
      have hCX := setCell_chg w3 w2.heap.size 5 (.slice A2 l2.length c2)
      have hC9 := chg9 (w3.setCell ⟨w2.heap.size, 5, none⟩ (.slice A2 l2.length c2)) w.heap.size (.int .i64 6) (.string ⟨#[]⟩) (.slice none 0 0) (.slice none 0 0) (.slice A l.length c) (.slice A2 l2.length c2) (.slice none 0 0) (.slice none 0 0) (.slice none 0 0)
      have hcZ5 := row_cells (row_chg hZ4 hCX (by omega))
      refine bodyPost_ret (v := .tuple #[.agg #[.int .i64 6, .string ⟨#[]⟩, .slice none 0 0, .slice none 0 0, .slice A l.length c, .slice A2 l2.length c2, .slice none 0 0, .slice none 0 0, .slice none 0 0], .bool true]) (by simp [results, Tryz.results98, go_sem, hcZ5]) rfl ?_
      rw [HR5.out]
      refine ⟨_, rfl, ⟨[.int .i64 6, .string ⟨#[]⟩, .slice none 0 0, .slice none 0 0, .slice A l.length c, .slice A2 l2.length c2, .slice none 0 0, .slice none 0 0, .slice none 0 0], rfl, cmd_rep.2 ⟨_, _, _, _, _, _, _, rfl, rep_nil _ _ _ _, rep_nil _ _ _ _, ?_, ?_, rep_nil _ _ _ _, rep_nil _ _ _ _, rep_nil _ _ _ _⟩, rfl⟩, (hP4.chg hCX (by omega)).chg hC9 (by omega), (hC7.trans hCX (fun k hk hl => by omega)).trans hC9 (fun k hk hl => by omega)⟩
      ·exact ((HO4.out.stay hCX (fun k hk e => by have := hk.2; omega)).stay hC9 (fun k hk e => by have := hk.1; omega)).mono (fun k hk _ => by have := hk.1; omega)
      ·exact ((HO5.out.stay hCX (fun k hk e => by omega)).stay hC9 (fun k hk e => by omega)).mono (fun k hk _ => by omega)
     case false =>
      rw [q4] at e4 HR2
      simp only [Bool.or_self, Bool.false_eq_true, if_false] at HR2
      cases q5 : pt == [102, 111, 114]
      case true =>
       rw [q5] at e5 HR2
       have HR3 : Hid (R = (eachP wd ls pr).bind fun c r1 => .ok (some c) r1) := Lib.hid HR2.out
       have hpe : pt = [102, 111, 114] := by simpa using q5
       have hlt1 := hlt [102, 111, 114] (by simp) q5
       obtain ⟨hn1, hn2⟩ := HN.out (by rw [hpe]; simp)
       have hA3 := hA2.at' (n : Int)
       have hP3 : ParsR (w2.setCell ⟨g, 1, none⟩ (.int .i64 (n : Int))) g s pr d := ⟨n, hn1, hn2, hA3⟩
       have hZ1 := row_far hZ2 (p := ⟨g, 1, none⟩) (by simp; omega) (.int .i64 (n : Int))
       have hC2 := hC4.setCell (p := ⟨g, 1, none⟩) (fun _ => rfl) (.int .i64 (n : Int))
       have hs0 : w.heap.size < (w2.setCell ⟨g, 1, none⟩ (.int .i64 (n : Int))).heap.size := by simpa using hs2
       clear hpe hn1 hn2 hA3
       clear HR2 e6 q1 q2 q3 q4 q5
       go_wp2_with fail
       clear h0 h1 h2 f1 f2 hA2 HP2 HN hZ2 hC4 hs2
       generalize w2.setCell ⟨g, 1, none⟩ (.int .i64 (n : Int)) = w1 at *
       refine Calls.mono (hea (by omega) g s pr _ hP3 hs (by omega)) ?_
       rintro e w3 hp
       rcases ppost_cases hp with ⟨x, r4, v, hXx, rfl, ⟨cs, rfl, hcs, h8⟩, hP4, hC6⟩ | ⟨le, ce, ke, hXx, hke, hle', rfl, hC6⟩
       rotate_left
       ·go_wp2
        exact ⟨rfl, by rw [HR3.out, hXx]; exact ⟨ke, hke, hle', rfl, hC2.trans hC6 (fun _ h _ => h)⟩⟩
       clear hp
       obtain ⟨kk, nn, A1, n1, c1, A2, n2, c2, A3, n3, c3, A4, n4, c4, A5, n5, c5, A6, n6, c6, rfl⟩ := cmd_form0 hcs h8
       have HR4 : Hid (R = .ok (some x) r4) := Lib.hid (by rw [HR3.out, hXx]; rfl)
       have hZ4 := row_chg hZ1 hC6 (by omega)
       have hC7 := hC2.trans hC6 (fun _ h _ => h)
       have HCS := Lib.hid hcs
       have hcZ := row_cells hZ4
       have hfZ := row_free hZ4
       clear HR3 hXx hcs h8 hZ1 hC2 hC6 hP3
       go_wp2
       have hC9 := chg9 w3 w.heap.size (.int .i64 kk) (.string nn) (.slice A1 n1 c1) (.slice A2 n2 c2) (.slice A3 n3 c3) (.slice A4 n4 c4) (.slice A5 n5 c5) (.slice A6 n6 c6) (.slice none 0 0)
       refine bodyPost_ret (v := .tuple #[.agg #[.int .i64 kk, .string nn, .slice A1 n1 c1, .slice A2 n2 c2, .slice A3 n3 c3, .slice A4 n4 c4, .slice A5 n5 c5, .slice A6 n6 c6, .slice none 0 0], .bool true]) (by simp [results, Tryz.results98, go_sem, hcZ]) rfl ?_
       rw [HR4.out]
       refine ⟨_, rfl, ⟨[.int .i64 kk, .string nn, .slice A1 n1 c1, .slice A2 n2 c2, .slice A3 n3 c3, .slice A4 n4 c4, .slice A5 n5 c5, .slice A6 n6 c6, .slice none 0 0], rfl, ?_, rfl⟩, hP4.chg hC9 (by omega), hC7.trans hC9 (fun k hk hl => by omega)⟩
       exact (HCS.out.stay hC9 (fun k hk e => by omega)).mono (fun k hk _ => by omega)
      case false =>
       rw [q5] at e5 HR2
       simp only [Bool.false_eq_true, if_false] at HR2
       cases q6 : pt == [99, 97, 115, 101]
       case true =>
        rw [q6] at e6 HR2
        have HR3 : Hid (R = (choiceP wd ls pr).bind fun c r1 => .ok (some c) r1) := Lib.hid HR2.out
        have hpe : pt = [99, 97, 115, 101] := by simpa using q6
        have hlt1 := hlt [99, 97, 115, 101] (by simp) q6
        obtain ⟨hn1, hn2⟩ := HN.out (by rw [hpe]; simp)
        have hA3 := hA2.at' (n : Int)
        have hP3 : ParsR (w2.setCell ⟨g, 1, none⟩ (.int .i64 (n : Int))) g s pr d := ⟨n, hn1, hn2, hA3⟩
        have hZ1 := row_far hZ2 (p := ⟨g, 1, none⟩) (by simp; omega) (.int .i64 (n : Int))
        have hC2 := hC4.setCell (p := ⟨g, 1, none⟩) (fun _ => rfl) (.int .i64 (n : Int))
        have hs0 : w.heap.size < (w2.setCell ⟨g, 1, none⟩ (.int .i64 (n : Int))).heap.size := by simpa using hs2
        clear hpe hn1 hn2 hA3
        clear HR2 q1 q2 q3 q4 q5 q6
        go_wp2_with fail
        clear h0 h1 h2 f1 f2 hA2 HP2 HN hZ2 hC4 hs2
        generalize w2.setCell ⟨g, 1, none⟩ (.int .i64 (n : Int)) = w1 at *
        refine Calls.mono (hch (by omega) g s pr _ hP3 hs (by omega)) ?_
        rintro e w3 hp
        rcases ppost_cases hp with ⟨x, r4, v, hXx, rfl, ⟨cs, rfl, hcs, h8⟩, hP4, hC6⟩ | ⟨le, ce, ke, hXx, hke, hle', rfl, hC6⟩
        rotate_left
        ·go_wp2
         exact ⟨rfl, by rw [HR3.out, hXx]; exact ⟨ke, hke, hle', rfl, hC2.trans hC6 (fun _ h _ => h)⟩⟩
        clear hp
        obtain ⟨kk, nn, A1, n1, c1, A2, n2, c2, A3, n3, c3, A4, n4, c4, A5, n5, c5, A6, n6, c6, rfl⟩ := cmd_form0 hcs h8
        have HR4 : Hid (R = .ok (some x) r4) := Lib.hid (by rw [HR3.out, hXx]; rfl)
        have hZ4 := row_chg hZ1 hC6 (by omega)
        have hC7 := hC2.trans hC6 (fun _ h _ => h)
        have HCS := Lib.hid hcs
        have hcZ := row_cells hZ4
        have hfZ := row_free hZ4
        clear HR3 hXx hcs h8 hZ1 hC2 hC6 hP3
        go_wp2
        have hC9 := chg9 w3 w.heap.size (.int .i64 kk) (.string nn) (.slice A1 n1 c1) (.slice A2 n2 c2) (.slice A3 n3 c3) (.slice A4 n4 c4) (.slice A5 n5 c5) (.slice A6 n6 c6) (.slice none 0 0)
        refine bodyPost_ret (v := .tuple #[.agg #[.int .i64 kk, .string nn, .slice A1 n1 c1, .slice A2 n2 c2, .slice A3 n3 c3, .slice A4 n4 c4, .slice A5 n5 c5, .slice A6 n6 c6, .slice none 0 0], .bool true]) (by simp [results, Tryz.results98, go_sem, hcZ]) rfl ?_
        rw [HR4.out]
        refine ⟨_, rfl, ⟨[.int .i64 kk, .string nn, .slice A1 n1 c1, .slice A2 n2 c2, .slice A3 n3 c3, .slice A4 n4 c4, .slice A5 n5 c5, .slice A6 n6 c6, .slice none 0 0], rfl, ?_, rfl⟩, hP4.chg hC9 (by omega), hC7.trans hC9 (fun k hk hl => by omega)⟩
        exact (HCS.out.stay hC9 (fun k hk e => by omega)).mono (fun k hk _ => by omega)
       case false =>
        rw [q6] at e6 HR2
        have HR3 : Hid (R = .ok none b2) := Lib.hid HR2.out
        have hcZ := row_cells hZ2
        have hfZ := row_free hZ2
        clear HR2 q1 q2 q3 q4 q5 q6
        go_wp2
        have hC9 := chg9 w2 w.heap.size (.int .i64 0) (.string ⟨#[]⟩) (.slice none 0 0) (.slice none 0 0) (.slice none 0 0) (.slice none 0 0) (.slice none 0 0) (.slice none 0 0) (.slice none 0 0)
        refine bodyPost_ret (v := .tuple #[.agg zCmd, .bool false]) (by simp [results, Tryz.results98, go_sem, hcZ]) rfl ?_
        rw [HR3.out]
        exact ⟨_, rfl, rfl, HP2.out.chg hC9 (by omega), hC4.trans hC9 (fun k hk hl => by omega)⟩
theorem cmd_redirs {w : World} {S : Nat → Prop} {c : Cmd} {v0 v1 v2 v3 v4 v5 v6 v7 v : Value} {rs : List Rdr} (h : Rep w S c.d [v0, v1, v2, v3, v4, v5, v6, v7, .slice none 0 0]) (hr : Rep w S (.sl 75 3 (rs.map Rdr.d)) [v]) : Rep w S (withRedirs c rs).d [v0, v1, v2, v3, v4, v5, v6, v7, v] := by
 obtain ⟨k, n, xs, ws, co, bo, ot, ca, rs0⟩ := c
 obtain ⟨u1, u2, u3, u4, u5, u6, u7, e, h1, h2, h3, h4, h5, h6, h7⟩ := cmd_rep.1 h
 simp only [List.cons.injEq, and_true] at e
 obtain ⟨rfl, rfl, rfl, rfl, rfl, rfl, rfl, rfl, rfl⟩ := e
 have : rs0 = [] := by
  obtain ⟨A, c, inner, e, _⟩ := h7
  simp at e
  cases rs0 with
  | nil => rfl
  | cons a l => simp at e
 subst this
 exact cmd_rep.2 ⟨_, _, _, _, _, _, _, rfl, h1, h2, h3, h4, h5, h6, hr⟩
def rdRest (wd : Bytes → Rs (List Part)) (n : Nat) (rs : List Rdr) (o : Option Rdr) (r : Bytes) : Rs (List Rdr) := match o with
 | some x => redirsF wd n (rs ++ [x]) r
 | none => .ok rs r
theorem redirsF_eq (wd : Bytes → Rs (List Part)) (n : Nat) (rs : List Rdr) (r : Bytes) : redirsF wd (n + 1) rs r = (redirP wd r).bind fun o r' => rdRest wd n rs o r' := by rw [redirsF]; rfl
def RdRel {γ : Type} (wd : Bytes → Rs (List Part)) (K : List Rdr → Bytes → Rs γ) (w : World) (g Z X : Nat) (s : ByteArray) (d : Nat) (R : Rs γ) (m : Nat) (c : Cmd) (v0 v1 v2 v3 v4 v5 v6 v7 z : Value) (zs : Array Value) (k : Nat) (yv fv : Value) (wr : World) : Prop :=
 ∃ (rs : List Rdr) (o : Option Rdr) (r : Bytes) (f Y N : Nat) (y0 : Int) (y1 : ByteArray) (y2 : Option Addr) (y3 y4 : Nat) (A : Option Addr) (cp L : Nat) (S : Nat → Prop), yv = .pointer (some ⟨Y, 0, none⟩) ∧ fv = .bool o.isSome ∧ rs.length = L ∧ Hid (R = (rdRest wd f rs o r).bind K) ∧ ParsR wr g s r d ∧
  (o.isSome = true → r.length < f ∧ L + r.length ≤ 8192 ∧ r.length + 1 < k) ∧ r.length < k ∧ r.length ≤ m ∧ wr.heap[X]? = some (.cells #[v0, v1, v2, v3, v4, v5, v6, v7, .slice A L cp] 49) ∧ wr.heap[Y]? = some (.cells #[.int .i64 y0, .string y1, .slice y2 y3 y4] 75) ∧
  Row wr X X 75 3 (.slice A L cp) (rs.map Rdr.d) S ∧ (∀ k, S k → k < N ∧ k ≠ Y) ∧ N ≤ wr.heap.size ∧ X < N ∧ Y ≠ X ∧ Z < Y ∧ (∀ x, o = some x → Rep wr (fun k => N ≤ k ∧ k ≠ Y) x.d [.int .i64 y0, .string y1, .slice y2 y3 y4]) ∧
  Rep wr (fun k => Z < k ∧ k < X) c.d [v0, v1, v2, v3, v4, v5, v6, v7, z] ∧ Chg (· = g) w wr ∧ wr.heap[Z]? = some (.cells zs 49)
theorem isRdr_form {w w' : World} {o : Option Rdr} {v : Value} (h : isRdr w o v w') : ∃ y0 y1 y2 y3 y4, v = .tuple #[.agg #[.int .i64 y0, .string y1, .slice y2 y3 y4], .bool o.isSome] ∧ ∀ x, o = some x → Rep w' (fun k => w.heap.size ≤ k) x.d [.int .i64 y0, .string y1, .slice y2 y3 y4] := by
 cases o with
 | none => exact ⟨_, _, _, _, _, h, fun x e => by cases e⟩
 | some x =>
  obtain ⟨cs, rfl, hr⟩ := h
  obtain ⟨f, o, A, n, c, rfl⟩ := rdr_form hr
  exact ⟨_, _, _, _, _, rfl, fun y e => by cases e; exact hr⟩
set_option maxRecDepth 100000 in
set_option maxHeartbeats 4000000 in
theorem command_calls (wd : Bytes → Rs (List Part)) (comp : Bytes → Rs (Option Cmd)) (simp0 : Bytes → Rs Cmd) (d : Nat) (m : Nat) (hwd : WdSaid wd d m) (hlt : Lt wd)
  (hcomp : ∀ (g : Nat) (s : ByteArray) (r : Bytes) (w : World), ParsR w g s r d → s.size ≤ 8192 → r.length ≤ m → Calls Tryz.prog 98 #[.pointer (some ⟨g, 0, none⟩)] w (PPost w g s d (comp r) (isComp w)))
  (hsimp : ∀ (g : Nat) (s : ByteArray) (r : Bytes) (w : World), ParsR w g s r d → s.size ≤ 8192 → r.length ≤ m → Calls Tryz.prog 99 #[.pointer (some ⟨g, 0, none⟩)] w (PPost w g s d (simp0 r) (isCmd w)))
  (hle : ∀ r o r1, comp r = .ok o r1 → r1.length ≤ r.length) (g : Nat) (s : ByteArray) (r : Bytes) (w : World) (h : ParsR w g s r d) (hs : s.size ≤ 8192) (hm : r.length ≤ m) :
  Calls Tryz.prog 87 #[.pointer (some ⟨g, 0, none⟩)] w (PPost w g s d ((comp r).bind fun o r1 => match o with
   | some c => (redirsF wd (r1.length + 1) [] r1).bind fun rs r2 => .ok (withRedirs c rs) r2
   | none => simp0 r1) (isCmd w)) := by
 have hgl := h.lt
 have hrl := h.len
 generalize hR : ((comp r).bind fun o r1 => match o with
   | some c => (redirsF wd (r1.length + 1) [] r1).bind fun rs r2 => .ok (withRedirs c rs) r2
   | none => simp0 r1) = R
 have HR := Lib.hid hR.symm; clear hR
 go_enter Tryz.func87, Tryz.ntmps87
 have hC0 : Chg (· = g) w (w.alloc (.cells zCmd 49)) := (Chg.refl _ w).alloc _
 have hP0 := ParsR.chg (B := fun _ => False) h ((Chg.refl _ w).alloc (.cells zCmd 49)) (fun e => e)
 have hZ0 := row_new w (.cells zCmd 49)
 go_wp2_with fail
 refine Calls.mono (hcomp g s r _ hP0 hs hm) ?_
 rintro e w1 hp
 rcases ppost_cases hp with ⟨o, r1, v, hXo, rfl, ho, hP1, hC1⟩ | ⟨le, ce, ke, hXo, hke, hle', rfl, hC1⟩
 rotate_left
 ·go_wp2
  exact ⟨rfl, by rw [HR.out, hXo]; exact ⟨ke, hke, hle', rfl, hC0.trans hC1 (fun _ h _ => h)⟩⟩
 clear hp
 have hr1 := hle _ _ _ hXo
 have hZ1 := row_chg hZ0 hC1 (by omega)
 have hC2 := hC0.trans hC1 (fun _ h _ => h)
 have hs0 : w.heap.size < w1.heap.size := by have := hC1.size; simp at this; omega
 cases o with
 | none =>
  have HR2 : Hid (R = simp0 r1) := Lib.hid (by rw [HR.out, hXo]; rfl)
  have hv : v = .tuple #[.agg zCmd, .bool false] := ho
  subst hv
  clear HR hXo ho hP0 hZ0 hC0 hC1
  go_wp2_with fail
  have hCa : Chg (fun _ => False) w1 (w1.alloc (.cells zCmd 49)) := (Chg.refl _ w1).alloc _
  have hP3 := hP1.chg hCa (fun e => e)
  have hZ3 := row_chg hZ1 hCa (fun e => e)
  have hC5 := hC2.trans hCa (fun _ h _ => h.elim)
  have hsU : (w1.alloc (.cells zCmd 49)).heap.size = w1.heap.size + 1 := by simp
  clear hCa hP1 hZ1 hC2
  refine Calls.mono (hsimp g s r1 _ hP3 hs (by omega)) ?_
  rintro e w3 hp
  rcases ppost_cases hp with ⟨x, r4, v, hXx, rfl, ⟨cs, rfl, hcs⟩, hP4, hC6⟩ | ⟨le, ce, ke, hXx, hke, hle', rfl, hC6⟩
  rotate_left
  ·go_wp2
   exact ⟨rfl, by rw [HR2.out, hXx]; exact ⟨ke, hke, hle', rfl, hC5.trans hC6 (fun _ h _ => h)⟩⟩
  clear hp
  obtain ⟨kk, nn, A1, n1, c1, A2, n2, c2, A3, n3, c3, A4, n4, c4, A5, n5, c5, A6, n6, c6, A7, n7, c7, rfl⟩ := cmd_form hcs
  have HR4 : Hid (R = .ok x r4) := Lib.hid (by rw [HR2.out, hXx])
  have hZ4 := row_chg hZ3 hC6 (by omega)
  have hC7 := hC5.trans hC6 (fun _ h _ => h)
  have HCS := Lib.hid hcs
  have hcZ := row_cells hZ4
  have hfZ := row_free hZ4
  clear HR2 hXx hcs hZ3 hC5 hC6 hP3
  go_wp2
  have hC9 := chg9 w3 w.heap.size (.int .i64 kk) (.string nn) (.slice A1 n1 c1) (.slice A2 n2 c2) (.slice A3 n3 c3) (.slice A4 n4 c4) (.slice A5 n5 c5) (.slice A6 n6 c6) (.slice A7 n7 c7)
  refine bodyPost_ret (v := .agg #[.int .i64 kk, .string nn, .slice A1 n1 c1, .slice A2 n2 c2, .slice A3 n3 c3, .slice A4 n4 c4, .slice A5 n5 c5, .slice A6 n6 c6, .slice A7 n7 c7]) (by simp [results, Tryz.results87, go_sem, hcZ]) rfl ?_
  rw [HR4.out]
  refine ⟨_, rfl, ⟨[.int .i64 kk, .string nn, .slice A1 n1 c1, .slice A2 n2 c2, .slice A3 n3 c3, .slice A4 n4 c4, .slice A5 n5 c5, .slice A6 n6 c6, .slice A7 n7 c7], rfl, ?_⟩, hP4.chg hC9 (by omega), hC7.trans hC9 (fun k hk hl => by omega)⟩
  exact (HCS.out.stay hC9 (fun k hk e => by have hk' : (w1.alloc (.cells zCmd 49)).heap.size ≤ k := hk; omega)).mono (fun k hk _ => by have hk' : (w1.alloc (.cells zCmd 49)).heap.size ≤ k := hk; omega)
 | some c =>
  obtain ⟨cs, rfl, hcs, h8⟩ := ho
  have HR2 : Hid (R = (redirsF wd (r1.length + 1) [] r1).bind fun rs r2 => .ok (withRedirs c rs) r2) := Lib.hid (by rw [HR.out, hXo]; rfl)
  obtain ⟨kk, nn, A1, n1, c1, A2, n2, c2, A3, n3, c3, A4, n4, c4, A5, n5, c5, A6, n6, c6, rfl⟩ := cmd_form0 hcs h8
  have HCS := Lib.hid (hcs.bound)
  clear HR hXo hcs h8 hP0 hZ0 hC0 hC1
  go_wp2_with fail
  have hX1 := row_new w1 (.cells #[.int .i64 kk, .string nn, .slice A1 n1 c1, .slice A2 n2 c2, .slice A3 n3 c3, .slice A4 n4 c4, .slice A5 n5 c5, .slice A6 n6 c6, .slice none 0 0] 49)
  have hCa : Chg (fun _ => False) w1 (w1.alloc (.cells #[.int .i64 kk, .string nn, .slice A1 n1 c1, .slice A2 n2 c2, .slice A3 n3 c3, .slice A4 n4 c4, .slice A5 n5 c5, .slice A6 n6 c6, .slice none 0 0] 49)) := (Chg.refl _ w1).alloc _
  have hP3 := hP1.chg hCa (fun e => e)
  have hZ3 := row_chg hZ1 hCa (fun e => e)
  have hC5 := hC2.trans hCa (fun _ h _ => h.elim)
  have HO3 := Lib.hid ((HCS.out.stay hCa (fun _ _ e => e)).mono (S' := fun k => w.heap.size < k ∧ k < w1.heap.size) (fun k hk _ => by have h1 := hk.1; have h2 := hk.2; simp at h1; omega))
  clear hCa hP1 hZ1 hC2 HCS
  generalize w1.alloc (.cells #[.int .i64 kk, .string nn, .slice A1 n1 c1, .slice A2 n2 c2, .slice A3 n3 c3, .slice A4 n4 c4, .slice A5 n5 c5, .slice A6 n6 c6, .slice none 0 0] 49) = U at *
  generalize w1.heap.size = X at *
  refine Calls.mono (redir_calls wd (d) m hwd g s r1 _ hP3 hs (by omega)) ?_
  rintro e w2 hp
  have HR3 : Hid (R = ((redirP wd r1).bind fun o r' => rdRest wd r1.length [] o r').bind (fun rs r2 => .ok (withRedirs c rs) r2)) := Lib.hid (by rw [HR2.out, redirsF_eq])
  rcases ppost_cases hp with ⟨o, r2, v, hXo, rfl, ho, hP4, hC6⟩ | ⟨le, ce, ke, hXo, hke, hle', rfl, hC6⟩
  rotate_left
  ·go_wp2
   exact ⟨rfl, by rw [HR3.out, hXo]; exact ⟨ke, hke, hle', rfl, hC5.trans hC6 (fun _ h _ => h)⟩⟩
  clear hp
  obtain ⟨y0, y1, y2, y3, y4, rfl, hy⟩ := isRdr_form ho
  have HR4 : Hid (R = (rdRest wd r1.length [] o r2).bind (fun rs r2 => .ok (withRedirs c rs) r2)) := Lib.hid (by rw [HR3.out, hXo]; rfl)
  have hlt2 : o.isSome = true → r2.length < r1.length := by
   intro h
   obtain ⟨x, rfl⟩ := Option.isSome_iff_exists.1 h
   exact redir_lt hlt hXo
  have hle2 := redir_le hlt hXo
  have hX2 := row_chg hX1 hC6 (by omega)
  have hZ4 := row_chg hZ3 hC6 (by omega)
  have hC7 := hC5.trans hC6 (fun _ h _ => h)
  have HO4 := HO3.out.stay hC6 (fun k hk e => by omega)
  have hszU := hC6.size
  have hUX : X < U.heap.size := row_lt hX1
  have hsom : ∃ b, o.isSome = b := ⟨_, rfl⟩
  obtain ⟨ob, hob⟩ := hsom
  have hxlen := hP4.len
  clear HR3 HR2 hXo ho hX1 hZ3 hC5 hC6 HO3 hP3
  go_wp2
  have hY1 := row_new w2 (.cells #[.int .i64 y0, .string y1, .slice y2 y3 y4] 75)
  have hCa : Chg (fun _ => False) w2 (w2.alloc (.cells #[.int .i64 y0, .string y1, .slice y2 y3 y4] 75)) := (Chg.refl _ w2).alloc _
  have hX3 := row_chg hX2 hCa (fun e => e)
  have hZ5 := row_chg hZ4 hCa (fun e => e)
  have hP5 := hP4.chg hCa (fun e => e)
  have hC8 := hC7.trans hCa (fun _ h _ => h.elim)
  have HO5 := HO4.stay hCa (fun _ _ e => e)
  have hy2 : ∀ x, o = some x → Rep (w2.alloc (.cells #[.int .i64 y0, .string y1, .slice y2 y3 y4] 75)) (fun k => U.heap.size ≤ k ∧ k ≠ w2.heap.size) x.d [.int .i64 y0, .string y1, .slice y2 y3 y4] := fun x hx => ((hy x hx).bound.stay hCa (fun _ _ e => e)).mono (fun k hk _ => ⟨hk.1, by have := hk.2; omega⟩)
  have hszW : (w2.alloc (.cells #[.int .i64 y0, .string y1, .slice y2 y3 y4] 75)).heap.size = w2.heap.size + 1 := by simp
  have hXe2 : X ≠ w2.heap.size := by omega
  go_loopg [5, 6] (r2.length + 2) (fun k yv fv wr => RdRel wd (fun rs r2 => .ok (withRedirs c rs) r2) w g w.heap.size X s (d) R m c (.int .i64 kk) (.string nn) (.slice A1 n1 c1) (.slice A2 n2 c2) (.slice A3 n3 c3) (.slice A4 n4 c4) (.slice A5 n5 c5) (.slice A6 n6 c6) (.slice none 0 0) zCmd k yv fv wr)
  case atStart => exact ⟨[], o, r2, _, w2.heap.size, U.heap.size, _, _, _, _, _, none, 0, 0, fun _ => False, rfl, by rw [hob], rfl, HR4, hP5, fun h => ⟨hlt2 h, by have := hlt2 h; omega, by omega⟩, by omega, by omega, hX3, hY1, Row.none _ _ _ _ _, fun _ h => h.elim, by omega, hUX, Ne.symm hXe2, by omega, hy2, HO5, hC8, hZ5⟩
  case round =>
   clear HR4 hlt2 hle2 hX2 hZ4 hC7 HO4 hszU hUX hob hxlen hY1 hCa hX3 hZ5 hP5 hC8 HO5 hy2 hszW hXe2 hr1
   obtain ⟨rs, o, r3, f, Y, N, y0, y1, y2, y3, y4, A, cp, L, S, rfl, rfl, hL, HR, hP, hfo, hk1, hm1, hX1, hY1, hRow, hSN, hN, hXN, hYX, hZY, hy, HO, hC, hZ⟩ := hrel
   cases o with
   | none =>
    simp only [Option.isSome_none]
    clear hfo hy
    have HR2 : Hid (R = .ok (withRedirs c rs) r3) := Lib.hid HR.out
    have hcX := row_cells hX1
    have hcZ := row_cells hZ
    have hfZ := row_free hZ
    clear HR
    go_wp2
    have hC9 := chg9 wr w.heap.size (.int .i64 kk) (.string nn) (.slice A1 n1 c1) (.slice A2 n2 c2) (.slice A3 n3 c3) (.slice A4 n4 c4) (.slice A5 n5 c5) (.slice A6 n6 c6) (.slice A L cp)
    refine bodyPost_ret (v := .agg #[.int .i64 kk, .string nn, .slice A1 n1 c1, .slice A2 n2 c2, .slice A3 n3 c3, .slice A4 n4 c4, .slice A5 n5 c5, .slice A6 n6 c6, .slice A L cp]) (by simp [results, Tryz.results87, go_sem, hcZ]) rfl ?_
    rw [HR2.out]
    refine ⟨_, rfl, ⟨[.int .i64 kk, .string nn, .slice A1 n1 c1, .slice A2 n2 c2, .slice A3 n3 c3, .slice A4 n4 c4, .slice A5 n5 c5, .slice A6 n6 c6, .slice A L cp], rfl, ?_⟩, hP.chg hC9 (by omega), hC.trans hC9 (fun k hk hl => by omega)⟩
    refine cmd_redirs (Rep.mono (HO.stay hC9 (fun k hk e => by omega)) (fun k hk _ => by omega)) (Rep.mono (hRow.apart hC9 (fun k hk e => by have := (hRow.2 k hk).1; omega)).rep (fun k hk _ => by omega))
   | some x =>
    simp only [Option.isSome_some]
    obtain ⟨hf1, hL1, hk2⟩ := hfo rfl
    have hxr := Lib.hid ((hy x rfl).mono (S' := fun k => N ≤ k) (fun k hk _ => hk.1))
    have hcX := row_cells hX1
    have hfX := row_free hX1
    have hcY := row_cells hY1
    have hgY : Y ≠ g := by omega
    obtain ⟨fn, rfl⟩ : ∃ n, f = n + 1 := ⟨f - 1, by omega⟩
    have HR1 : Hid (R = ((redirP wd r3).bind fun o r' => rdRest wd fn (rs ++ [x]) o r').bind (fun rs r2 => .ok (withRedirs c rs) r2)) := Lib.hid (by rw [HR.out]; simp only [rdRest, redirsF_eq])
    clear hfo hy HR
    go_wp2_with (at_builtin; go_must (refine row_append X X S N rfl _ _ _ _ _ 3 48 rfl Tryz.underlying47 info_Redir rfl (by decide) (by decide) (.slice A L cp) (rs.map Rdr.d) x.d _ rfl (by simp [Act.eval]) hxr.out rfl hN hXN hXN hRow (fun k hk => (hSN k hk).1) (by rw [List.length_map]; omega) ?_))
    intro A3 cp3 w3 S3 hRow3 hSS hC3
    have e1 : L + 1 = (rs ++ [x]).length := by rw [List.length_append, hL]; rfl
    have e2 : rs.map Rdr.d ++ [x.d] = (rs ++ [x]).map Rdr.d := by simp
    rw [e1, e2] at hRow3
    rw [e1]
    generalize hL3 : (rs ++ [x]).length = L3 at hRow3 ⊢
    have hLk3 : L3 + r3.length ≤ 8193 := by omega
    have hX2 := row_chg hX1 hC3 (fun h => (hRow.2 X h).2.1 rfl)
    have hY2 := row_chg hY1 hC3 (fun h => (hSN Y h).2 rfl)
    have hZ2 := row_chg hZ hC3 (fun h => by have := (hRow.2 _ h).1; omega)
    have hP2 := hP.chg hC3 (fun h => by have := (hRow.2 _ h).1; omega)
    have hO2 := HO.stay hC3 (fun k hk h => by have := (hRow.2 _ h).1; omega)
    have hC4 := hC.trans hC3 (fun k hk hl => by have := (hRow.2 _ hk).1; omega)
    have hS3l := hRow3.lt
    have hcX := row_cells hX2
    have hfX := row_free hX2
    have hcY := row_cells hY2
    have hCX := setCell_chg w3 X 8 (.slice A3 L3 cp3)
    have hX3 := row_set hX2 8 (.slice A3 L3 cp3)
    have hZ3 := row_chg hZ2 hCX (by omega)
    have hP3 := hP2.chg hCX (by omega)
    have hO3 := hO2.stay hCX (fun k hk e => by omega)
    have hC5 := hC4.trans hCX (fun k hk hl => by omega)
    have hR3 := hRow3.apart hCX (fun k hk e => (hRow3.2 k hk).2.1 e)
    have hw3 : (w3.setCell ⟨X, 8, none⟩ (.slice A3 L3 cp3)).heap.size = w3.heap.size := by simp
    simp only [List.setIfInBounds_toArray, List.set_cons_zero, List.set_cons_succ] at hX3
    clear hX1 hY1 hRow hP HO hC hZ hC3 hP2 hO2 hC4 hZ2 hxr hRow3 hSS
    go_wp2_with fail
    have hCa : Chg (fun _ => False) (w3.setCell ⟨X, 8, none⟩ (.slice A3 L3 cp3)) ((w3.setCell ⟨X, 8, none⟩ (.slice A3 L3 cp3)).alloc (.cells #[.int .i64 y0, .string y1, .slice y2 y3 y4] 75)) := (Chg.refl _ _).alloc _
    have hY4 := row_new (w3.setCell ⟨X, 8, none⟩ (.slice A3 L3 cp3)) (.cells #[.int .i64 y0, .string y1, .slice y2 y3 y4] 75)
    rw [hw3] at hY4
    have hX4 := row_chg hX3 hCa (fun e => e)
    have hZ4 := row_chg hZ3 hCa (fun e => e)
    have hP4 := hP3.chg hCa (fun e => e)
    have hO4 := hO3.stay hCa (fun _ _ e => e)
    have hC6 := hC5.trans hCa (fun _ h _ => h.elim)
    have hR4 := hR3.apart hCa (fun _ _ e => e)
    have hszV : ((w3.setCell ⟨X, 8, none⟩ (.slice A3 L3 cp3)).alloc (.cells #[.int .i64 y0, .string y1, .slice y2 y3 y4] 75)).heap.size = w3.heap.size + 1 := by simp
    have hXw3 : X < w3.heap.size := row_lt hX2
    clear hX2 hY2 hX3 hZ3 hP3 hO3 hC5 hR3 hCX hCa hcX hfX hcY hw3
    generalize (w3.setCell ⟨X, 8, none⟩ (.slice A3 L3 cp3)).alloc (.cells #[.int .i64 y0, .string y1, .slice y2 y3 y4] 75) = V at *
    generalize w3.heap.size = Y2 at *
    refine Calls.mono (redir_calls wd (d) m hwd g s r3 _ hP4 hs (by omega)) ?_
    rintro e w5 hp
    rcases ppost_cases hp with ⟨o, r5, v, hXo, rfl, ho, hP5, hC7⟩ | ⟨le, ce, ke, hXo, hke, hle', rfl, hC7⟩
    rotate_left
    ·go_wp2
     exact ⟨rfl, by rw [HR1.out, hXo]; exact ⟨ke, hke, hle', rfl, hC6.trans hC7 (fun _ h _ => h)⟩⟩
    clear hp
    obtain ⟨z0, z1, z2, z3, z4, rfl, hz⟩ := isRdr_form ho
    have HR5 : Hid (R = (rdRest wd fn (rs ++ [x]) o r5).bind (fun rs r2 => .ok (withRedirs c rs) r2)) := Lib.hid (by rw [HR1.out, hXo]; rfl)
    have hlt5 : o.isSome = true → r5.length < r3.length := by
     intro h
     obtain ⟨x, rfl⟩ := Option.isSome_iff_exists.1 h
     exact redir_lt hlt hXo
    have hle5 := redir_le hlt hXo
    have hX5 := row_chg hX4 hC7 (by omega)
    have hY5 := row_chg hY4 hC7 (by omega)
    have hZ5 := row_chg hZ4 hC7 (by omega)
    have hO5 := hO4.stay hC7 (fun k hk e => by omega)
    have hC8 := hC6.trans hC7 (fun _ h _ => h)
    have hR5 := hR4.apart hC7 (fun k hk e => by have := (hR4.2 k hk).1; omega)
    have hszV5 := hC7.size
    have hsom : ∃ b, o.isSome = b := ⟨_, rfl⟩
    obtain ⟨ob, hob⟩ := hsom
    have hcY := row_cells hY5
    have hfY := row_free hY5
    clear HR1 hXo ho hX4 hY4 hZ4 hO4 hC6 hR4 hC7 hP4
    go_wp2
    have hCY : Chg (· = Y2) w5 (((w5.setCell ⟨Y2, 0, none⟩ (.int .i64 z0)).setCell ⟨Y2, 1, none⟩ (.string z1)).setCell ⟨Y2, 2, none⟩ (.slice z2 z3 z4)) := ((setCell_chg w5 Y2 0 _).setCell (fun _ => rfl) _).setCell (fun _ => rfl) _
    have hY6 := row_set (row_set (row_set hY5 0 (.int .i64 z0)) 1 (.string z1)) 2 (.slice z2 z3 z4)
    simp only [List.setIfInBounds_toArray, List.set_cons_zero, List.set_cons_succ] at hY6
    have hX6 := row_chg hX5 hCY (by omega)
    have hZ6 := row_chg hZ5 hCY (by omega)
    have hP6 := hP5.chg hCY (by omega)
    have hO6 := hO5.stay hCY (fun k hk e => by omega)
    have hC9 := hC8.trans hCY (fun k hk hl => by have := hC8.size; omega)
    have hR6 := hR5.apart hCY (fun k hk e => by have := hS3l k hk; omega)
    have hz6 : ∀ x, o = some x → Rep (((w5.setCell ⟨Y2, 0, none⟩ (.int .i64 z0)).setCell ⟨Y2, 1, none⟩ (.string z1)).setCell ⟨Y2, 2, none⟩ (.slice z2 z3 z4)) (fun k => V.heap.size ≤ k ∧ k ≠ Y2) x.d [.int .i64 z0, .string z1, .slice z2 z3 z4] := fun x hx => ((hz x hx).stay hCY (fun k hk e => by have hk' : V.heap.size ≤ k := hk; omega)).mono (fun k hk _ => ⟨hk, by have hk' : V.heap.size ≤ k := hk; omega⟩)
    have hsz6 : V.heap.size ≤ (((w5.setCell ⟨Y2, 0, none⟩ (.int .i64 z0)).setCell ⟨Y2, 1, none⟩ (.string z1)).setCell ⟨Y2, 2, none⟩ (.slice z2 z3 z4)).heap.size := by simpa using hszV5
    go_roundg (r3.length + 1)
    case measure => omega
    case rel => exact ⟨_, o, r5, fn, Y2, V.heap.size, _, _, _, _, _, _, _, _, _, rfl, by rw [hob], hL3, HR5, hP6, fun h => ⟨by have := hlt5 h; omega, by have := hlt5 h; omega, by have := hlt5 h; omega⟩, by omega, by omega, hX6, hY6, hR6, fun k hk => ⟨by have := hS3l k hk; omega, by have := hS3l k hk; omega⟩, hsz6, by omega, by omega, by omega, hz6, hO6, hC9, hZ6⟩
theorem fail_at (g : Nat) (s : ByteArray) (b : Bytes) (d d' : Int) (e : Int) (w w1 : World) (a a' : Nat) (hb : b = s.data.toList.drop a) (ha : a ≤ s.size) (hA : ParsAt w1 g s a' d') (hC : Chg (· = g) w w1) {α : Type} (val : α → Value → World → Prop) :
  Calls Tryz.prog 36 #[.pointer (some ⟨g, 0, none⟩), .int .i64 a, .int .i64 e] w1 (fun e' w' => (∃ c, e' = .panicked c) ∧ PPost w g s d (failS (α := α) b e) val e' w' ∧ w1 = w') := by
 subst hb
 have hl : (s.data.toList.drop a).length = s.size - a := drop_len _ _
 refine (failS_calls g s a' d' a e w1 hA ha).mono ?_
 rintro e' w' ⟨hp, rfl⟩
 unfold failS
 rw [hl]
 obtain ⟨h1, h2⟩ := fail_post (val := val) hC hp
 refine ⟨h1, ?_, rfl⟩
 unfold failP PPost at *
 by_cases hh : (s.size - a == 0 && e == 61) = true
 ·rw [if_pos hh] at h2 ⊢; exact h2
 ·rw [if_neg hh] at h2 ⊢; exact h2
set_option maxRecDepth 100000 in
set_option maxHeartbeats 4000000 in
theorem function_calls (wd : Bytes → Rs (List Part)) (comp : Bytes → Rs (Option Cmd)) (d : Nat) (hd : d ≤ 20) (m : Nat) (hwd : WdSaid wd (d + 1) m) (hlt : Lt wd)
  (hcomp : ∀ (g : Nat) (s : ByteArray) (r : Bytes) (w : World), ParsR w g s r ((d + 1 : Nat) : Int) → s.size ≤ 8192 → r.length ≤ m → Calls Tryz.prog 98 #[.pointer (some ⟨g, 0, none⟩)] w (PPost w g s ((d + 1 : Nat) : Int) (comp r) (isComp w)))
  (hle : ∀ r o r1, comp r = .ok o r1 → r1.length ≤ r.length) (g : Nat) (s : ByteArray) (r : Bytes) (name : Bytes) (w : World) (h : ParsR w g s r d) (hs : s.size ≤ 8192) (hm : r.length ≤ m) :
  Calls Tryz.prog 122 #[.pointer (some ⟨g, 0, none⟩), .string (bstr name)] w (PPost w g s d (functionP wd d comp name r) (isCmd w)) := by
 have hgl := h.lt
 have hrl := h.len
 generalize hR : functionP wd d comp name r = R
 rw [functionP] at hR
 have HR := Lib.hid hR.symm; clear hR
 generalize hnB : bstr name = nB
 have HNB := Lib.hid hnB; clear hnB
 go_enter Tryz.func122, Tryz.ntmps122
 have hC0 : Chg (· = g) w (w.alloc (.cells zCmd 49)) := (Chg.refl _ w).alloc _
 have hP0 := ParsR.chg (B := fun _ => False) h ((Chg.refl _ w).alloc (.cells zCmd 49)) (fun e => e)
 have hZ0 := row_new w (.cells zCmd 49)
 have hs00 : (w.alloc (.cells zCmd 49)).heap.size = w.heap.size + 1 := by simp
 go_wp2_with fail
 refine Calls.mono (want_calls g s r d [41] _ hP0 hs) ?_
 rintro e w1 hp
 rcases ppost_cases hp with ⟨u, r1, v, hXu, rfl, hu, hP1, hC1⟩ | ⟨le, ce, ke, hXu, hke, hle', rfl, hC1⟩
 rotate_left
 ·go_wp2
  exact ⟨rfl, by rw [HR.out, hXu]; exact ⟨ke, hke, hle', rfl, hC0.trans hC1 (fun _ h _ => h)⟩⟩
 clear hp
 have hu' : v = .tuple #[] := hu
 subst hu'
 have hr1 : r1.length ≤ r.length := by have := le_want _ _ (by simp) _ _ hXu; omega
 have hZ1 := row_chg hZ0 hC1 (by omega)
 have hC2 := hC0.trans hC1 (fun _ h _ => h)
 have hs0 : w.heap.size < w1.heap.size := by have := hC1.size; rw [hs00] at this; omega
 have HR2 : Hid (R = if d + 1 > 16 then failS (lines r1) 63 else (comp (lines r1)).bind fun o r2 => match o with
   | none => failS (lines r1) 61
   | some c => (redirsF wd (r2.length + 1) [] r2).bind fun rs r3 => .ok (.mk 9 name [] [] [] [.mk [.mk false [withRedirs c rs]] []] [] [] []) r3) := Lib.hid (by rw [HR.out, hXu]; rfl)
 have hll := lines_le r1
 clear HR hXu hu hP0 hZ0 hC0 hC1 hs00
 go_wp2_with fail
 refine Calls.mono (lines_calls g s r1 d w1 hP1 hs) ?_
 rintro e w2 ⟨rfl, hP2, hC3⟩
 have hZ2 := row_chg hZ1 hC3 (by omega)
 have hC4 := hC2.trans hC3 (fun _ h _ => h)
 have hs1 : w.heap.size < w2.heap.size := by have := hC3.size; omega
 generalize lines r1 = b at *
 obtain ⟨a, ha, hbe, hl, hA⟩ := hP2.pos
 obtain ⟨h0, h1, h2, f1, f2, _⟩ := ParsAt.cells hA
 have hA1 := hA.deep' ((d : Int) + 1)
 have r0 : IntKind.i64.wrap ((d : Int) + 1) = (d : Int) + 1 := IntWalk.i64_in _ (by omega)
 have hC5 := hC4.setCell (p := ⟨g, 2, none⟩) (fun _ => rfl) (.int .i64 ((d : Int) + 1))
 have HB := Lib.hid hbe
 have hP3 : ParsR (w2.setCell ⟨g, 2, none⟩ (.int .i64 ((d : Int) + 1))) g s b ((d + 1 : Nat) : Int) := ⟨a, ha, hbe, hA1⟩
 have hZ3 := row_far hZ2 (p := ⟨g, 2, none⟩) (by simp; omega) (.int .i64 ((d : Int) + 1))
 have hsz3 : (w2.setCell ⟨g, 2, none⟩ (.int .i64 ((d : Int) + 1))).heap.size = w2.heap.size := by simp
 clear hP1 hC2 hC3 hZ1 hP2 hbe hl
 by_cases h16 : d + 1 > 16
 ·have q1 : (16 : Int) < (d : Int) + 1 := by omega
  have HR3 : Hid (R = failS b 63) := Lib.hid (by rw [HR2.out, if_pos h16])
  clear HR2 h16
  go_wp2_with fail
  refine Calls.mono (fail_at g s b d _ 63 w _ a a HB.out ha hA1 hC5 (isCmd w)) ?_
  rintro e w4 ⟨⟨c4, rfl⟩, hpost, rfl⟩
  go_wp2
  rw [HR3.out]
  exact ⟨rfl, hpost⟩
 ·have q1 : decide ((16 : Int) < (d : Int) + 1) = false := by rw [decide_eq_false_iff_not]; omega
  have HR3 : Hid (R = (comp b).bind fun o r2 => match o with
   | none => failS b 61
   | some c => (redirsF wd (r2.length + 1) [] r2).bind fun rs r3 => .ok (.mk 9 name [] [] [] [.mk [.mk false [withRedirs c rs]] []] [] [] []) r3) := Lib.hid (by rw [HR2.out, if_neg h16])
  clear HR2 h16
  go_wp2_with fail
  refine Calls.mono (hcomp g s b _ hP3 hs (by omega)) ?_
  rintro e w3 hp
  rcases ppost_cases hp with ⟨o, r2, v, hXo, rfl, ho, hP4, hC6⟩ | ⟨le, ce, ke, hXo, hke, hle', rfl, hC6⟩
  rotate_left
  ·go_wp2
   exact ⟨rfl, by rw [HR3.out, hXo]; exact ⟨ke, hke, hle', rfl, hC5.trans hC6 (fun _ h _ => h)⟩⟩
  clear hp
  have hr2 := hle _ _ _ hXo
  have hZ4 := row_chg hZ3 hC6 (by omega)
  have hC7 := hC5.trans hC6 (fun _ h _ => h)
  have hs3 : w.heap.size < w3.heap.size := by have := hC6.size; omega
  cases o with
  | none =>
   have HR4 : Hid (R = failS b 61) := Lib.hid (by rw [HR3.out, hXo]; rfl)
   have hv : v = .tuple #[.agg zCmd, .bool false] := ho
   subst hv
   obtain ⟨a4, ha4, _, _, hA4⟩ := hP4.pos
   have hC8 := hC7.alloc (.cells zCmd 49)
   have hA5 := ParsAt.chg (B := fun _ => False) hA4 ((Chg.refl _ w3).alloc (.cells zCmd 49)) (fun e => e)
   clear HR3 hXo ho hP4 hC6 hZ4 q1 r0 h0 h1 h2 f1 f2 hA hA1 hC5
   go_wp2_with fail
   refine Calls.mono (fail_at g s b d _ 61 w _ a a4 HB.out ha hA5 hC8 (isCmd w)) ?_
   rintro e w4 ⟨⟨c4, rfl⟩, hpost, rfl⟩
   go_wp2
   rw [HR4.out]
   exact ⟨rfl, hpost⟩
  | some c =>
   obtain ⟨cs, rfl, hcs, h8⟩ := ho
   have HR2 : Hid (R = (redirsF wd (r2.length + 1) [] r2).bind fun rs r3 => .ok (.mk 9 name [] [] [] [.mk [.mk false [withRedirs c rs]] []] [] [] []) r3) := Lib.hid (by rw [HR3.out, hXo]; rfl)
   obtain ⟨kk, nn, A1, n1, c1, A2, n2, c2, A3, n3, c3, A4, n4, c4, A5, n5, c5, A6, n6, c6, rfl⟩ := cmd_form0 hcs h8
   have HCS := Lib.hid (hcs.bound)
   clear HR3 hXo hcs h8 hP3 hZ3 hC5 hC6 q1 r0 h0 h1 h2 f1 f2 hA hA1 hC4 hZ2
   go_wp2_with fail
   have hX1 := row_new w3 (.cells #[.int .i64 kk, .string nn, .slice A1 n1 c1, .slice A2 n2 c2, .slice A3 n3 c3, .slice A4 n4 c4, .slice A5 n5 c5, .slice A6 n6 c6, .slice none 0 0] 49)
   have hCa : Chg (fun _ => False) w3 (w3.alloc (.cells #[.int .i64 kk, .string nn, .slice A1 n1 c1, .slice A2 n2 c2, .slice A3 n3 c3, .slice A4 n4 c4, .slice A5 n5 c5, .slice A6 n6 c6, .slice none 0 0] 49)) := (Chg.refl _ w3).alloc _
   have hP3 := hP4.chg hCa (fun e => e)
   have hZ3 := row_chg hZ4 hCa (fun e => e)
   have hC5 := hC7.trans hCa (fun _ h _ => h.elim)
   have HO3 := Lib.hid ((HCS.out.stay hCa (fun _ _ e => e)).mono (S' := fun k => w.heap.size < k ∧ k < w3.heap.size) (fun k hk _ => by have h1 := hk.1; have h2 := hk.2; rw [hsz3] at h1; omega))
   clear hCa hP4 hZ4 hC7 HCS hs0
   have hs0 := hs3
   generalize w3.alloc (.cells #[.int .i64 kk, .string nn, .slice A1 n1 c1, .slice A2 n2 c2, .slice A3 n3 c3, .slice A4 n4 c4, .slice A5 n5 c5, .slice A6 n6 c6, .slice none 0 0] 49) = U at *
   generalize w3.heap.size = X at *
   have hr12 : r2.length ≤ r.length := by omega
   clear hr1 hr2
   have hr1 := hr12
   generalize r2 = r1 at *
   refine Calls.mono (redir_calls wd (d + 1) m hwd g s r1 _ hP3 hs (by omega)) ?_
   rintro e w2 hp
   have HR3 : Hid (R = ((redirP wd r1).bind fun o r' => rdRest wd r1.length [] o r').bind (fun rs r3 => .ok (.mk 9 name [] [] [] [.mk [.mk false [withRedirs c rs]] []] [] [] []) r3)) := Lib.hid (by rw [HR2.out, redirsF_eq])
   rcases ppost_cases hp with ⟨o, r2, v, hXo, rfl, ho, hP4, hC6⟩ | ⟨le, ce, ke, hXo, hke, hle', rfl, hC6⟩
   rotate_left
   ·go_wp2
    exact ⟨rfl, by rw [HR3.out, hXo]; exact ⟨ke, hke, hle', rfl, hC5.trans hC6 (fun _ h _ => h)⟩⟩
   clear hp
   obtain ⟨y0, y1, y2, y3, y4, rfl, hy⟩ := isRdr_form ho
   have HR4 : Hid (R = (rdRest wd r1.length [] o r2).bind (fun rs r3 => .ok (.mk 9 name [] [] [] [.mk [.mk false [withRedirs c rs]] []] [] [] []) r3)) := Lib.hid (by rw [HR3.out, hXo]; rfl)
   have hlt2 : o.isSome = true → r2.length < r1.length := by
    intro h
    obtain ⟨x, rfl⟩ := Option.isSome_iff_exists.1 h
    exact redir_lt hlt hXo
   have hle2 := redir_le hlt hXo
   have hX2 := row_chg hX1 hC6 (by omega)
   have hZ4 := row_chg hZ3 hC6 (by omega)
   have hC7 := hC5.trans hC6 (fun _ h _ => h)
   have HO4 := HO3.out.stay hC6 (fun k hk e => by omega)
   have hszU := hC6.size
   have hUX : X < U.heap.size := row_lt hX1
   have hsom : ∃ b, o.isSome = b := ⟨_, rfl⟩
   obtain ⟨ob, hob⟩ := hsom
   have hxlen := hP4.len
   clear HR3 HR2 hXo ho hX1 hZ3 hC5 hC6 HO3 hP3
   go_wp2
   have hY1 := row_new w2 (.cells #[.int .i64 y0, .string y1, .slice y2 y3 y4] 75)
   have hCa : Chg (fun _ => False) w2 (w2.alloc (.cells #[.int .i64 y0, .string y1, .slice y2 y3 y4] 75)) := (Chg.refl _ w2).alloc _
   have hX3 := row_chg hX2 hCa (fun e => e)
   have hZ5 := row_chg hZ4 hCa (fun e => e)
   have hP5 := hP4.chg hCa (fun e => e)
   have hC8 := hC7.trans hCa (fun _ h _ => h.elim)
   have HO5 := HO4.stay hCa (fun _ _ e => e)
   have hy2 : ∀ x, o = some x → Rep (w2.alloc (.cells #[.int .i64 y0, .string y1, .slice y2 y3 y4] 75)) (fun k => U.heap.size ≤ k ∧ k ≠ w2.heap.size) x.d [.int .i64 y0, .string y1, .slice y2 y3 y4] := fun x hx => ((hy x hx).bound.stay hCa (fun _ _ e => e)).mono (fun k hk _ => ⟨hk.1, by have := hk.2; omega⟩)
   have hszW : (w2.alloc (.cells #[.int .i64 y0, .string y1, .slice y2 y3 y4] 75)).heap.size = w2.heap.size + 1 := by simp
   have hXe2 : X ≠ w2.heap.size := by omega
   go_loopg [8, 9] (r2.length + 2) (fun k yv fv wr => RdRel wd (fun rs r3 => .ok (.mk 9 name [] [] [] [.mk [.mk false [withRedirs c rs]] []] [] [] []) r3) w g w.heap.size X s (d + 1) R m c (.int .i64 kk) (.string nn) (.slice A1 n1 c1) (.slice A2 n2 c2) (.slice A3 n3 c3) (.slice A4 n4 c4) (.slice A5 n5 c5) (.slice A6 n6 c6) (.slice none 0 0) zCmd k yv fv wr)
   case atStart => exact ⟨[], o, r2, _, w2.heap.size, U.heap.size, _, _, _, _, _, none, 0, 0, fun _ => False, rfl, by rw [hob], rfl, HR4, hP5, fun h => ⟨hlt2 h, by have := hlt2 h; omega, by omega⟩, by omega, by omega, hX3, hY1, Row.none _ _ _ _ _, fun _ h => h.elim, by omega, hUX, Ne.symm hXe2, by omega, hy2, HO5, hC8, hZ5⟩
   case round =>
    clear HR4 hlt2 hle2 hX2 hZ4 hC7 HO4 hszU hUX hob hxlen hY1 hCa hX3 hZ5 hP5 hC8 HO5 hy2 hszW hXe2 hr1
    obtain ⟨rs, o, r3, f, Y, N, y0, y1, y2, y3, y4, A, cp, L, S, rfl, rfl, hL, HR, hP, hfo, hk1, hm1, hX1, hY1, hRow, hSN, hN, hXN, hYX, hZY, hy, HO, hC, hZ⟩ := hrel
    cases o with
    | none =>
     simp only [Option.isSome_none]
     clear hfo hy
     have HR2 : Hid (R = .ok (.mk 9 name [] [] [] [.mk [.mk false [withRedirs c rs]] []] [] [] []) r3) := Lib.hid HR.out
     have hcX := row_cells hX1
     have hcZ := row_cells hZ
     have hfZ := row_free hZ
     obtain ⟨a9, ha9, hb9, _, hA9⟩ := hP.pos
     obtain ⟨h0, h1, h2, f1, f2, _⟩ := ParsAt.cells hA9
     have HB9 := Lib.hid hb9
     have r0 : IntKind.i64.wrap ((d : Int) + 1 - 1) = (d : Int) := by rw [show (d : Int) + 1 - 1 = d by omega]; exact IntWalk.i64_in _ (by omega)
     have hA10 := hA9.deep' (d : Int)
     have hRw := (Row.rep hRow).mono (S' := fun k => w.heap.size < k) (fun k hk _ => by omega)
     have HOw := HO.mono (S' := fun k => w.heap.size < k) (fun k hk _ => by omega)
     have HW := cmd_redirs HOw hRw
     have hg9 := setCell_chg wr g 2 (.int .i64 (d : Int))
     have HW2 := Lib.hid ((HW.stay hg9 (fun k hk e => by omega)).bound)
     have hZ9 := row_chg hZ hg9 (by omega)
     have hC9' := hC.trans hg9 (fun k e hl => e)
     have hX9 := row_chg hX1 hg9 (by omega)
     have hsz9 : (wr.setCell ⟨g, 2, none⟩ (.int .i64 (d : Int))).heap.size = wr.heap.size := by simp
     have hdd : ((d + 1 : Nat) : Int) = (d : Int) + 1 := rfl
     rw [hdd] at h2
     clear HR hb9 hP hA9 hX1 hRow hSN hN hXN hRw HOw HW HO hZ hC hg9
     have hcZ9 := row_cells hZ9
     have hfZ9 := row_free hZ9
     have hZl := row_lt hZ9
     rw [hsz9] at hZl
     have hZl1 : w.heap.size < wr.heap.size + 1 := by omega
     have hZl2 : w.heap.size < wr.heap.size + 1 + 1 := by omega
     clear hcZ hfZ
     go_wp2
     have hC9 := chg9 (wr.setCell ⟨g, 2, none⟩ (.int .i64 (d : Int))) w.heap.size (.int .i64 9) (.string nB) (.slice none 0 0) (.slice none 0 0) (.slice none 0 0) (.slice (some ⟨wr.heap.size + 1 + 1, 0, none⟩) 1 1) (.slice none 0 0) (.slice none 0 0) (.slice none 0 0)
     refine bodyPost_ret (v := .agg #[.int .i64 9, .string nB, .slice none 0 0, .slice none 0 0, .slice none 0 0, .slice (some ⟨wr.heap.size + 1 + 1, 0, none⟩) 1 1, .slice none 0 0, .slice none 0 0, .slice none 0 0]) (by simp [results, Tryz.results122, go_sem, hcZ9, hZl, hZl1, hZl2, World.cell?_alloc_some]) rfl ?_
     rw [HR2.out]
     have HV := HW2.out.stay hC9 (fun k hk e => by have := hk.1; omega)
     have hAV : ParsR _ g s r3 d := ParsR.chg (B := (· = w.heap.size)) ⟨a9, ha9, HB9.out, hA10⟩ hC9 (by omega)
     have hCV := hC9'.trans hC9 (fun k hk hl => by omega)
     rw [hsz9] at HV
     clear hcZ9 hfZ9 hZ9 hX9 hC9' HW2 hA10 hcX hY1 hdd r0 h0 h1 h2 f1 f2 HB9
     have hVs : ((((((((((wr.setCell ⟨g, 2, none⟩ (.int .i64 (d : Int))).setCell ⟨w.heap.size, 0, none⟩ (.int .i64 9)).setCell ⟨w.heap.size, 1, none⟩ (.string nB)).setCell ⟨w.heap.size, 2, none⟩ (.slice none 0 0)).setCell ⟨w.heap.size, 3, none⟩ (.slice none 0 0)).setCell ⟨w.heap.size, 4, none⟩ (.slice none 0 0)).setCell ⟨w.heap.size, 5, none⟩ (.slice (some ⟨wr.heap.size + 1 + 1, 0, none⟩) 1 1)).setCell ⟨w.heap.size, 6, none⟩ (.slice none 0 0)).setCell ⟨w.heap.size, 7, none⟩ (.slice none 0 0)).setCell ⟨w.heap.size, 8, none⟩ (.slice none 0 0)).heap.size = wr.heap.size := by simp
     generalize (((((((((wr.setCell ⟨g, 2, none⟩ (.int .i64 (d : Int))).setCell ⟨w.heap.size, 0, none⟩ (.int .i64 9)).setCell ⟨w.heap.size, 1, none⟩ (.string nB)).setCell ⟨w.heap.size, 2, none⟩ (.slice none 0 0)).setCell ⟨w.heap.size, 3, none⟩ (.slice none 0 0)).setCell ⟨w.heap.size, 4, none⟩ (.slice none 0 0)).setCell ⟨w.heap.size, 5, none⟩ (.slice (some ⟨wr.heap.size + 1 + 1, 0, none⟩) 1 1)).setCell ⟨w.heap.size, 6, none⟩ (.slice none 0 0)).setCell ⟨w.heap.size, 7, none⟩ (.slice none 0 0)).setCell ⟨w.heap.size, 8, none⟩ (.slice none 0 0) = V at *
     have O1 := own_one (e := 49) (sz := 9) HV rfl
     rw [hVs] at O1
     have P1 : Rep _ _ (Pip.d (.mk false [withRedirs c rs])) [.bool false, .slice (some ⟨wr.heap.size, 0, none⟩) 1 1] := pip_rep.2 ⟨_, rfl, O1.rep⟩
     have O2 := own_one (e := 42) (sz := 2) P1 rfl
     simp only [World.size_alloc, hVs] at O2
     have L1 : Rep _ _ (Lst.d (.mk [.mk false [withRedirs c rs]] [])) [.slice (some ⟨wr.heap.size + 1, 0, none⟩) 1 1, .slice none 0 0] := lst_rep.2 ⟨_, _, rfl, O2.rep, rep_nil _ _ _ _⟩
     have O3 := own_one (e := 39) (sz := 2) L1 rfl
     simp only [World.size_alloc, hVs] at O3
     have hCA : Chg (fun _ => False) V (((V.alloc (.cells #[.int .i64 kk, .string nn, .slice A1 n1 c1, .slice A2 n2 c2, .slice A3 n3 c3, .slice A4 n4 c4, .slice A5 n5 c5, .slice A6 n6 c6, .slice A L cp] 49)).alloc (.cells #[.bool false, .slice (some ⟨wr.heap.size, 0, none⟩) 1 1] 42)).alloc (.cells #[.slice (some ⟨wr.heap.size + 1, 0, none⟩) 1 1, .slice none 0 0] 39)) := (((Chg.refl _ V).alloc _).alloc _).alloc _
     refine ⟨_, rfl, ⟨[.int .i64 9, .string nB, .slice none 0 0, .slice none 0 0, .slice none 0 0, .slice (some ⟨wr.heap.size + 1 + 1, 0, none⟩) 1 1, .slice none 0 0, .slice none 0 0, .slice none 0 0], rfl, cmd_rep.2 ⟨_, _, _, _, _, _, _, by rw [HNB.out], rep_nil _ _ _ _, rep_nil _ _ _ _, rep_nil _ _ _ _, ?_, rep_nil _ _ _ _, rep_nil _ _ _ _, rep_nil _ _ _ _⟩⟩, hAV.chg hCA (fun e => e), hCV.trans hCA (fun _ h _ => h.elim)⟩
     exact O3.rep.mono (fun k hk _ => by omega)
    | some x =>
     simp only [Option.isSome_some]
     obtain ⟨hf1, hL1, hk2⟩ := hfo rfl
     have hxr := Lib.hid ((hy x rfl).mono (S' := fun k => N ≤ k) (fun k hk _ => hk.1))
     have hcX := row_cells hX1
     have hfX := row_free hX1
     have hcY := row_cells hY1
     have hgY : Y ≠ g := by omega
     obtain ⟨fn, rfl⟩ : ∃ n, f = n + 1 := ⟨f - 1, by omega⟩
     have HR1 : Hid (R = ((redirP wd r3).bind fun o r' => rdRest wd fn (rs ++ [x]) o r').bind (fun rs r3 => .ok (.mk 9 name [] [] [] [.mk [.mk false [withRedirs c rs]] []] [] [] []) r3)) := Lib.hid (by rw [HR.out]; simp only [rdRest, redirsF_eq])
     clear hfo hy HR
     go_wp2_with (at_builtin; go_must (refine row_append X X S N rfl _ _ _ _ _ 3 48 rfl Tryz.underlying47 info_Redir rfl (by decide) (by decide) (.slice A L cp) (rs.map Rdr.d) x.d _ rfl (by simp [Act.eval]) hxr.out rfl hN hXN hXN hRow (fun k hk => (hSN k hk).1) (by rw [List.length_map]; omega) ?_))
     intro A3 cp3 w3 S3 hRow3 hSS hC3
     have e1 : L + 1 = (rs ++ [x]).length := by rw [List.length_append, hL]; rfl
     have e2 : rs.map Rdr.d ++ [x.d] = (rs ++ [x]).map Rdr.d := by simp
     rw [e1, e2] at hRow3
     rw [e1]
     generalize hL3 : (rs ++ [x]).length = L3 at hRow3 ⊢
     have hLk3 : L3 + r3.length ≤ 8193 := by omega
     have hX2 := row_chg hX1 hC3 (fun h => (hRow.2 X h).2.1 rfl)
     have hY2 := row_chg hY1 hC3 (fun h => (hSN Y h).2 rfl)
     have hZ2 := row_chg hZ hC3 (fun h => by have := (hRow.2 _ h).1; omega)
     have hP2 := hP.chg hC3 (fun h => by have := (hRow.2 _ h).1; omega)
     have hO2 := HO.stay hC3 (fun k hk h => by have := (hRow.2 _ h).1; omega)
     have hC4 := hC.trans hC3 (fun k hk hl => by have := (hRow.2 _ hk).1; omega)
     have hS3l := hRow3.lt
     have hcX := row_cells hX2
     have hfX := row_free hX2
     have hcY := row_cells hY2
     have hCX := setCell_chg w3 X 8 (.slice A3 L3 cp3)
     have hX3 := row_set hX2 8 (.slice A3 L3 cp3)
     have hZ3 := row_chg hZ2 hCX (by omega)
     have hP3 := hP2.chg hCX (by omega)
     have hO3 := hO2.stay hCX (fun k hk e => by omega)
     have hC5 := hC4.trans hCX (fun k hk hl => by omega)
     have hR3 := hRow3.apart hCX (fun k hk e => (hRow3.2 k hk).2.1 e)
     have hw3 : (w3.setCell ⟨X, 8, none⟩ (.slice A3 L3 cp3)).heap.size = w3.heap.size := by simp
     simp only [List.setIfInBounds_toArray, List.set_cons_zero, List.set_cons_succ] at hX3
     clear hX1 hY1 hRow hP HO hC hZ hC3 hP2 hO2 hC4 hZ2 hxr hRow3 hSS
     go_wp2_with fail
     have hCa : Chg (fun _ => False) (w3.setCell ⟨X, 8, none⟩ (.slice A3 L3 cp3)) ((w3.setCell ⟨X, 8, none⟩ (.slice A3 L3 cp3)).alloc (.cells #[.int .i64 y0, .string y1, .slice y2 y3 y4] 75)) := (Chg.refl _ _).alloc _
     have hY4 := row_new (w3.setCell ⟨X, 8, none⟩ (.slice A3 L3 cp3)) (.cells #[.int .i64 y0, .string y1, .slice y2 y3 y4] 75)
     rw [hw3] at hY4
     have hX4 := row_chg hX3 hCa (fun e => e)
     have hZ4 := row_chg hZ3 hCa (fun e => e)
     have hP4 := hP3.chg hCa (fun e => e)
     have hO4 := hO3.stay hCa (fun _ _ e => e)
     have hC6 := hC5.trans hCa (fun _ h _ => h.elim)
     have hR4 := hR3.apart hCa (fun _ _ e => e)
     have hszV : ((w3.setCell ⟨X, 8, none⟩ (.slice A3 L3 cp3)).alloc (.cells #[.int .i64 y0, .string y1, .slice y2 y3 y4] 75)).heap.size = w3.heap.size + 1 := by simp
     have hXw3 : X < w3.heap.size := row_lt hX2
     clear hX2 hY2 hX3 hZ3 hP3 hO3 hC5 hR3 hCX hCa hcX hfX hcY hw3
     generalize (w3.setCell ⟨X, 8, none⟩ (.slice A3 L3 cp3)).alloc (.cells #[.int .i64 y0, .string y1, .slice y2 y3 y4] 75) = V at *
     generalize w3.heap.size = Y2 at *
     refine Calls.mono (redir_calls wd (d + 1) m hwd g s r3 _ hP4 hs (by omega)) ?_
     rintro e w5 hp
     rcases ppost_cases hp with ⟨o, r5, v, hXo, rfl, ho, hP5, hC7⟩ | ⟨le, ce, ke, hXo, hke, hle', rfl, hC7⟩
     rotate_left
     ·go_wp2
      exact ⟨rfl, by rw [HR1.out, hXo]; exact ⟨ke, hke, hle', rfl, hC6.trans hC7 (fun _ h _ => h)⟩⟩
     clear hp
     obtain ⟨z0, z1, z2, z3, z4, rfl, hz⟩ := isRdr_form ho
     have HR5 : Hid (R = (rdRest wd fn (rs ++ [x]) o r5).bind (fun rs r3 => .ok (.mk 9 name [] [] [] [.mk [.mk false [withRedirs c rs]] []] [] [] []) r3)) := Lib.hid (by rw [HR1.out, hXo]; rfl)
     have hlt5 : o.isSome = true → r5.length < r3.length := by
      intro h
      obtain ⟨x, rfl⟩ := Option.isSome_iff_exists.1 h
      exact redir_lt hlt hXo
     have hle5 := redir_le hlt hXo
     have hX5 := row_chg hX4 hC7 (by omega)
     have hY5 := row_chg hY4 hC7 (by omega)
     have hZ5 := row_chg hZ4 hC7 (by omega)
     have hO5 := hO4.stay hC7 (fun k hk e => by omega)
     have hC8 := hC6.trans hC7 (fun _ h _ => h)
     have hR5 := hR4.apart hC7 (fun k hk e => by have := (hR4.2 k hk).1; omega)
     have hszV5 := hC7.size
     have hsom : ∃ b, o.isSome = b := ⟨_, rfl⟩
     obtain ⟨ob, hob⟩ := hsom
     have hcY := row_cells hY5
     have hfY := row_free hY5
     clear HR1 hXo ho hX4 hY4 hZ4 hO4 hC6 hR4 hC7 hP4
     go_wp2
     have hCY : Chg (· = Y2) w5 (((w5.setCell ⟨Y2, 0, none⟩ (.int .i64 z0)).setCell ⟨Y2, 1, none⟩ (.string z1)).setCell ⟨Y2, 2, none⟩ (.slice z2 z3 z4)) := ((setCell_chg w5 Y2 0 _).setCell (fun _ => rfl) _).setCell (fun _ => rfl) _
     have hY6 := row_set (row_set (row_set hY5 0 (.int .i64 z0)) 1 (.string z1)) 2 (.slice z2 z3 z4)
     simp only [List.setIfInBounds_toArray, List.set_cons_zero, List.set_cons_succ] at hY6
     have hX6 := row_chg hX5 hCY (by omega)
     have hZ6 := row_chg hZ5 hCY (by omega)
     have hP6 := hP5.chg hCY (by omega)
     have hO6 := hO5.stay hCY (fun k hk e => by omega)
     have hC9 := hC8.trans hCY (fun k hk hl => by have := hC8.size; omega)
     have hR6 := hR5.apart hCY (fun k hk e => by have := hS3l k hk; omega)
     have hz6 : ∀ x, o = some x → Rep (((w5.setCell ⟨Y2, 0, none⟩ (.int .i64 z0)).setCell ⟨Y2, 1, none⟩ (.string z1)).setCell ⟨Y2, 2, none⟩ (.slice z2 z3 z4)) (fun k => V.heap.size ≤ k ∧ k ≠ Y2) x.d [.int .i64 z0, .string z1, .slice z2 z3 z4] := fun x hx => ((hz x hx).stay hCY (fun k hk e => by have hk' : V.heap.size ≤ k := hk; omega)).mono (fun k hk _ => ⟨hk, by have hk' : V.heap.size ≤ k := hk; omega⟩)
     have hsz6 : V.heap.size ≤ (((w5.setCell ⟨Y2, 0, none⟩ (.int .i64 z0)).setCell ⟨Y2, 1, none⟩ (.string z1)).setCell ⟨Y2, 2, none⟩ (.slice z2 z3 z4)).heap.size := by simpa using hszV5
     go_roundg (r3.length + 1)
     case measure => omega
     case rel => exact ⟨_, o, r5, fn, Y2, V.heap.size, _, _, _, _, _, _, _, _, _, rfl, by rw [hob], hL3, HR5, hP6, fun h => ⟨by have := hlt5 h; omega, by have := hlt5 h; omega, by have := hlt5 h; omega⟩, by omega, by omega, hX6, hY6, hR6, fun k hk => ⟨by have := hS3l k hk; omega, by have := hS3l k hk; omega⟩, hsz6, by omega, by omega, by omega, hz6, hO6, hC9, hZ6⟩
def elseP (ls : Bytes → Rs (List Lst)) (cond body : List Lst) (r3 : Bytes) : Rs Cmd :=
 if (peek (blanks r3)).1 == [101, 108, 115, 101] then
   (ls (peek (blanks r3)).2).bind fun other r4 => (mustP [102, 105] r4).bind fun _ r5 => .ok (.mk 4 [] [] [] cond body other [] []) r5
  else (mustP [102, 105] (blanks (blanks r3))).bind fun _ r5 => .ok (.mk 4 [] [] [] cond body [] [] []) r5
def elifP (br : Bytes → Rs Cmd) (d : Nat) (cond body : List Lst) (r3 : Bytes) : Rs Cmd :=
 if d + 1 > 16 then failS (peek r3).2 63 else (br (peek r3).2).bind fun c r4 => .ok (.mk 4 [] [] [] cond body [.mk [.mk false [c]] []] [] []) r4
theorem branchF_eq (lsd : Nat → Bytes → Rs (List Lst)) (n d : Nat) (r : Bytes) : branchF lsd (n + 1) d r = (lsd d r).bind fun cond r1 => (mustP [116, 104, 101, 110] r1).bind fun _ r2 => (lsd d r2).bind fun body r3 =>
  if (peek r3).1 == [101, 108, 105, 102] then elifP (branchF lsd n (d + 1)) d cond body r3 else elseP (lsd d) cond body r3 := by rw [branchF]; rfl
theorem lists_one {V : World} {S : Nat → Prop} {c : Cmd} {ys : List Value} {h : Nat} (hV : Rep V S c.d ys) (hl : ys.length = 9) (hs : V.heap.size = h) :
  Rep (((V.alloc (.cells ys.toArray 49)).alloc (.cells #[.bool false, .slice (some ⟨h, 0, none⟩) 1 1] 42)).alloc (.cells #[.slice (some ⟨h + 1, 0, none⟩) 1 1, .slice none 0 0] 39)) (fun k => S k ∨ h ≤ k) (.sl 39 2 (Lst.ds [.mk [.mk false [c]] []])) [.slice (some ⟨h + 1 + 1, 0, none⟩) 1 1] := by
 have O1 := own_one (e := 49) (sz := 9) hV hl
 rw [hs] at O1
 have P1 : Rep _ _ (Pip.d (.mk false [c])) [.bool false, .slice (some ⟨h, 0, none⟩) 1 1] := pip_rep.2 ⟨_, rfl, O1.rep⟩
 have O2 := own_one (e := 42) (sz := 2) P1 rfl
 simp only [World.size_alloc, hs] at O2
 have L1 : Rep _ _ (Lst.d (.mk [.mk false [c]] [])) [.slice (some ⟨h + 1, 0, none⟩) 1 1, .slice none 0 0] := lst_rep.2 ⟨_, _, rfl, O2.rep, rep_nil _ _ _ _⟩
 have O3 := own_one (e := 39) (sz := 2) L1 rfl
 simp only [World.size_alloc, hs] at O3
 refine O3.rep.mono (fun k hk _ => ?_)
 rcases hk with ((hk | hk) | hk) | hk
 ·exact .inl hk
 ·right; omega
 ·right; omega
 ·right; omega
set_option maxRecDepth 100000 in
set_option maxHeartbeats 4000000 in
theorem branch_step (lsd : Nat → Bytes → Rs (List Lst)) (n d : Nat) (hd : d ≤ 20) (m : Nat) (hls : LsSaid (lsd d) d m) (hll : Le (lsd d)) (g : Nat) (s : ByteArray) (r : Bytes) (w : World) (h : ParsR w g s r d) (hs : s.size ≤ 8192) (hm : r.length ≤ m)
  (IH : d + 1 ≤ 16 → ∀ (r' : Bytes) (w : World), ParsR w g s r' ((d + 1 : Nat) : Int) → r'.length < r.length → Calls Tryz.prog 117 #[.pointer (some ⟨g, 0, none⟩)] w (PPost w g s ((d + 1 : Nat) : Int) (branchF lsd n (d + 1) r') (isCmd0 w))) :
  Calls Tryz.prog 117 #[.pointer (some ⟨g, 0, none⟩)] w (PPost w g s d (branchF lsd (n + 1) d r) (isCmd0 w)) := by
 have hgl := h.lt
 have hrl := h.len
 generalize hR : branchF lsd (n + 1) d r = R
 rw [branchF_eq] at hR
 have HR := Lib.hid hR.symm; clear hR
 go_enter Tryz.func117, Tryz.ntmps117
 have hC0 : Chg (· = g) w (w.alloc (.cells zCmd 49)) := (Chg.refl _ w).alloc _
 have hP0 := ParsR.chg (B := fun _ => False) h ((Chg.refl _ w).alloc (.cells zCmd 49)) (fun e => e)
 have hZ0 := row_new w (.cells zCmd 49)
 have hs00 : (w.alloc (.cells zCmd 49)).heap.size = w.heap.size + 1 := by simp
 go_wp2_with fail
 refine Calls.mono (hls g s r _ hP0 hs hm) ?_
 rintro e w1 hp
 rcases ppost_cases hp with ⟨l, r1, v, hXl, rfl, ⟨A, c, rfl, hO⟩, hP1, hC1⟩ | ⟨le, ce, ke, hXl, hke, hle', rfl, hC1⟩
 rotate_left
 ·go_wp2
  exact ⟨rfl, by rw [HR.out, hXl]; exact ⟨ke, hke, hle', rfl, hC0.trans hC1 (fun _ h _ => h)⟩⟩
 clear hp
 have hr1 := hll _ _ _ hXl
 have HR1 : Hid (R = (mustP [116, 104, 101, 110] r1).bind fun _ r2 => (lsd d r2).bind fun body r3 => if (peek r3).1 == [101, 108, 105, 102] then elifP (branchF lsd n (d + 1)) d l body r3 else elseP (lsd d) l body r3) := Lib.hid (by rw [HR.out, hXl]; rfl)
 have hZ1 := row_chg hZ0 hC1 (by omega)
 have hC2 := hC0.trans hC1 (fun _ h _ => h)
 have hs0 : w.heap.size < w1.heap.size := by have := hC1.size; rw [hs00] at this; omega
 have HO0 := Lib.hid (hO.bound.mono (S' := fun k => w.heap.size < k ∧ k < w1.heap.size) (fun k hk _ => by have h1 := hk.1; have h2 := hk.2; rw [hs00] at h1; omega))
 clear HR hXl hO hP0 hZ0 hC0 hC1 hs00
 go_wp2_with fail
 have hX1 := row_new w1 (.cells #[.int .i64 4, .string ⟨#[]⟩, .slice none 0 0, .slice none 0 0, .slice A l.length c, .slice none 0 0, .slice none 0 0, .slice none 0 0, .slice none 0 0] 49)
 have hCa : Chg (fun _ => False) w1 (w1.alloc (.cells #[.int .i64 4, .string ⟨#[]⟩, .slice none 0 0, .slice none 0 0, .slice A l.length c, .slice none 0 0, .slice none 0 0, .slice none 0 0, .slice none 0 0] 49)) := (Chg.refl _ w1).alloc _
 have hP2 := hP1.chg hCa (fun e => e)
 have hZ2 := row_chg hZ1 hCa (fun e => e)
 have hC3 := hC2.trans hCa (fun _ h _ => h.elim)
 have HO1 := Lib.hid (HO0.out.stay hCa (fun _ _ e => e))
 clear hCa hP1 hZ1 hC2 HO0
 generalize w1.alloc (.cells #[.int .i64 4, .string ⟨#[]⟩, .slice none 0 0, .slice none 0 0, .slice A l.length c, .slice none 0 0, .slice none 0 0, .slice none 0 0, .slice none 0 0] 49) = U at *
 generalize w1.heap.size = X at *
 have hUX : X < U.heap.size := row_lt hX1
 refine Calls.mono (must_calls g s r1 d [116, 104, 101, 110] (by simp) _ hP2 hs) ?_
 rintro e w2 hp
 rcases ppost_cases hp with ⟨u, r2, v, hXu, rfl, hu, hP3, hC4⟩ | ⟨le, ce, ke, hXu, hke, hle', rfl, hC4⟩
 rotate_left
 ·go_wp2
  exact ⟨rfl, by rw [HR1.out, hXu]; exact ⟨ke, hke, hle', rfl, hC3.trans hC4 (fun _ h _ => h)⟩⟩
 clear hp
 have hu' : v = .tuple #[] := hu
 subst hu'
 have hr2 := le_must _ (by simp) _ _ _ hXu
 have HR2 : Hid (R = (lsd d r2).bind fun body r3 => if (peek r3).1 == [101, 108, 105, 102] then elifP (branchF lsd n (d + 1)) d l body r3 else elseP (lsd d) l body r3) := Lib.hid (by rw [HR1.out, hXu]; rfl)
 have hX2 := row_chg hX1 hC4 (by omega)
 have hZ3 := row_chg hZ2 hC4 (by omega)
 have hC5 := hC3.trans hC4 (fun _ h _ => h)
 have HO2 := Lib.hid (HO1.out.stay hC4 (fun k hk e => by have := hk.1; omega))
 have hUX2 : X < w2.heap.size := row_lt hX2
 clear HR1 hXu hu hX1 hZ2 hC3 hC4 HO1 hP2
 go_wp2_with fail
 refine Calls.mono (hls g s r2 _ hP3 hs (by omega)) ?_
 rintro e w3 hp
 rcases ppost_cases hp with ⟨l2, r3, v, hXl, rfl, ⟨A2, c2, rfl, hO⟩, hP4, hC6⟩ | ⟨le, ce, ke, hXl, hke, hle', rfl, hC6⟩
 rotate_left
 ·go_wp2
  exact ⟨rfl, by rw [HR2.out, hXl]; exact ⟨ke, hke, hle', rfl, hC5.trans hC6 (fun _ h _ => h)⟩⟩
 clear hp
 have hr3 := hll _ _ _ hXl
 have HR3 : Hid (R = if (peek r3).1 == [101, 108, 105, 102] then elifP (branchF lsd n (d + 1)) d l l2 r3 else elseP (lsd d) l l2 r3) := Lib.hid (by rw [HR2.out, hXl]; rfl)
 have hX3 := row_chg hX2 hC6 (by omega)
 have hZ4 := row_chg hZ3 hC6 (by omega)
 have hC7 := hC5.trans hC6 (fun _ h _ => h)
 have HO3 := Lib.hid (HO2.out.stay hC6 (fun k hk e => by have := hk.1; omega))
 have HO4 := Lib.hid (hO.bound.mono (S' := fun k => X < k ∧ k < w3.heap.size) (fun k hk _ => by have h1 := hk.1; have h2 := hk.2; omega))
 have hcX := row_cells hX3
 have hfX := row_free hX3
 have hCX := setCell_chg w3 X 5 (.slice A2 l2.length c2)
 have hX4 := row_set hX3 5 (.slice A2 l2.length c2)
 have hZ5 := row_chg hZ4 hCX (by omega)
 have hP5 := hP4.chg hCX (by omega)
 have hC8 := hC7.trans hCX (fun k hk hl => by omega)
 have HO5 := Lib.hid (HO3.out.stay hCX (fun k hk e => by have := hk.2; omega))
 have HO6 := Lib.hid (HO4.out.stay hCX (fun k hk e => by have := hk.1; omega))
 have hsz3 : (w3.setCell ⟨X, 5, none⟩ (.slice A2 l2.length c2)).heap.size = w3.heap.size := by simp
 simp only [List.setIfInBounds_toArray, List.set_cons_zero, List.set_cons_succ] at hX4
 clear HR2 hXl hO hX2 hZ3 hC5 hC6 HO2 hP3 hZ4 hP4 hC7 HO3 HO4 hX3
 go_wp2_with fail
 clear hcX hfX hCX
 rw [← hsz3] at HO6
 clear hsz3
 generalize w3.setCell ⟨X, 5, none⟩ (.slice A2 l2.length c2) = U3 at *
 refine Calls.mono (key_calls g s r3 d [101, 108, 105, 102] (by simp) _ hP5 hs) ?_
 rintro e w4 ⟨rfl, hP6, hC9⟩
 have hX5 := row_chg hX4 hC9 (by omega)
 have hZ6 := row_chg hZ5 hC9 (by omega)
 have hC10 := hC8.trans hC9 (fun _ h _ => h)
 have HO7 := Lib.hid (HO5.out.stay hC9 (fun k hk e => by have := hk.1; omega))
 have HO8 := Lib.hid (HO6.out.stay hC9 (fun k hk e => by have := hk.1; omega))
 clear hX4 hZ5 hC8 hC9 HO5 HO6 hP5
 cases q1 : (peek r3).1 == [101, 108, 105, 102]
 case true =>
  have hpl := peek_lt2 (by simp) q1
  rw [q1] at hP6 HR3
  simp only [if_true] at hP6 HR3
  obtain ⟨a, ha, hbe, hl, hA⟩ := hP6.pos
  obtain ⟨h0, h1, h2, f1, f2, _⟩ := ParsAt.cells hA
  have hA1 := hA.deep' ((d : Int) + 1)
  have r0 : IntKind.i64.wrap ((d : Int) + 1) = (d : Int) + 1 := IntWalk.i64_in _ (by omega)
  have hC11 := hC10.setCell (p := ⟨g, 2, none⟩) (fun _ => rfl) (.int .i64 ((d : Int) + 1))
  have HB := Lib.hid hbe
  have hP7 : ParsR (w4.setCell ⟨g, 2, none⟩ (.int .i64 ((d : Int) + 1))) g s (peek r3).2 ((d + 1 : Nat) : Int) := ⟨a, ha, hbe, hA1⟩
  have hZ7 := row_far hZ6 (p := ⟨g, 2, none⟩) (by simp; omega) (.int .i64 ((d : Int) + 1))
  have hX6 := row_far hX5 (p := ⟨g, 2, none⟩) (by simp; omega) (.int .i64 ((d : Int) + 1))
  have hgg := setCell_chg w4 g 2 (.int .i64 ((d : Int) + 1))
  have HO9 := Lib.hid (HO7.out.stay hgg (fun k hk e => by have := hk.1; omega))
  have HO10 := Lib.hid (HO8.out.bound.stay hgg (fun k hk e => by have := hk.1.1; omega))
  clear hbe hl hgg hP6
  rw [elifP] at HR3
  by_cases h16 : d + 1 > 16
  ·have q2 : (16 : Int) < (d : Int) + 1 := by omega
   have HR4 : Hid (R = failS (peek r3).2 63) := Lib.hid (by rw [HR3.out, if_pos h16])
   clear HR3 h16
   go_wp2_with fail
   refine Calls.mono (fail_at g s _ d _ 63 w _ a a HB.out ha hA1 hC11 (isCmd0 w)) ?_
   rintro e w5 ⟨⟨c4, rfl⟩, hpost, rfl⟩
   go_wp2
   rw [HR4.out]
   exact ⟨rfl, hpost⟩
  ·have q2 : decide ((16 : Int) < (d : Int) + 1) = false := by rw [decide_eq_false_iff_not]; omega
   have HR4 : Hid (R = (branchF lsd n (d + 1) (peek r3).2).bind fun c r4 => .ok (.mk 4 [] [] [] l l2 [.mk [.mk false [c]] []] [] []) r4) := Lib.hid (by rw [HR3.out, if_neg h16])
   clear HR3
   go_wp2_with fail
   refine Calls.mono (IH (by omega) _ _ hP7 (by omega)) ?_
   rintro e w5 hp
   rcases ppost_cases hp with ⟨x, r4, v, hXx, rfl, ⟨cs, rfl, hcs, h8⟩, hP8, hC12⟩ | ⟨le, ce, ke, hXx, hke, hle', rfl, hC12⟩
   rotate_left
   ·go_wp2
    exact ⟨rfl, by rw [HR4.out, hXx]; exact ⟨ke, hke, hle', rfl, hC11.trans hC12 (fun _ h _ => h)⟩⟩
   clear hp
   obtain ⟨kk, nn, B1, n1, b1, B2, n2, b2, B3, n3, b3, B4, n4, b4, B5, n5, b5, B6, n6, b6, rfl⟩ := cmd_form0 hcs h8
   have HRZ : Hid (R = .ok (.mk 4 [] [] [] l l2 [.mk [.mk false [x]] []] [] []) r4) := Lib.hid (by rw [HR4.out, hXx]; rfl)
   have hX7 := row_chg hX6 hC12 (by omega)
   have hZ8 := row_chg hZ7 hC12 (by omega)
   have hC13 := hC11.trans hC12 (fun _ h _ => h)
   have HO11 := Lib.hid (HO9.out.stay hC12 (fun k hk e => by have := hk.1; omega))
   have HO12 := Lib.hid (HO10.out.stay hC12 (fun k hk e => by have := hk.1.1; omega))
   have hsz4 : (w4.setCell ⟨g, 2, none⟩ (.int .i64 ((d : Int) + 1))).heap.size = w4.heap.size := by simp
   have hXl4 : X < w4.heap.size := row_lt hX5
   have hw45 : w4.heap.size ≤ w5.heap.size := by have := hC12.size; rw [hsz4] at this; exact this
   have HCS := Lib.hid (hcs.bound.mono (S' := fun k => X < k ∧ k < w5.heap.size) (fun k hk _ => by have h1 := hk.1; have h2 := hk.2; rw [hsz4] at h1; omega))
   obtain ⟨a9, ha9, hb9, _, hA9⟩ := hP8.pos
   obtain ⟨h0, h1, h2, f1, f2, _⟩ := ParsAt.cells hA9
   have HB9 := Lib.hid hb9
   have r1 : IntKind.i64.wrap ((d : Int) + 1 - 1) = (d : Int) := by rw [show (d : Int) + 1 - 1 = d by omega]; exact IntWalk.i64_in _ (by omega)
   have hA10 := hA9.deep' (d : Int)
   have hdd : ((d + 1 : Nat) : Int) = (d : Int) + 1 := rfl
   rw [hdd] at h2
   have hcX := row_cells hX7
   have hfX := row_free hX7
   have hcZ := row_cells hZ8
   have hfZ := row_free hZ8
   have hXl : X < w5.heap.size := by omega
   have hXl1 : X < w5.heap.size + 1 := by omega
   have hXl2 : X < w5.heap.size + 1 + 1 := by omega
   have hgl0 : g < w5.heap.size := by omega
   have hgl1 : g < w5.heap.size + 1 := by omega
   have hgl2 : g < w5.heap.size + 1 + 1 := by omega
   have hZl0 : w.heap.size < w5.heap.size := by omega
   have hZl1 : w.heap.size < w5.heap.size + 1 := by omega
   have hZl2 : w.heap.size < w5.heap.size + 1 + 1 := by omega
   clear HR4 hXx hcs h8 hX6 hZ7 hC11 hC12 HO9 HO10 hP7 hP8 hb9 hA hA1 hX5 hZ6 hC10 HO7 HO8 h16 q2 r0
   go_wp2
   refine bodyPost_ret (v := .agg #[.int .i64 4, .string ⟨#[]⟩, .slice none 0 0, .slice none 0 0, .slice A l.length c, .slice A2 l2.length c2, .slice (some ⟨w5.heap.size + 1 + 1, 0, none⟩) 1 1, .slice none 0 0, .slice none 0 0]) (by simp [results, Tryz.results117, go_sem, hcZ, hZl0, hZl1, hZl2, World.cell?_alloc_some]) rfl ?_
   rw [HRZ.out]
   obtain ⟨v6, hv6⟩ : ∃ v6 : Value, v6 = .slice (some ⟨w5.heap.size + 1 + 1, 0, none⟩) 1 1 := ⟨_, rfl⟩
   rw [← hv6]
   have hCX6 := setCell_chg w5 X 6 v6
   have hCg := setCell_chg (w5.setCell ⟨X, 6, none⟩ v6) g 2 (.int .i64 (d : Int))
   have hC9 := chg9 ((w5.setCell ⟨X, 6, none⟩ v6).setCell ⟨g, 2, none⟩ (.int .i64 (d : Int))) w.heap.size (.int .i64 4) (.string ⟨#[]⟩) (.slice none 0 0) (.slice none 0 0) (.slice A l.length c) (.slice A2 l2.length c2) v6 (.slice none 0 0) (.slice none 0 0)
   have hVs : (((((((((((w5.setCell ⟨X, 6, none⟩ v6).setCell ⟨g, 2, none⟩ (.int .i64 (d : Int))).setCell ⟨w.heap.size, 0, none⟩ (.int .i64 4)).setCell ⟨w.heap.size, 1, none⟩ (.string ⟨#[]⟩)).setCell ⟨w.heap.size, 2, none⟩ (.slice none 0 0)).setCell ⟨w.heap.size, 3, none⟩ (.slice none 0 0)).setCell ⟨w.heap.size, 4, none⟩ (.slice A l.length c)).setCell ⟨w.heap.size, 5, none⟩ (.slice A2 l2.length c2)).setCell ⟨w.heap.size, 6, none⟩ v6).setCell ⟨w.heap.size, 7, none⟩ (.slice none 0 0)).setCell ⟨w.heap.size, 8, none⟩ (.slice none 0 0)).heap.size = w5.heap.size := by simp
   have HV := ((HCS.out.stay hCX6 (fun k hk e => by have := hk.1; omega)).stay hCg (fun k hk e => by have := hk.1; omega)).stay hC9 (fun k hk e => by have := hk.1; omega)
   have HV1 := ((HO11.out.stay hCX6 (fun k hk e => by have := hk.2; omega)).stay hCg (fun k hk e => by have := hk.1; omega)).stay hC9 (fun k hk e => by have := hk.1; omega)
   have HV2 := ((HO12.out.stay hCX6 (fun k hk e => by have := hk.1.1; omega)).stay hCg (fun k hk e => by have := hk.1.1; omega)).stay hC9 (fun k hk e => by have := hk.1.1; omega)
   have hAX : ParsAt (w5.setCell ⟨X, 6, none⟩ v6) g s a9 ((d + 1 : Nat) : Int) := hA9.chg hCX6 (by omega)
   have hAV : ParsR _ g s r4 d := ParsR.chg (B := (· = w.heap.size)) ⟨a9, ha9, HB9.out, hAX.deep' (d : Int)⟩ hC9 (by omega)
   have hCV := (((hC13.trans hCX6 (fun k hk hl => by omega)).trans hCg (fun k hk hl => hk)).trans hC9 (fun k hk hl => by omega))
   generalize ((((((((((w5.setCell ⟨X, 6, none⟩ v6).setCell ⟨g, 2, none⟩ (.int .i64 (d : Int))).setCell ⟨w.heap.size, 0, none⟩ (.int .i64 4)).setCell ⟨w.heap.size, 1, none⟩ (.string ⟨#[]⟩)).setCell ⟨w.heap.size, 2, none⟩ (.slice none 0 0)).setCell ⟨w.heap.size, 3, none⟩ (.slice none 0 0)).setCell ⟨w.heap.size, 4, none⟩ (.slice A l.length c)).setCell ⟨w.heap.size, 5, none⟩ (.slice A2 l2.length c2)).setCell ⟨w.heap.size, 6, none⟩ v6).setCell ⟨w.heap.size, 7, none⟩ (.slice none 0 0)).setCell ⟨w.heap.size, 8, none⟩ (.slice none 0 0) = V at *
   have hCA : Chg (fun _ => False) V (((V.alloc (.cells #[.int .i64 kk, .string nn, .slice B1 n1 b1, .slice B2 n2 b2, .slice B3 n3 b3, .slice B4 n4 b4, .slice B5 n5 b5, .slice B6 n6 b6, .slice none 0 0] 49)).alloc (.cells #[.bool false, .slice (some ⟨w5.heap.size, 0, none⟩) 1 1] 42)).alloc (.cells #[.slice (some ⟨w5.heap.size + 1, 0, none⟩) 1 1, .slice none 0 0] 39)) := (((Chg.refl _ V).alloc _).alloc _).alloc _
   refine ⟨_, rfl, ⟨[.int .i64 4, .string ⟨#[]⟩, .slice none 0 0, .slice none 0 0, .slice A l.length c, .slice A2 l2.length c2, v6, .slice none 0 0, .slice none 0 0], rfl, cmd_rep.2 ⟨_, _, _, _, _, _, _, rfl, rep_nil _ _ _ _, rep_nil _ _ _ _, ?_, ?_, ?_, rep_nil _ _ _ _, rep_nil _ _ _ _⟩, rfl⟩, hAV.chg hCA (fun e => e), hCV.trans hCA (fun _ h _ => h.elim)⟩
   ·exact (HV1.stay hCA (fun _ _ e => e)).mono (fun k hk _ => by have := hk.1; omega)
   ·exact (HV2.stay hCA (fun _ _ e => e)).mono (fun k hk _ => by have := hk.1.1; omega)
   ·rw [hv6]
    exact (lists_one HV rfl hVs).mono (fun k hk _ => by rcases hk with hk | hk; have := hk.1; omega; omega)
 case false =>
  rw [q1] at hP6 HR3
  simp only [Bool.false_eq_true, if_false] at hP6 HR3
  rw [elseP] at HR3
  have hb3 := blanks_le r3
  have hb4 := blanks_le (blanks r3)
  go_wp2_with fail
  refine Calls.mono (key_calls g s (blanks r3) d [101, 108, 115, 101] (by simp) _ hP6 hs) ?_
  rintro e w5 ⟨rfl, hP7, hC11⟩
  have hX6 := row_chg hX5 hC11 (by omega)
  have hZ7 := row_chg hZ6 hC11 (by omega)
  have hC12 := hC10.trans hC11 (fun _ h _ => h)
  have HO9 := Lib.hid (HO7.out.stay hC11 (fun k hk e => by have := hk.1; omega))
  have HO10 := Lib.hid (HO8.out.stay hC11 (fun k hk e => by have := hk.1; omega))
  clear hX5 hZ6 hC10 hC11 HO7 HO8 hP6
  cases q2 : (peek (blanks r3)).1 == [101, 108, 115, 101]
  case true =>
   have hpl := peek_lt2 (by simp) q2
   rw [q2] at hP7 HR3
   simp only [if_true] at hP7 HR3
   go_wp2_with fail
   refine Calls.mono (hls g s _ _ hP7 hs (by omega)) ?_
   rintro e w6 hp
   rcases ppost_cases hp with ⟨l3, r4, v, hXl, rfl, ⟨A3, c3, rfl, hO⟩, hP8, hC13⟩ | ⟨le, ce, ke, hXl, hke, hle', rfl, hC13⟩
   rotate_left
   ·go_wp2
    exact ⟨rfl, by rw [HR3.out, hXl]; exact ⟨ke, hke, hle', rfl, hC12.trans hC13 (fun _ h _ => h)⟩⟩
   clear hp
   have HR4 : Hid (R = (mustP [102, 105] r4).bind fun _ r5 => .ok (.mk 4 [] [] [] l l2 l3 [] []) r5) := Lib.hid (by rw [HR3.out, hXl]; rfl)
   have hX7 := row_chg hX6 hC13 (by omega)
   have hZ8 := row_chg hZ7 hC13 (by omega)
   have hC14 := hC12.trans hC13 (fun _ h _ => h)
   have HO11 := HO9.out.stay hC13 (fun k hk e => by have := hk.1; omega)
   have HO12 := HO10.out.stay hC13 (fun k hk e => by have := hk.1; omega)
   have hX6l : X < w5.heap.size := row_lt hX6
   have hcX := row_cells hX7
   have hfX := row_free hX7
   have hCX := setCell_chg w6 X 6 (.slice A3 l3.length c3)
   have hX8 := row_set hX7 6 (.slice A3 l3.length c3)
   have hZ9 := row_chg hZ8 hCX (by omega)
   have hP9 := hP8.chg hCX (by omega)
   have hC15 := hC14.trans hCX (fun k hk hl => by omega)
   have HO13 := Lib.hid (HO11.stay hCX (fun k hk e => by have := hk.2; omega))
   have HO14 := Lib.hid (HO12.stay hCX (fun k hk e => by have := hk.1; omega))
   have HO15 := Lib.hid ((hO.stay hCX (fun k hk e => by omega)).mono (S' := fun k => X < k) (fun k hk _ => by omega))
   simp only [List.setIfInBounds_toArray, List.set_cons_zero, List.set_cons_succ] at hX8
   clear HR3 hXl hO hX6 hZ7 hC12 hC13 HO9 HO10 hP7 hZ8 hP8 hC14 HO11 HO12 hX7
   go_wp2_with fail
   clear hcX hfX hCX
   generalize w6.setCell ⟨X, 6, none⟩ (.slice A3 l3.length c3) = U6 at *
   refine Calls.mono (must_calls g s r4 d [102, 105] (by simp) _ hP9 hs) ?_
   rintro e w7 hp
   rcases ppost_cases hp with ⟨u, r5, v, hXu, rfl, hu, hP, hC16⟩ | ⟨le, ce, ke, hXu, hke, hle', rfl, hC16⟩
   rotate_left
   ·go_wp2
    exact ⟨rfl, by rw [HR4.out, hXu]; exact ⟨ke, hke, hle', rfl, hC15.trans hC16 (fun _ h _ => h)⟩⟩
   clear hp
   have hu' : v = .tuple #[] := hu
   subst hu'
   have HRZ : Hid (R = .ok (.mk 4 [] [] [] l l2 l3 [] []) r5) := Lib.hid (by rw [HR4.out, hXu]; rfl)
   have hX := row_chg hX8 hC16 (by omega)
   have hZ := row_chg hZ9 hC16 (by omega)
   have hC := hC15.trans hC16 (fun _ h _ => h)
   have HO1 := Lib.hid (HO13.out.stay hC16 (fun k hk e => by have := hk.1; omega))
   have HO2 := Lib.hid (HO14.out.stay hC16 (fun k hk e => by have := hk.1; omega))
   have HO3 := Lib.hid (HO15.out.stay hC16 (fun k hk e => by omega))
   clear HR4 hXu hu hX8 hZ9 hC15 hC16 HO13 HO14 HO15 hP9
   have hcX := row_cells hX
   have hcZ := row_cells hZ
   have hfZ := row_free hZ
   go_wp2
   have hC9 := chg9 w7 w.heap.size (.int .i64 4) (.string ⟨#[]⟩) (.slice none 0 0) (.slice none 0 0) (.slice A l.length c) (.slice A2 l2.length c2) (.slice A3 l3.length c3) (.slice none 0 0) (.slice none 0 0)
   refine bodyPost_ret (v := .agg #[.int .i64 4, .string ⟨#[]⟩, .slice none 0 0, .slice none 0 0, .slice A l.length c, .slice A2 l2.length c2, (.slice A3 l3.length c3), .slice none 0 0, .slice none 0 0]) (by simp [results, Tryz.results117, go_sem, hcZ]) rfl ?_
   rw [HRZ.out]
   refine ⟨_, rfl, ⟨[.int .i64 4, .string ⟨#[]⟩, .slice none 0 0, .slice none 0 0, .slice A l.length c, .slice A2 l2.length c2, (.slice A3 l3.length c3), .slice none 0 0, .slice none 0 0], rfl, cmd_rep.2 ⟨_, _, _, _, _, _, _, rfl, rep_nil _ _ _ _, rep_nil _ _ _ _, ?_, ?_, ?_, rep_nil _ _ _ _, rep_nil _ _ _ _⟩, rfl⟩, hP.chg hC9 (by omega), hC.trans hC9 (fun k hk hl => by omega)⟩
   ·exact (HO1.out.stay hC9 (fun k hk e => by have := hk.1; omega)).mono (fun k hk _ => by have := hk.1; omega)
   ·exact (HO2.out.stay hC9 (fun k hk e => by have := hk.1; omega)).mono (fun k hk _ => by have := hk.1; omega)
   ·exact (HO3.out.stay hC9 (fun k hk e => by omega)).mono (fun k hk _ => by omega)
  case false =>
   rw [q2] at hP7 HR3
   simp only [Bool.false_eq_true, if_false] at hP7 HR3
   go_wp2_with fail
   refine Calls.mono (must_calls g s _ d [102, 105] (by simp) _ hP7 hs) ?_
   rintro e w7 hp
   rcases ppost_cases hp with ⟨u, r5, v, hXu, rfl, hu, hP, hC16⟩ | ⟨le, ce, ke, hXu, hke, hle', rfl, hC16⟩
   rotate_left
   ·go_wp2
    exact ⟨rfl, by rw [HR3.out, hXu]; exact ⟨ke, hke, hle', rfl, hC12.trans hC16 (fun _ h _ => h)⟩⟩
   clear hp
   have hu' : v = .tuple #[] := hu
   subst hu'
   have HRZ : Hid (R = .ok (.mk 4 [] [] [] l l2 [] [] []) r5) := Lib.hid (by rw [HR3.out, hXu]; rfl)
   have hX := row_chg hX6 hC16 (by omega)
   have hZ := row_chg hZ7 hC16 (by omega)
   have hC := hC12.trans hC16 (fun _ h _ => h)
   have HO1 := Lib.hid (HO9.out.stay hC16 (fun k hk e => by have := hk.1; omega))
   have HO2 := Lib.hid (HO10.out.stay hC16 (fun k hk e => by have := hk.1; omega))
   clear HR3 hXu hu hX6 hZ7 hC12 hC16 HO9 HO10 hP7
   have hcX := row_cells hX
   have hcZ := row_cells hZ
   have hfZ := row_free hZ
   go_wp2
   have hC9 := chg9 w7 w.heap.size (.int .i64 4) (.string ⟨#[]⟩) (.slice none 0 0) (.slice none 0 0) (.slice A l.length c) (.slice A2 l2.length c2) (.slice none 0 0) (.slice none 0 0) (.slice none 0 0)
   refine bodyPost_ret (v := .agg #[.int .i64 4, .string ⟨#[]⟩, .slice none 0 0, .slice none 0 0, .slice A l.length c, .slice A2 l2.length c2, (.slice none 0 0), .slice none 0 0, .slice none 0 0]) (by simp [results, Tryz.results117, go_sem, hcZ]) rfl ?_
   rw [HRZ.out]
   refine ⟨_, rfl, ⟨[.int .i64 4, .string ⟨#[]⟩, .slice none 0 0, .slice none 0 0, .slice A l.length c, .slice A2 l2.length c2, (.slice none 0 0), .slice none 0 0, .slice none 0 0], rfl, cmd_rep.2 ⟨_, _, _, _, _, _, _, rfl, rep_nil _ _ _ _, rep_nil _ _ _ _, ?_, ?_, ?_, rep_nil _ _ _ _, rep_nil _ _ _ _⟩, rfl⟩, hP.chg hC9 (by omega), hC.trans hC9 (fun k hk hl => by omega)⟩
   ·exact (HO1.out.stay hC9 (fun k hk e => by have := hk.1; omega)).mono (fun k hk _ => by have := hk.1; omega)
   ·exact (HO2.out.stay hC9 (fun k hk e => by have := hk.1; omega)).mono (fun k hk _ => by have := hk.1; omega)
   ·exact rep_nil _ _ _ _
theorem peek_len (r : Bytes) : (peek r).1.length ≤ 2 * r.length := by
 have hb := blanks_le r
 unfold peek
 cases hs : scan (blanks r) with
 | err a e => simp
 | ok l r' =>
  have hl := (scan_ok _ _ _ hs).2
  match l with
  | [] => simp
  | [.mk k q t o w] =>
   dsimp only
   split
   ·simp only [Part.wts, Part.wt] at hl
    dsimp only
    omega
   ·simp
  | a :: b :: l => simp
def eachK (ls : Bytes → Rs (List Lst)) (name : Bytes) (ws : List (List Part)) (r1 : Bytes) : Rs Cmd := (loopP ls (lines (takeR [59] r1))).bind fun l r2 => .ok (.mk 7 name [] ws [] l [] [] []) r2
theorem eachP_eq (wd : Bytes → Rs (List Part)) (ls : Bytes → Rs (List Lst)) (r : Bytes) : eachP wd ls r = if nameB (peek r).1 then
  (if (peek (lines (peek r).2)).1 == [105, 110] then wordsF wd ((peek (lines (peek r).2)).2.length + 1) [] (peek (lines (peek r).2)).2
   else .ok [[.mk 2 true [64] [] []]] (blanks (lines (peek r).2))).bind (eachK ls (peek r).1)
 else failS (blanks r) 61 := rfl
def EachRel (wd : Bytes → Rs (List Part)) (K : List (List Part) → Bytes → Rs Cmd) (w : World) (g X : Nat) (s : ByteArray) (d : Nat) (R : Rs Cmd) (nB : ByteArray) (m : Nat) (k : Nat) (sv : Value) (wr : World) : Prop :=
 ∃ (ws : List (List Part)) (r b : Bytes) (f : Nat) (A : Option Addr) (c L : Nat) (S : Nat → Prop), sv = .string (bstr (sgn r)) ∧ b = blanks r ∧ ws.length = L ∧ Hid (R = (wordsF wd f ws r).bind K) ∧ ParsR wr g s b d ∧ r.length < f ∧ r.length ≤ k ∧ r.length ≤ m ∧ L + k ≤ 8193 ∧
  wr.heap[X]? = some (.cells #[.int .i64 7, .string nB, .slice none 0 0, .slice A L c, .slice none 0 0, .slice none 0 0, .slice none 0 0, .slice none 0 0, .slice none 0 0] 49) ∧ Row wr X X 70 1 (.slice A L c) (ws.map wordD) S ∧ Chg (· = g) w wr ∧ wr.heap[w.heap.size]? = some (.cells zCmd 49)
set_option maxRecDepth 100000 in
set_option maxHeartbeats 4000000 in
theorem each_calls (wd : Bytes → Rs (List Part)) (ls : Bytes → Rs (List Lst)) (d : Nat) (m : Nat) (hwd : WdSaid wd d m) (hlt : Lt wd) (hls : LsSaid ls d m) (g : Nat) (s : ByteArray) (r : Bytes) (w : World) (h : ParsR w g s r d) (hs : s.size ≤ 8192) (hm : r.length ≤ m) :
  Calls Tryz.prog 119 #[.pointer (some ⟨g, 0, none⟩)] w (PPost w g s d (eachP wd ls r) (isCmd0 w)) := by
 have hgl := h.lt
 have hrl := h.len
 generalize hR : eachP wd ls r = R
 rw [eachP_eq] at hR
 have HR := Lib.hid hR.symm; clear hR
 have hpk := fun w h => peek_calls g s r d w h hs
 have hpl := peek_len r
 have hbl := blanks_le r
 have hlt2 : (peek r).1 ≠ [] → (peek r).2.length < r.length := fun h => by have := peek_lt h; omega
 generalize peek r = p at *
 obtain ⟨pt, pr⟩ := p
 simp only at HR hpl hlt2
 have hNm := fun w => name_calls (bstr pt) w (by rw [bstr_size]; omega)
 rw [bstr_toList] at hNm
 generalize hpB : bstr pt = pB at *
 have HPB := Lib.hid hpB; clear hpB
 go_enter Tryz.func119, Tryz.ntmps119
 have hC0 : Chg (· = g) w (w.alloc (.cells zCmd 49)) := (Chg.refl _ w).alloc _
 have hP0 := ParsR.chg (B := fun _ => False) h ((Chg.refl _ w).alloc (.cells zCmd 49)) (fun e => e)
 have hZ0 := row_new w (.cells zCmd 49)
 have hs00 : (w.alloc (.cells zCmd 49)).heap.size = w.heap.size + 1 := by simp
 go_wp2_with fail
 refine Calls.mono (hpk _ hP0) ?_
 rintro e w1 ⟨n, rfl, hn, hP1, hC1⟩
 have hZ1 := row_chg hZ0 hC1 (by omega)
 have hC2 := hC0.trans hC1 (fun _ h _ => h)
 have hs0 : w.heap.size < w1.heap.size := by have := hC1.size; rw [hs00] at this; omega
 simp only at hn
 have HN := Lib.hid hn
 obtain ⟨a, ha, hbe, hl, hA⟩ := hP1.pos
 obtain ⟨h0, h1, h2, f1, f2, _⟩ := ParsAt.cells hA
 have HB := Lib.hid hbe
 simp only
 rw [HPB.out]
 clear hpk hP0 hZ0 hC0 hC1 hs00 hn hbe hl hP1
 cases hnm : nameB pt
 case false =>
  have HR2 : Hid (R = failS (blanks r) 61) := Lib.hid (by rw [HR.out, hnm]; rfl)
  rw [hnm] at hNm
  clear HR hnm
  go_wp2_with fail
  refine Calls.mono (hNm _) ?_
  rintro e w2 ⟨rfl, rfl⟩
  go_wp2_with fail
  refine Calls.mono (fail_at g s _ d _ 61 w _ a a HB.out ha hA hC2 (isCmd0 w)) ?_
  rintro e w5 ⟨⟨c4, rfl⟩, hpost, rfl⟩
  go_wp2
  rw [HR2.out]
  exact ⟨rfl, hpost⟩
 case true =>
  have hne : pt ≠ [] := by rintro rfl; simp [nameB] at hnm
  have hpr := hlt2 hne
  obtain ⟨hn1, hn2⟩ := HN.out hne
  have HR2 : Hid (R = (if (peek (lines pr)).1 == [105, 110] then wordsF wd ((peek (lines pr)).2.length + 1) [] (peek (lines pr)).2
   else .ok [[.mk 2 true [64] [] []]] (blanks (lines pr))).bind (eachK ls pt)) := Lib.hid (by rw [HR.out, hnm]; rfl)
  rw [hnm] at hNm
  have hA1 := hA.at' (n : Int)
  have hP2 : ParsR (w1.setCell ⟨g, 1, none⟩ (.int .i64 (n : Int))) g s pr d := ⟨n, hn1, hn2, hA1⟩
  have hZ2 := row_far hZ1 (p := ⟨g, 1, none⟩) (by simp; omega) (.int .i64 (n : Int))
  have hC3 := hC2.setCell (p := ⟨g, 1, none⟩) (fun _ => rfl) (.int .i64 (n : Int))
  have hsz : (w1.setCell ⟨g, 1, none⟩ (.int .i64 (n : Int))).heap.size = w1.heap.size := by simp
  clear HR hnm hn1 hn2 hA1 HN hne hZ1 hC2
  go_wp2_with fail
  refine Calls.mono (hNm _) ?_
  rintro e w2 ⟨rfl, rfl⟩
  go_wp2_with fail
  clear h0 h1 h2 f1 f2 hA hNm
  generalize w1.setCell ⟨g, 1, none⟩ (.int .i64 (n : Int)) = W at *
  rw [← hsz] at hs0 ⊢
  clear hsz
  have hX1 := row_new W (.cells #[.int .i64 7, .string pB, .slice none 0 0, .slice none 0 0, .slice none 0 0, .slice none 0 0, .slice none 0 0, .slice none 0 0, .slice none 0 0] 49)
  have hCa : Chg (fun _ => False) W (W.alloc (.cells #[.int .i64 7, .string pB, .slice none 0 0, .slice none 0 0, .slice none 0 0, .slice none 0 0, .slice none 0 0, .slice none 0 0, .slice none 0 0] 49)) := (Chg.refl _ W).alloc _
  have hP3 := hP2.chg hCa (fun e => e)
  have hZ3 := row_chg hZ2 hCa (fun e => e)
  have hC4 := hC3.trans hCa (fun _ h _ => h.elim)
  clear hCa hP2 hZ2 hC3
  generalize W.alloc (.cells #[.int .i64 7, .string pB, .slice none 0 0, .slice none 0 0, .slice none 0 0, .slice none 0 0, .slice none 0 0, .slice none 0 0, .slice none 0 0] 49) = U at *
  generalize W.heap.size = X at *
  trace_state
  have hll := lines_le pr
  refine Calls.mono (lines_calls g s pr d U hP3 hs) ?_
  rintro e w3 ⟨rfl, hP4, hC5⟩
  have hX2 := row_chg hX1 hC5 (by omega)
  have hZ4 := row_chg hZ3 hC5 (by omega)
  have hC6 := hC4.trans hC5 (fun _ h _ => h)
  generalize lines pr = L0 at *
  go_wp2_with fail
  refine Calls.mono (key_calls g s L0 d [105, 110] (by simp) _ hP4 hs) ?_
  rintro e w4 ⟨rfl, hP5, hC7⟩
  have hX3 := row_chg hX2 hC7 (by omega)
  have hZ5 := row_chg hZ4 hC7 (by omega)
  have hC8 := hC6.trans hC7 (fun _ h _ => h)
  have hb0 := blanks_le L0
  have hq0 := fun h => peek_lt2 (r := L0) (s := [105, 110]) (by simp) h
  clear hP3 hX1 hZ3 hC4 hC5 hP4 hX2 hZ4 hC6 hC7
  go_upto_if 30 with fail
  go_cut [] (fun wx => ∃ (ws : List (List Part)) (r1 : Bytes) (A : Option Addr) (c L : Nat) (S : Nat → Prop), ws.length = L ∧ Hid (R = eachK ls pt ws r1) ∧ ParsR wx g s r1 d ∧ r1.length ≤ m ∧
   wx.heap[X]? = some (.cells #[.int .i64 7, .string pB, .slice none 0 0, .slice A L c, .slice none 0 0, .slice none 0 0, .slice none 0 0, .slice none 0 0, .slice none 0 0] 49) ∧ Row wx X X 70 1 (.slice A L c) (ws.map wordD) S ∧ Chg (· = g) w wx ∧ wx.heap[w.heap.size]? = some (.cells zCmd 49))
  case first =>
   cases q1 : (peek L0).1 == [105, 110]
   case true =>
    have hq1 := hq0 q1
    rw [q1] at hP5 HR2
    simp only [if_true] at hP5 HR2
    clear hq0 q1 hb0
    generalize (peek L0).2 = q at *
    go_wp2_with fail
    refine Calls.mono (sign_calls g s q d w4 hP5 hs) ?_
    rintro e w5 ⟨rfl, hP6, hC9⟩
    have hX4 := row_chg hX3 hC9 (by omega)
    have hZ6 := row_chg hZ5 hC9 (by omega)
    have hC10 := hC8.trans hC9 (fun _ h _ => h)
    clear hP5 hX3 hZ5 hC8 hC9
    generalize hgB : bstr (sgn q) = gB
    go_wp2
    go_loopg [6] q.length (fun k sv wr => EachRel wd (eachK ls pt) w g X s d R pB m k sv wr)
    case atStart => exact ⟨[], q, _, q.length + 1, none, 0, 0, _, by rw [hgB], rfl, rfl, HR2, hP6, by omega, Nat.le_refl _, by omega, by omega, hX4, Row.none _ _ _ _ _, hC10, hZ6⟩
    case round =>
     clear hX4 hZ6 hC10 hP6 HR2 hgB
     obtain ⟨ws, r1, b, f, A, c, L, S, rfl, hbb, hL, HR, hP, hf, hk1, hm1, hLk, hX, hRow, hC, hZ⟩ := hrel
     have hbl1 := blanks_le r1
     rw [← hbb] at hbl1
     have e59 : ((bstr (sgn r1)).toList == [59]) = (sgn r1 == [59]) := by rw [ByteArray.toList_eq, bstr_toList]
     have e10 : ((bstr (sgn r1)).toList == [10]) = (sgn r1 == [10]) := by rw [ByteArray.toList_eq, bstr_toList]
     obtain ⟨fn, rfl⟩ : ∃ n, f = n + 1 := ⟨f - 1, by omega⟩
     have HR1 : Hid (R = (if sgn r1 == [59] || sgn r1 == [10] then .ok ws b else (wd b).bind fun w r' => wordsF wd fn (ws ++ [w]) r').bind (eachK ls pt)) := Lib.hid (by rw [HR.out, wordsF, ← hbb])
     generalize bstr (sgn r1) = gB1 at *
     have HBB := Lib.hid hbb; clear hbb HR
     cases q59 : sgn r1 == [59]
     case true =>
      rw [q59] at e59
      have HR3 : Hid (R = eachK ls pt ws b) := Lib.hid (by rw [HR1.out, q59]; rfl)
      clear HR1 q59
      go_wp2_with fail
      go_meet
      exact ⟨ws, b, A, c, L, S, hL, HR3, hP, by omega, hX, hRow, hC, hZ⟩
     case false =>
      rw [q59] at e59
      cases q10 : sgn r1 == [10]
      case true =>
       rw [q10] at e10
       have HR3 : Hid (R = eachK ls pt ws b) := Lib.hid (by rw [HR1.out, q59, q10]; rfl)
       clear HR1 q59 q10
       go_wp2_with fail
       go_meet
       exact ⟨ws, b, A, c, L, S, hL, HR3, hP, by omega, hX, hRow, hC, hZ⟩
      case false =>
       rw [q10] at e10
       have HR3 : Hid (R = ((wd b).bind fun w r' => wordsF wd fn (ws ++ [w]) r').bind (eachK ls pt)) := Lib.hid (by rw [HR1.out, q59, q10]; rfl)
       clear HR1 q59 q10
       have z1 := row_cells hX 3
       have hXl := row_lt hX
       go_wp2
       refine wp_region_any (by kernel_rfl) ?_
       change wpAny _ _ _ _ _ _ _ (World.drew _)
       refine wpAny_take (i := 0) (v := .pointer (some ⟨X, 3, none⟩)) rfl (by kernel_rfl) (by kernel_rfl) (by kernel_rfl) (fun _ _ _ h => h) (Or.inl ⟨by rfl, by intro w; go_simp⟩) ?_
       refine wpAny_take (i := 2) (v := .pointer (some ⟨g, 0, none⟩)) rfl (by kernel_rfl) (by kernel_rfl) (by kernel_rfl) (fun _ _ _ h => h) (Or.inl ⟨by rfl, by intro w; go_simp⟩) ?_
       simp only [Act.put, List.setIfInBounds_toArray, List.set_cons_zero, List.set_cons_succ]
       refine wpAny_load_ahead (fun w' => w'.cell? ⟨X, 3, none⟩ = some (.slice A L c)) (i := 1) (c := 3) (c2 := 4) (.slice A L c) rfl rfl rfl (by decide) (by decide) (by kernel_rfl) (by kernel_rfl) (by kernel_rfl) (fun _ _ _ h => h) (by kernel_rfl) (by kernel_rfl) (by kernel_rfl) (by kernel_rfl) (by kernel_rfl) (Or.inl ⟨by rfl, by intro w hw; go_simp⟩) z1 ?_
       simp only [Act.put, List.setIfInBounds_toArray, List.set_cons_zero, List.set_cons_succ]
       refine wpOp_step rfl (fun K hK => ?_)
       go_simp
       refine Calls.mono (hwd g s b _ (hP.drewN 1) hs (by omega)) ?_
       rintro e w6 hp
       rcases ppost_cases hp with ⟨x, r2, v, hXx, rfl, ⟨A2, c2, rfl, hcs⟩, hP8, hC11⟩ | ⟨le, ce, ke, hXx, hk, hl, rfl, hC11⟩
       rotate_left
       ·exact ⟨rfl, by rw [HR3.out, hXx]; exact ⟨ke, hk, hl, rfl, (hC.drewN 1).trans hC11 (fun _ h _ => h)⟩⟩
       clear hp
       have hr2 := hlt.lt hXx
       have HR4 : Hid (R = (wordsF wd fn (ws ++ [x]) r2).bind (eachK ls pt)) := Lib.hid (by rw [HR3.out, hXx]; rfl)
       have z2 := hC11.cell z1 (by simp; omega)
       refine hK _ _ ⟨z2, ?_⟩
       clear hK K
       refine wpOp_step rfl (fun K hK => ?_)
       go_simp
       refine hK _ _ ⟨by rw [World.cell?_alloc_some _ _ _ (by rw [z2]; rfl)]; exact z2, ?_⟩
       clear hK K
       refine wpAny_tail 5 _ rfl (by kernel_rfl) ?_
       change wpList _ _ _ [_, _, _] _ _
       have hX6 := row_chg (B := (· = g)) (w := wr.drew) hX hC11 (by omega)
       have hZ7 := row_chg (B := (· = g)) (w := wr.drew) hZ hC11 (by omega)
       have hS6 := (hRow.drew 1).stay hC11 (fun k h1 h2 h3 e => by omega)
       have hC12 := (hC.drewN 1).trans hC11 (fun _ h _ => h)
       have hN : wr.heap.size ≤ w6.heap.size := hC11.size
       have hSl : ∀ k, S k → k < wr.heap.size := hRow.lt
       have HCS := Lib.hid hcs
       clear hcs hXx HR3 hX hZ hRow hC hC11 hP z1 z2
       go_wp2_with (at_builtin; go_must (refine row_append X X S wr.heap.size rfl _ _ _ _ _ 1 24 rfl Tryz.underlying45 info_Parts rfl (by decide) (by decide) (.slice A L c) (ws.map wordD) (wordD x) _ rfl (by simp [Act.eval]) HCS.out rfl hN hXl hXl hS6 hSl (by rw [List.length_map]; omega) ?_))
       intro A3 c3 w7 S3 hRow3 hSS hC13
       have e1 : L + 1 = (ws ++ [x]).length := by rw [List.length_append, hL]; rfl
       have e2 : ws.map wordD ++ [wordD x] = (ws ++ [x]).map wordD := by simp
       rw [e1, e2] at hRow3
       rw [e1]
       generalize hL3 : (ws ++ [x]).length = L3 at hRow3 ⊢
       have hLk3 : L3 + r2.length ≤ 8193 := by omega
       have hX7 := row_chg hX6 hC13 (fun h => (hS6.2 X h).2.1 rfl)
       have hZ8 := row_chg hZ7 hC13 (fun h => by have := (hS6.2 _ h).1; omega)
       have hP9 := hP8.chg hC13 (fun h => by have := (hS6.2 _ h).1; omega)
       have hC14 := hC12.trans hC13 (fun k hk hl => by have := (hS6.2 _ hk).1; omega)
       have hcX := row_cells hX7
       have hfX := row_free hX7
       have hCX := setCell_chg w7 X 3 (.slice A3 L3 c3)
       have hX8 := row_set hX7 3 (.slice A3 L3 c3)
       have hZ9 := row_chg hZ8 hCX (by omega)
       have hP10 := hP9.chg hCX (by omega)
       have hC15 := hC14.trans hCX (fun k hk hl => by omega)
       have hR9 := hRow3.apart hCX (fun k hk e => (hRow3.2 k hk).2.1 e)
       simp only [List.setIfInBounds_toArray, List.set_cons_zero, List.set_cons_succ] at hX8
       clear hX6 hZ7 hS6 hC12 hN hSl HCS hP8 hC13 hSS hRow3 hZ8 hP9 hC14 hX7
       go_wp2_with fail
       clear hcX hfX hCX
       generalize w7.setCell ⟨X, 3, none⟩ (.slice A3 L3 c3) = V at *
       refine Calls.mono (sign_calls g s r2 d V hP10 hs) ?_
       rintro e w8 ⟨rfl, hP11, hC16⟩
       have hX9 := row_chg hX8 hC16 (by omega)
       have hZ10 := row_chg hZ9 hC16 (by omega)
       have hC17 := hC15.trans hC16 (fun _ h _ => h)
       have hR10 := hR9.stay hC16 (fun k h1 h2 h3 e => by omega)
       generalize hgB2 : bstr (sgn r2) = gB2
       clear hX8 hZ9 hC15 hC16 hR9 hP10
       go_wp2
       go_roundg r2.length
       case measure => omega
       case rel => exact ⟨ws ++ [x], r2, _, fn, _, _, _, _, by rw [hgB2], rfl, hL3, HR4, hP11, by omega, Nat.le_refl _, by omega, hLk3, hX9, hR10, hC17, hZ10⟩
   case false =>
    rw [q1] at hP5 HR2
    simp only [Bool.false_eq_true, if_false] at hP5 HR2
    have HR3 : Hid (R = eachK ls pt [[.mk 2 true [64] [] []]] (blanks L0)) := Lib.hid HR2.out
    have hcX := row_cells hX3
    have hfX := row_free hX3
    have hXl := row_lt hX3
    have hXl1 : X < w4.heap.size + 1 := by omega
    clear HR2 q1 hq0
    go_wp2_with fail
    go_meet
    have hCX := setCell_chg w4 X 3 (.slice (some ⟨w4.heap.size + 1, 0, none⟩) 1 1)
    have hX4 := row_set hX3 3 (.slice (some ⟨w4.heap.size + 1, 0, none⟩) 1 1)
    have hZ6 := row_chg hZ5 hCX (by omega)
    have hP6 := hP5.chg hCX (by omega)
    have hC9 := hC8.trans hCX (fun k hk hl => by omega)
    simp only [List.setIfInBounds_toArray, List.set_cons_zero, List.set_cons_succ] at hX4
    have hsV : (w4.setCell ⟨X, 3, none⟩ (.slice (some ⟨w4.heap.size + 1, 0, none⟩) 1 1)).heap.size = w4.heap.size := by simp
    generalize w4.setCell ⟨X, 3, none⟩ (.slice (some ⟨w4.heap.size + 1, 0, none⟩) 1 1) = V at *
    have P1 : Rep V (fun _ => False) (Part.d (.mk 2 true [64] [] [])) [.int .i64 2, .bool true, .string ⟨#[64]⟩, .string ⟨#[]⟩, .slice none 0 0] := part_nil _ _ 2 true ⟨#[64]⟩ [64] rfl
    have O1 := own_one (e := 103) (sz := 5) P1 rfl
    rw [hsV] at O1
    have W1 : Rep _ _ (wordD [.mk 2 true [64] [] []]) [.slice (some ⟨w4.heap.size, 0, none⟩) 1 1] := O1.rep
    have O2 := own_one (e := 70) (sz := 1) W1 rfl
    simp only [World.size_alloc, hsV] at O2
    have hCA : Chg (fun _ => False) V ((V.alloc (.cells #[.int .i64 2, .bool true, .string ⟨#[64]⟩, .string ⟨#[]⟩, .slice none 0 0] 103)).alloc (.cells #[.slice (some ⟨w4.heap.size, 0, none⟩) 1 1] 70)) := ((Chg.refl _ V).alloc _).alloc _
    exact ⟨[[.mk 2 true [64] [] []]], _, _, _, 1, _, rfl, HR3, hP6.chg hCA (fun e => e), by omega, row_chg hX4 hCA (fun e => e), ⟨O2, fun k hk => by
     have : ((V.alloc (.cells #[.int .i64 2, .bool true, .string ⟨#[64]⟩, .string ⟨#[]⟩, .slice none 0 0] 103)).alloc (.cells #[.slice (some ⟨w4.heap.size, 0, none⟩) 1 1] 70)).heap.size = w4.heap.size + 1 + 1 := by simp [hsV]
     rw [this]
     rcases hk with (hk | hk) | hk
     ·exact hk.elim
     ·omega
     ·omega⟩, hC9.trans hCA (fun _ h _ => h.elim), row_chg hZ6 hCA (fun e => e)⟩
  case rest =>
   clear hX3 hZ5 hC8 hP5 HR2 hq0 hb0
   obtain ⟨ws, r1, A, c, L, S, hL, HR, hP, hm1, hX, hRow, hC, hZ⟩ := hcut
   rw [eachK] at HR
   go_wp2_with fail
   refine Calls.mono (take_calls g s r1 d [59] wc hP hs) ?_
   rintro e w5 ⟨rfl, hP1, hC1⟩
   have hX1 := row_chg hX hC1 (by omega)
   have hZ1 := row_chg hZ hC1 (by omega)
   have hC2 := hC.trans hC1 (fun _ h _ => h)
   have hR1 := hRow.stay hC1 (fun k h1 h2 h3 e => by omega)
   have htk := take_le [59] r1
   clear hX hZ hC hC1 hRow hP
   generalize takeR [59] r1 = r2 at *
   generalize (sgn r1 == [59]) = fl at *
   go_wp2_with fail
   refine Calls.mono (lines_calls g s r2 d w5 hP1 hs) ?_
   rintro e w6 ⟨rfl, hP2, hC3⟩
   have hX2 := row_chg hX1 hC3 (by omega)
   have hZ2 := row_chg hZ1 hC3 (by omega)
   have hC4 := hC2.trans hC3 (fun _ h _ => h)
   have hR2 := hR1.stay hC3 (fun k h1 h2 h3 e => by omega)
   have hln := lines_le r2
   clear hX1 hZ1 hC2 hC3 hR1 hP1
   generalize lines r2 = r3 at *
   go_wp2_with fail
   refine Calls.mono (loop_calls ls d m hls g s r3 _ hP2 hs (fun r1 h1 => by have := le_must _ (by simp) _ _ _ h1; omega)) ?_
   rintro e w7 hp
   rcases ppost_cases hp with ⟨l, r4, v, hXu, rfl, ⟨A2, c2, rfl, hO⟩, hP3, hC5⟩ | ⟨le, ce, ke, hXu, hke, hle', rfl, hC5⟩
   rotate_left
   ·go_wp2
    exact ⟨rfl, by rw [HR.out, hXu]; exact ⟨ke, hke, hle', rfl, hC4.trans hC5 (fun _ h _ => h)⟩⟩
   clear hp
   have HRZ : Hid (R = .ok (.mk 7 pt [] ws [] l [] [] []) r4) := Lib.hid (by rw [HR.out, hXu]; rfl)
   have hX3 := row_chg hX2 hC5 (by omega)
   have hZ3 := row_chg hZ2 hC5 (by omega)
   have hC6 := hC4.trans hC5 (fun _ h _ => h)
   have hR3 := hR2.stay hC5 (fun k h1 h2 h3 e => by omega)
   have HO := Lib.hid hO
   have hXl := row_lt hX2
   have hcX := row_cells hX3
   have hfX := row_free hX3
   have hcZ := row_cells hZ3
   have hfZ := row_free hZ3
   clear HR hXu hO hX2 hZ2 hC4 hC5 hR2 hP2
   go_wp2
   have hCX := setCell_chg w7 X 5 (.slice A2 l.length c2)
   have hC9 := chg9 (w7.setCell ⟨X, 5, none⟩ (.slice A2 l.length c2)) w.heap.size (.int .i64 7) (.string pB) (.slice none 0 0) (.slice A L c) (.slice none 0 0) (.slice A2 l.length c2) (.slice none 0 0) (.slice none 0 0) (.slice none 0 0)
   have hcZ5 := row_cells (row_chg hZ3 hCX (by omega))
   refine bodyPost_ret (v := .agg #[.int .i64 7, .string pB, .slice none 0 0, .slice A L c, .slice none 0 0, .slice A2 l.length c2, .slice none 0 0, .slice none 0 0, .slice none 0 0]) (by simp [results, Tryz.results119, go_sem, hcZ5]) rfl ?_
   rw [HRZ.out]
   refine ⟨_, rfl, ⟨[.int .i64 7, .string pB, .slice none 0 0, .slice A L c, .slice none 0 0, .slice A2 l.length c2, .slice none 0 0, .slice none 0 0, .slice none 0 0], rfl, cmd_rep.2 ⟨_, _, _, _, _, _, _, by rw [HPB.out], rep_nil _ _ _ _, ?_, rep_nil _ _ _ _, ?_, rep_nil _ _ _ _, rep_nil _ _ _ _, rep_nil _ _ _ _⟩, rfl⟩, (hP3.chg hCX (by omega)).chg hC9 (by omega), (hC6.trans hCX (fun k hk hl => by omega)).trans hC9 (fun k hk hl => by omega)⟩
   ·have hR4 := (hR3.apart hCX (fun k hk e => (hR3.2 k hk).2.1 e)).apart hC9 (fun k hk e => by have := (hR3.2 k hk).1; omega)
    exact hR4.rep.mono (fun k hk _ => by omega)
   ·exact ((HO.out.stay hCX (fun k hk e => by omega)).stay hC9 (fun k hk e => by omega)).mono (fun k hk _ => by omega)
def patsRest (wd : Bytes → Rs (List Part)) (n : Nat) (ps : List (List Part)) (r1 : Bytes) : Rs (List (List Part)) := if sgn r1 == [124] then patsF wd n ps ((blanks r1).drop 1) else .ok ps (blanks r1)
theorem patsF_eq (wd : Bytes → Rs (List Part)) (n : Nat) (ps : List (List Part)) (r : Bytes) : patsF wd (n + 1) ps r = (wd r).bind fun w r1 => patsRest wd n (ps ++ [w]) r1 := by rw [patsF]; rfl
def patsAt (wd : Bytes → Rs (List Part)) (first : Bool) (n : Nat) (ps : List (List Part)) (q : Bytes) : Rs (List (List Part)) := if first then patsF wd n ps q else patsRest wd n ps q
def caseEnd (wd : Bytes → Rs (List Part)) (ls : Bytes → Rs (List Lst)) (n : Nat) (cs : List Cas) (r3 : Bytes) : Rs (List Cas) :=
 if sgn r3 == [59, 59] then casesF wd ls n cs (lines ((blanks r3).drop 2)) else (mustP [101, 115, 97, 99] (blanks r3)).bind fun _ r4 => .ok cs r4
def caseBody (wd : Bytes → Rs (List Part)) (ls : Bytes → Rs (List Lst)) (n : Nat) (cs : List Cas) (ps : List (List Part)) (r1 : Bytes) : Rs (List Cas) :=
 (wantP [41] r1).bind fun _ r2 => (if over (lines r2) then .ok [] (blanks (lines r2)) else ls (blanks (lines r2))).bind fun l r3 => caseEnd wd ls n (cs ++ [.mk ps l]) r3
theorem casesF_eq (wd : Bytes → Rs (List Part)) (ls : Bytes → Rs (List Lst)) (n : Nat) (cs : List Cas) (r : Bytes) : casesF wd ls (n + 1) cs r = if (peek r).1 == [101, 115, 97, 99] then .ok cs (peek r).2
 else (patsF wd ((blanks r).length + 1) [] (takeR [40] (blanks r))).bind (caseBody wd ls n cs) := by rw [casesF]; rfl
theorem bind_bind {α β γ : Type} (X : Rs α) (f : α → Bytes → Rs β) (k : β → Bytes → Rs γ) : (X.bind f).bind k = X.bind fun a r => (f a r).bind k := by cases X <;> rfl
abbrev cCells (W0 : Option Addr) (w1 w2 : Nat) (A : Option Addr) (L c : Nat) : Array Value := #[.int .i64 8, .string ⟨#[]⟩, .slice none 0 0, .slice W0 w1 w2, .slice none 0 0, .slice none 0 0, .slice none 0 0, .slice A L c, .slice none 0 0]
def ChRel (wd : Bytes → Rs (List Part)) (ls : Bytes → Rs (List Lst)) (K : List Cas → Bytes → Rs Cmd) (w : World) (g X : Nat) (s : ByteArray) (d : Nat) (R : Rs Cmd) (wds : List (List Part)) (W0 : Option Addr) (w1 w2 : Nat) (m : Nat) (k : Nat) (wr : World) : Prop :=
 ∃ (cs : List Cas) (r : Bytes) (f : Nat) (A : Option Addr) (c L : Nat) (S : Nat → Prop), cs.length = L ∧ Hid (R = (casesF wd ls f cs r).bind K) ∧ ParsR wr g s r d ∧ r.length < f ∧ r.length ≤ k ∧ r.length ≤ m ∧ L + k ≤ 8193 ∧
  wr.heap[X]? = some (.cells (cCells W0 w1 w2 A L c) 49) ∧ Row wr X X 77 2 (.slice A L c) (Cas.ds cs) S ∧ Rep wr (fun k => w.heap.size < k ∧ k < X) (wordsD wds) [.slice W0 w1 w2] ∧ Chg (· = g) w wr ∧ wr.heap[w.heap.size]? = some (.cells zCmd 49)
def PatRel (wd : Bytes → Rs (List Part)) (K : List (List Part) → Bytes → Rs Cmd) (g Y : Nat) (s : ByteArray) (d : Nat) (R : Rs Cmd) (wa : World) (m : Nat) (k : Nat) (fv : Value) (wr : World) : Prop :=
 ∃ (first : Bool) (ps : List (List Part)) (q : Bytes) (f : Nat) (A : Option Addr) (c L : Nat) (S : Nat → Prop), fv = .bool first ∧ ps.length = L ∧ Hid (R = (patsAt wd first f ps q).bind K) ∧ ParsR wr g s q d ∧ q.length < f ∧ q.length + (if first then 1 else 0) ≤ k ∧ q.length ≤ m ∧ L + q.length ≤ 8193 ∧
  wr.heap[Y]? = some (.cells #[.slice A L c, .slice none 0 0] 77) ∧ Row wr Y Y 70 1 (.slice A L c) (ps.map wordD) S ∧ Chg (fun k => k = g ∨ Y ≤ k) wa wr ∧ Y < wr.heap.size
set_option maxRecDepth 100000 in
set_option maxHeartbeats 4000000 in
theorem choice_calls (wd : Bytes → Rs (List Part)) (ls : Bytes → Rs (List Lst)) (d : Nat) (m : Nat) (hwd : WdSaid wd d m) (hlt : Lt wd) (hls : LsSaid ls d m) (hll : Le ls) (g : Nat) (s : ByteArray) (r : Bytes) (w : World) (h : ParsR w g s r d) (hs : s.size ≤ 8192) (hm : r.length ≤ m) :
  Calls Tryz.prog 120 #[.pointer (some ⟨g, 0, none⟩)] w (PPost w g s d (choiceP wd ls r) (isCmd0 w)) := by
 have hgl := h.lt
 have hrl := h.len
 generalize hR : choiceP wd ls r = R
 rw [choiceP] at hR
 have HR := Lib.hid hR.symm; clear hR
 go_enter Tryz.func120, Tryz.ntmps120
 have hC0 : Chg (· = g) w (w.alloc (.cells zCmd 49)) := (Chg.refl _ w).alloc _
 have hP0 := ParsR.chg (B := fun _ => False) h ((Chg.refl _ w).alloc (.cells zCmd 49)) (fun e => e)
 have hZ0 := row_new w (.cells zCmd 49)
 have hs00 : (w.alloc (.cells zCmd 49)).heap.size = w.heap.size + 1 := by simp
 go_wp2_with fail
 refine Calls.mono (hwd g s r _ hP0 hs hm) ?_
 rintro e w1 hp
 rcases ppost_cases hp with ⟨wx, r1, v, hXx, rfl, ⟨A0, c0, rfl, hO⟩, hP1, hC1⟩ | ⟨le, ce, ke, hXx, hke, hle', rfl, hC1⟩
 rotate_left
 ·go_wp2
  exact ⟨rfl, by rw [HR.out, hXx]; exact ⟨ke, hke, hle', rfl, hC0.trans hC1 (fun _ h _ => h)⟩⟩
 clear hp
 have hr1 := hlt.lt hXx
 have HR1 : Hid (R = (mustP [105, 110] (lines r1)).bind fun _ r2 => (casesF wd ls ((lines r2).length + 1) [] (lines r2)).bind fun cs r3 => .ok (.mk 8 [] [] [wx] [] [] [] cs []) r3) := Lib.hid (by rw [HR.out, hXx]; rfl)
 have hZ1 := row_chg hZ0 hC1 (by omega)
 have hC2 := hC0.trans hC1 (fun _ h _ => h)
 have hs0 : w.heap.size < w1.heap.size := by have := hC1.size; rw [hs00] at this; omega
 have hOW : Rep w1 (fun k => w.heap.size < k ∧ k < w1.heap.size) (wordD wx) [.slice A0 wx.length c0] := hO.bound.mono (fun k hk _ => by have h1 := hk.1; have h2 := hk.2; rw [hs00] at h1; omega)
 have O1 := own_one (e := 70) (sz := 1) hOW rfl
 clear HR hXx hO hP0 hZ0 hC0 hC1 hs00 hOW
 go_wp2_with fail
 have hX1 := row_new (w1.alloc (.cells #[.slice A0 wx.length c0] 70)) (.cells (cCells (some ⟨w1.heap.size, 0, none⟩) 1 1 none 0 0) 49)
 have hCa : Chg (fun _ => False) w1 ((w1.alloc (.cells #[.slice A0 wx.length c0] 70)).alloc (.cells (cCells (some ⟨w1.heap.size, 0, none⟩) 1 1 none 0 0) 49)) := ((Chg.refl _ w1).alloc _).alloc _
 have hCb : Chg (fun _ => False) (w1.alloc (.cells #[.slice A0 wx.length c0] 70)) ((w1.alloc (.cells #[.slice A0 wx.length c0] 70)).alloc (.cells (cCells (some ⟨w1.heap.size, 0, none⟩) 1 1 none 0 0) 49)) := (Chg.refl _ _).alloc _
 have hP2 := hP1.chg hCa (fun e => e)
 have hZ2 := row_chg hZ1 hCa (fun e => e)
 have hC3 := hC2.trans hCa (fun _ h _ => h.elim)
 have HW : Rep _ (fun k => w.heap.size < k ∧ k < w1.heap.size + 1) (wordsD [wx]) [.slice (some ⟨w1.heap.size, 0, none⟩) 1 1] := ((O1.stay hCb (fun _ _ e => e)).rep).mono (fun k hk _ => by
  rcases hk with hk | hk
  ·have := hk.1; have := hk.2; omega
  ·omega)
 simp only [World.size_alloc] at hX1
 clear hCa hCb hP1 hZ1 hC2 O1
 generalize (w1.alloc (.cells #[.slice A0 wx.length c0] 70)).alloc (.cells (cCells (some ⟨w1.heap.size, 0, none⟩) 1 1 none 0 0) 49) = U at *
 have hs1 : w.heap.size < w1.heap.size + 1 := by omega
 clear hs0
 have hs0 := hs1
 clear hs1
 generalize (some ⟨w1.heap.size, 0, none⟩ : Option Addr) = W0 at *
 generalize w1.heap.size + 1 = X at *
 have hl1 := lines_le r1
 refine Calls.mono (lines_calls g s r1 d U hP2 hs) ?_
 rintro e w2 ⟨rfl, hP3, hC4⟩
 have hX2 := row_chg hX1 hC4 (by omega)
 have hZ3 := row_chg hZ2 hC4 (by omega)
 have hC5 := hC3.trans hC4 (fun _ h _ => h)
 have HW2 := HW.stay hC4 (fun k hk e => by omega)
 clear hX1 hZ2 hC3 hC4 HW hP2
 generalize lines r1 = r2 at *
 go_wp2_with fail
 refine Calls.mono (must_calls g s r2 d [105, 110] (by simp) _ hP3 hs) ?_
 rintro e w3 hp
 rcases ppost_cases hp with ⟨u, r3, v, hXu, rfl, hu, hP4, hC6⟩ | ⟨le, ce, ke, hXu, hke, hle', rfl, hC6⟩
 rotate_left
 ·go_wp2
  exact ⟨rfl, by rw [HR1.out, hXu]; exact ⟨ke, hke, hle', rfl, hC5.trans hC6 (fun _ h _ => h)⟩⟩
 clear hp
 have hu' : v = .tuple #[] := hu
 subst hu'
 have hr3 := le_must _ (by simp) _ _ _ hXu
 have HR2 : Hid (R = (casesF wd ls ((lines r3).length + 1) [] (lines r3)).bind fun cs r3 => .ok (.mk 8 [] [] [wx] [] [] [] cs []) r3) := Lib.hid (by rw [HR1.out, hXu]; rfl)
 have hX3 := row_chg hX2 hC6 (by omega)
 have hZ4 := row_chg hZ3 hC6 (by omega)
 have hC7 := hC5.trans hC6 (fun _ h _ => h)
 have HW3 := HW2.stay hC6 (fun k hk e => by omega)
 clear HR1 hXu hu hX2 hZ3 hC5 hC6 HW2 hP3
 have hl3 := lines_le r3
 go_wp2_with fail
 refine Calls.mono (lines_calls g s r3 d w3 hP4 hs) ?_
 rintro e w4 ⟨rfl, hP5, hC8⟩
 have hX4 := row_chg hX3 hC8 (by omega)
 have hZ5 := row_chg hZ4 hC8 (by omega)
 have hC9 := hC7.trans hC8 (fun _ h _ => h)
 have HW4 := HW3.stay hC8 (fun k hk e => by omega)
 clear hX3 hZ4 hC7 hC8 HW3 hP4
 generalize lines r3 = r4 at *
 go_wp2
 go_loopg [] r4.length (fun k wr => ChRel wd ls (fun cs r3 => .ok (.mk 8 [] [] [wx] [] [] [] cs []) r3) w g X s d R [wx] W0 1 1 m k wr)
 case atStart => exact ⟨[], r4, r4.length + 1, none, 0, 0, _, rfl, HR2, hP5, by omega, Nat.le_refl _, by omega, by omega, hX4, Row.none _ _ _ _ _, HW4, hC9, hZ5⟩
 case round =>
  clear HR2 hP5 hX4 HW4 hC9 hZ5 hr3 hl3 hl1 hr1
  obtain ⟨cs, r5, f, A, c, L, S, hL, HR, hP, hf, hk1, hm1, hLk, hX, hRow, HW, hC, hZ⟩ := hrel
  obtain ⟨fn, rfl⟩ : ∃ n, f = n + 1 := ⟨f - 1, by omega⟩
  have HR1 : Hid (R = (if (peek r5).1 == [101, 115, 97, 99] then .ok cs (peek r5).2 else (patsF wd ((blanks r5).length + 1) [] (takeR [40] (blanks r5))).bind (caseBody wd ls fn cs)).bind fun cs r3 => .ok (.mk 8 [] [] [wx] [] [] [] cs []) r3) := Lib.hid (by rw [HR.out, casesF_eq])
  clear HR
  go_wp2_with fail
  refine Calls.mono (key_calls g s r5 d [101, 115, 97, 99] (by simp) _ hP hs) ?_
  rintro e w5 ⟨rfl, hP1, hC1⟩
  have hX1 := row_chg hX hC1 (by omega)
  have hZ1 := row_chg hZ hC1 (by omega)
  have hC2 := hC.trans hC1 (fun _ h _ => h)
  have HW1 := HW.stay hC1 (fun k hk e => by omega)
  have hR1 := hRow.stay hC1 (fun k h1 h2 h3 e => by omega)
  clear hX hZ hC hC1 HW hRow hP
  cases q1 : (peek r5).1 == [101, 115, 97, 99]
  case true =>
   rw [q1] at hP1
   simp only [if_true] at hP1
   have HRZ : Hid (R = .ok (.mk 8 [] [] [wx] [] [] [] cs []) (peek r5).2) := Lib.hid (by rw [HR1.out, q1]; rfl)
   clear HR1 q1
   have hcX := row_cells hX1
   have hcZ := row_cells hZ1
   have hfZ := row_free hZ1
   go_wp2
   have hC9 := chg9 w5 w.heap.size (.int .i64 8) (.string ⟨#[]⟩) (.slice none 0 0) (.slice W0 1 1) (.slice none 0 0) (.slice none 0 0) (.slice none 0 0) (.slice A L c) (.slice none 0 0)
   refine bodyPost_ret (v := .agg (cCells W0 1 1 A L c)) (by simp [results, Tryz.results120, go_sem, hcZ]) rfl ?_
   rw [HRZ.out]
   refine ⟨_, rfl, ⟨[.int .i64 8, .string ⟨#[]⟩, .slice none 0 0, .slice W0 1 1, .slice none 0 0, .slice none 0 0, .slice none 0 0, .slice A L c, .slice none 0 0], rfl, cmd_rep.2 ⟨_, _, _, _, _, _, _, rfl, rep_nil _ _ _ _, ?_, rep_nil _ _ _ _, rep_nil _ _ _ _, rep_nil _ _ _ _, ?_, rep_nil _ _ _ _⟩, rfl⟩, (hP1).chg hC9 (by omega), (hC2).trans hC9 (fun k hk hl => by omega)⟩
   ·exact Rep.mono ((HW1).stay hC9 (fun k hk e => by omega)) (fun k hk _ => by omega)
   ·exact (Row.rep ((hR1).apart hC9 (fun k hk e => by have := ((hR1).2 k hk).1; omega))).mono (fun k hk _ => by omega)
  case false =>
   rw [q1] at hP1
   simp only [Bool.false_eq_true, if_false] at hP1
   have hb5 := blanks_le r5
   have HR2 : Hid (R = (patsF wd ((blanks r5).length + 1) [] (takeR [40] (blanks r5))).bind fun ps r1 => (caseBody wd ls fn cs ps r1).bind fun cs r3 => .ok (.mk 8 [] [] [wx] [] [] [] cs []) r3) := Lib.hid (by rw [HR1.out, q1, ← bind_bind]; rfl)
   have htk := take_le [40] (blanks r5)
   clear HR1 q1
   go_wp2_with fail
   have hY1 := row_new w5 (.cells #[.slice none 0 0, .slice none 0 0] 77)
   have hCa : Chg (fun _ => False) w5 (w5.alloc (.cells #[.slice none 0 0, .slice none 0 0] 77)) := (Chg.refl _ w5).alloc _
   have hP2 := hP1.chg hCa (fun e => e)
   have hX2 := row_chg hX1 hCa (fun e => e)
   have hZ2 := row_chg hZ1 hCa (fun e => e)
   have hC3 := hC2.trans hCa (fun _ h _ => h.elim)
   have HW2 := HW1.stay hCa (fun _ _ e => e)
   have hR2 := hR1.apart hCa (fun _ _ e => e)
   have hXY : X < w5.heap.size := row_lt hX1
   have hSY : ∀ k, S k → k < w5.heap.size := hR1.lt
   have hUs : (w5.alloc (.cells #[.slice none 0 0, .slice none 0 0] 77)).heap.size = w5.heap.size + 1 := by simp
   clear hCa hP1 hX1 hZ1 hC2 HW1 hR1
   generalize w5.alloc (.cells #[.slice none 0 0, .slice none 0 0] 77) = U5 at *
   generalize w5.heap.size = Y at *
   refine Calls.mono (take_calls g s _ d [40] U5 hP2 hs) ?_
   rintro e w6 ⟨rfl, hP3, hC4⟩
   have hY2 := row_chg hY1 hC4 (by omega)
   have hX3 := row_chg hX2 hC4 (by omega)
   have hZ3 := row_chg hZ2 hC4 (by omega)
   have hC5 := hC3.trans hC4 (fun _ h _ => h)
   have HW3 := HW2.stay hC4 (fun k hk e => by omega)
   have hR3 := hR2.stay hC4 (fun k h1 h2 h3 e => by omega)
   have hYl : Y < w6.heap.size := row_lt hY2
   clear hP2 hY1 hX2 hZ2 hC3 hC4 HW2 hR2
   generalize takeR [40] (blanks r5) = q0 at *
   generalize (sgn (blanks r5) == [40]) = fl at *
   go_wp2
   go_loopg [5] (q0.length + 1) (fun k fv wr => PatRel wd (fun ps r1 => (caseBody wd ls fn cs ps r1).bind fun cs r3 => .ok (.mk 8 [] [] [wx] [] [] [] cs []) r3) g Y s d R w6 q0.length k fv wr)
   case atStart => exact ⟨true, [], q0, (blanks r5).length + 1, none, 0, 0, _, rfl, rfl, (show Hid (R = (patsAt wd true ((blanks r5).length + 1) [] q0).bind _) from HR2), hP3, by omega, Nat.le_refl _, Nat.le_refl _, by omega, hY2, Row.none _ _ _ _ _, Chg.refl _ _, hYl⟩
   case round =>
    clear hP3 hY2 HR2
    obtain ⟨first, ps, q, f2, A2, c2, L2, T, rfl, hL2, HR, hP, hf2, hk2, hm2, hLk2, hY, hT, hCw, hYl2⟩ := hrel
    have hX4 := row_chg hX3 hCw (by omega)
    have hZ4 := row_chg hZ3 hCw (by omega)
    have hC6 := hC5.trans hCw (fun k hk hl => by omega)
    have HW4 := HW3.stay hCw (fun k hk e => by omega)
    have hR4 := hR3.apart hCw (fun k hk e => by have := hSY k hk; have := (hR3.2 k hk).1; omega)
    cases first
    case true =>
     obtain ⟨fm, rfl⟩ : ∃ n, f2 = n + 1 := ⟨f2 - 1, by omega⟩
     have HR3 : Hid (R = ((wd q).bind fun w r1 => patsRest wd fm (ps ++ [w]) r1).bind fun ps r1 => (caseBody wd ls fn cs ps r1).bind fun cs r3 => .ok (.mk 8 [] [] [wx] [] [] [] cs []) r3) := Lib.hid (by rw [HR.out, ← patsF_eq]; rfl)
     clear HR hX4 hZ4 hC6 HW4 hR4
     have hqq : q.length ≤ gk - 1 ∧ 1 ≤ gk := by simp at hk2; omega
     clear hk2
     have z1 := row_cells hY 0
     go_wp2
     refine wp_region_any (by kernel_rfl) ?_
     change wpAny _ _ _ _ _ _ _ (World.drew _)
     refine wpAny_take (i := 0) (v := .pointer (some ⟨Y, 0, none⟩)) rfl (by kernel_rfl) (by kernel_rfl) (by kernel_rfl) (fun _ _ _ h => h) (Or.inl ⟨by rfl, by intro w; go_simp⟩) ?_
     refine wpAny_take (i := 2) (v := .pointer (some ⟨g, 0, none⟩)) rfl (by kernel_rfl) (by kernel_rfl) (by kernel_rfl) (fun _ _ _ h => h) (Or.inl ⟨by rfl, by intro w; go_simp⟩) ?_
     simp only [Act.put, List.setIfInBounds_toArray, List.set_cons_zero, List.set_cons_succ]
     refine wpAny_load_ahead (fun w' => w'.cell? ⟨Y, 0, none⟩ = some (.slice A2 L2 c2)) (i := 1) (c := 3) (c2 := 4) (.slice A2 L2 c2) rfl rfl rfl (by decide) (by decide) (by kernel_rfl) (by kernel_rfl) (by kernel_rfl) (fun _ _ _ h => h) (by kernel_rfl) (by kernel_rfl) (by kernel_rfl) (by kernel_rfl) (by kernel_rfl) (Or.inl ⟨by rfl, by intro w hw; go_simp⟩) z1 ?_
     simp only [Act.put, List.setIfInBounds_toArray, List.set_cons_zero, List.set_cons_succ]
     refine wpOp_step rfl (fun K hK => ?_)
     go_simp
     refine Calls.mono (hwd g s q _ (hP.drewN 1) hs (by omega)) ?_
     rintro e w8 hp
     rcases ppost_cases hp with ⟨x, r2, v, hXx, rfl, ⟨A3, c3, rfl, hcs⟩, hP8, hC11⟩ | ⟨le, ce, ke, hXx, hk, hl, rfl, hC11⟩
     rotate_left
     ·exact ⟨rfl, by rw [HR3.out, hXx]; exact ⟨ke, hk, hl, rfl, (hC5.trans (hCw.drewN 1) (fun k hk hl => by omega)).trans hC11 (fun _ h _ => h)⟩⟩
     clear hp
     have hr2 := hlt.lt hXx
     have HR4 : Hid (R = (patsRest wd fm (ps ++ [x]) r2).bind fun ps r1 => (caseBody wd ls fn cs ps r1).bind fun cs r3 => .ok (.mk 8 [] [] [wx] [] [] [] cs []) r3) := Lib.hid (by rw [HR3.out, hXx]; rfl)
     have z2 := hC11.cell z1 (by simp; omega)
     refine hK _ _ ⟨z2, ?_⟩
     clear hK K
     refine wpOp_step rfl (fun K hK => ?_)
     go_simp
     refine hK _ _ ⟨by rw [World.cell?_alloc_some _ _ _ (by rw [z2]; rfl)]; exact z2, ?_⟩
     clear hK K
     refine wpAny_tail 5 _ rfl (by kernel_rfl) ?_
     change wpList _ _ _ [_, _, _] _ _
     have hY6 := row_chg (B := (· = g)) (w := wr.drew) hY hC11 (by omega)
     have hT6 := (hT.drew 1).stay hC11 (fun k h1 h2 h3 e => by omega)
     have hCw6 := (hCw.drewN 1).trans hC11 (fun k h _ => .inl h)
     have hN : wr.heap.size ≤ w8.heap.size := hC11.size
     have hTl : ∀ k, T k → k < wr.heap.size := hT.lt
     have HCS := Lib.hid hcs
     clear hcs hXx HR3 hY hT hCw hC11 hP z1 z2
     go_wp2_with (at_builtin; go_must (refine row_append Y Y T wr.heap.size rfl _ _ _ _ _ 1 24 rfl Tryz.underlying45 info_Parts rfl (by decide) (by decide) (.slice A2 L2 c2) (ps.map wordD) (wordD x) _ rfl (by simp [Act.eval]) HCS.out rfl hN hYl2 hYl2 hT6 hTl (by rw [List.length_map]; omega) ?_))
     intro A4 c4 w9 T4 hT9 hTT hC13
     have e1 : L2 + 1 = (ps ++ [x]).length := by rw [List.length_append, hL2]; rfl
     have e2 : ps.map wordD ++ [wordD x] = (ps ++ [x]).map wordD := by simp
     rw [e1, e2] at hT9
     rw [e1]
     generalize hL3 : (ps ++ [x]).length = L3 at hT9 ⊢
     have hLk3 : L3 + r2.length ≤ 8193 := by omega
     have hY7 := row_chg hY6 hC13 (fun h => (hT6.2 Y h).2.1 rfl)
     have hP9 := hP8.chg hC13 (fun h => by have := (hT6.2 _ h).1; omega)
     have hCw7 := hCw6.trans hC13 (fun k hk hl => .inr (by have := (hT6.2 _ hk).1; omega))
     have hcY := row_cells hY7
     have hfY := row_free hY7
     have hCY := setCell_chg w9 Y 0 (.slice A4 L3 c4)
     have hY8 := row_set hY7 0 (.slice A4 L3 c4)
     have hP10 := hP9.chg hCY (by omega)
     have hCw8 := hCw7.trans hCY (fun k hk hl => .inr (by omega))
     have hT10 := hT9.apart hCY (fun k hk e => (hT9.2 k hk).2.1 e)
     have hYl9 : Y < (w9.setCell ⟨Y, 0, none⟩ (.slice A4 L3 c4)).heap.size := row_lt hY8
     simp only [List.setIfInBounds_toArray, List.set_cons_zero, List.set_cons_succ] at hY8
     clear hY6 hT6 hCw6 hN hTl HCS hP8 hC13 hTT hT9 hP9 hCw7 hY7
     go_wp2
     go_roundg (gk - 1)
     case measure => omega
     case rel => exact ⟨false, ps ++ [x], r2, fm, _, _, _, _, rfl, hL3, HR4, hP10, by omega, by simp; omega, by omega, hLk3, hY8, hT10, hCw8, hYl9⟩
    case false =>
     have hbq := blanks_le q
     go_wp2_with fail
     refine Calls.mono (take_calls g s q d [124] wr hP hs) ?_
     rintro e w7 ⟨rfl, hP4, hC7⟩
     have hY5 := row_chg hY hC7 (by omega)
     have hT5 := hT.stay hC7 (fun k h1 h2 h3 e => by omega)
     have hsz7 := hC7.size
     cases q2 : sgn q == [124]
     case true =>
      have hsl := sgn_len q2
      rw [takeR, q2] at hP4
      simp only [if_true, List.length_cons, List.length_nil, Nat.zero_add] at hP4 hsl
      obtain ⟨fm, rfl⟩ : ∃ n, f2 = n + 1 := ⟨f2 - 1, by omega⟩
      have HR3 : Hid (R = ((wd ((blanks q).drop 1)).bind fun w r1 => patsRest wd fm (ps ++ [w]) r1).bind fun ps r1 => (caseBody wd ls fn cs ps r1).bind fun cs r3 => .ok (.mk 8 [] [] [wx] [] [] [] cs []) r3) := Lib.hid (by rw [HR.out, ← patsF_eq]; simp only [patsAt, patsRest, q2, if_true]; rfl)
      have hCw2 := hCw.trans hC7 (fun k hk _ => .inl hk)
      have hql : ((blanks q).drop 1).length + 1 ≤ q.length := by rw [List.length_drop]; omega
      clear HR q2 hX4 hZ4 hC6 HW4 hR4 hY hT hCw hC7 hP
      have hY := hY5
      have hT := hT5
      have hCw := hCw2
      have hP := hP4
      have hYl3 : Y < w7.heap.size := by omega
      clear hY5 hT5 hCw2 hP4 hYl2
      have hYl2 := hYl3
      simp only [Bool.false_eq_true, if_false, Nat.add_zero] at hk2
      have hqq : ((blanks q).drop 1).length ≤ gk - 1 ∧ 1 ≤ gk := by omega
      have hf2' : ((blanks q).drop 1).length < fm + 1 := by omega
      have hm2' : ((blanks q).drop 1).length ≤ q0.length := by omega
      have hLk2' : L2 + ((blanks q).drop 1).length ≤ 8193 := by omega
      clear hf2 hm2 hLk2 hk2 hql hbq hsl
      have hf2 := hf2'
      have hm2 := hm2'
      have hLk2 := hLk2'
      clear hf2' hm2' hLk2'
      generalize (blanks q).drop 1 = q at *
      generalize w7 = wr at *
      have z1 := row_cells hY 0
      go_wp2
      refine wp_region_any (by kernel_rfl) ?_
      change wpAny _ _ _ _ _ _ _ (World.drew _)
      refine wpAny_take (i := 0) (v := .pointer (some ⟨Y, 0, none⟩)) rfl (by kernel_rfl) (by kernel_rfl) (by kernel_rfl) (fun _ _ _ h => h) (Or.inl ⟨by rfl, by intro w; go_simp⟩) ?_
      refine wpAny_take (i := 2) (v := .pointer (some ⟨g, 0, none⟩)) rfl (by kernel_rfl) (by kernel_rfl) (by kernel_rfl) (fun _ _ _ h => h) (Or.inl ⟨by rfl, by intro w; go_simp⟩) ?_
      simp only [Act.put, List.setIfInBounds_toArray, List.set_cons_zero, List.set_cons_succ]
      refine wpAny_load_ahead (fun w' => w'.cell? ⟨Y, 0, none⟩ = some (.slice A2 L2 c2)) (i := 1) (c := 3) (c2 := 4) (.slice A2 L2 c2) rfl rfl rfl (by decide) (by decide) (by kernel_rfl) (by kernel_rfl) (by kernel_rfl) (fun _ _ _ h => h) (by kernel_rfl) (by kernel_rfl) (by kernel_rfl) (by kernel_rfl) (by kernel_rfl) (Or.inl ⟨by rfl, by intro w hw; go_simp⟩) z1 ?_
      simp only [Act.put, List.setIfInBounds_toArray, List.set_cons_zero, List.set_cons_succ]
      refine wpOp_step rfl (fun K hK => ?_)
      go_simp
      refine Calls.mono (hwd g s q _ (hP.drewN 1) hs (by omega)) ?_
      rintro e w8 hp
      rcases ppost_cases hp with ⟨x, r2, v, hXx, rfl, ⟨A3, c3, rfl, hcs⟩, hP8, hC11⟩ | ⟨le, ce, ke, hXx, hk, hl, rfl, hC11⟩
      rotate_left
      ·exact ⟨rfl, by rw [HR3.out, hXx]; exact ⟨ke, hk, hl, rfl, (hC5.trans (hCw.drewN 1) (fun k hk hl => by omega)).trans hC11 (fun _ h _ => h)⟩⟩
      clear hp
      have hr2 := hlt.lt hXx
      have HR4 : Hid (R = (patsRest wd fm (ps ++ [x]) r2).bind fun ps r1 => (caseBody wd ls fn cs ps r1).bind fun cs r3 => .ok (.mk 8 [] [] [wx] [] [] [] cs []) r3) := Lib.hid (by rw [HR3.out, hXx]; rfl)
      have z2 := hC11.cell z1 (by simp; omega)
      refine hK _ _ ⟨z2, ?_⟩
      clear hK K
      refine wpOp_step rfl (fun K hK => ?_)
      go_simp
      refine hK _ _ ⟨by rw [World.cell?_alloc_some _ _ _ (by rw [z2]; rfl)]; exact z2, ?_⟩
      clear hK K
      refine wpAny_tail 5 _ rfl (by kernel_rfl) ?_
      change wpList _ _ _ [_, _, _] _ _
      have hY6 := row_chg (B := (· = g)) (w := wr.drew) hY hC11 (by omega)
      have hT6 := (hT.drew 1).stay hC11 (fun k h1 h2 h3 e => by omega)
      have hCw6 := (hCw.drewN 1).trans hC11 (fun k h _ => .inl h)
      have hN : wr.heap.size ≤ w8.heap.size := hC11.size
      have hTl : ∀ k, T k → k < wr.heap.size := hT.lt
      have HCS := Lib.hid hcs
      clear hcs hXx HR3 hY hT hCw hC11 hP z1 z2
      go_wp2_with (at_builtin; go_must (refine row_append Y Y T wr.heap.size rfl _ _ _ _ _ 1 24 rfl Tryz.underlying45 info_Parts rfl (by decide) (by decide) (.slice A2 L2 c2) (ps.map wordD) (wordD x) _ rfl (by simp [Act.eval]) HCS.out rfl hN hYl2 hYl2 hT6 hTl (by rw [List.length_map]; omega) ?_))
      intro A4 c4 w9 T4 hT9 hTT hC13
      have e1 : L2 + 1 = (ps ++ [x]).length := by rw [List.length_append, hL2]; rfl
      have e2 : ps.map wordD ++ [wordD x] = (ps ++ [x]).map wordD := by simp
      rw [e1, e2] at hT9
      rw [e1]
      generalize hL3 : (ps ++ [x]).length = L3 at hT9 ⊢
      have hLk3 : L3 + r2.length ≤ 8193 := by omega
      have hY7 := row_chg hY6 hC13 (fun h => (hT6.2 Y h).2.1 rfl)
      have hP9 := hP8.chg hC13 (fun h => by have := (hT6.2 _ h).1; omega)
      have hCw7 := hCw6.trans hC13 (fun k hk hl => .inr (by have := (hT6.2 _ hk).1; omega))
      have hcY := row_cells hY7
      have hfY := row_free hY7
      have hCY := setCell_chg w9 Y 0 (.slice A4 L3 c4)
      have hY8 := row_set hY7 0 (.slice A4 L3 c4)
      have hP10 := hP9.chg hCY (by omega)
      have hCw8 := hCw7.trans hCY (fun k hk hl => .inr (by omega))
      have hT10 := hT9.apart hCY (fun k hk e => (hT9.2 k hk).2.1 e)
      have hYl9 : Y < (w9.setCell ⟨Y, 0, none⟩ (.slice A4 L3 c4)).heap.size := row_lt hY8
      simp only [List.setIfInBounds_toArray, List.set_cons_zero, List.set_cons_succ] at hY8
      clear hY6 hT6 hCw6 hN hTl HCS hP8 hC13 hTT hT9 hP9 hCw7 hY7
      go_wp2
      go_roundg (gk - 1)
      case measure => omega
      case rel => exact ⟨false, ps ++ [x], r2, fm, _, _, _, _, rfl, hL3, HR4, hP10, by omega, by simp; omega, by omega, hLk3, hY8, hT10, hCw8, hYl9⟩
     case false =>
      rw [takeR, q2] at hP4
      simp only [Bool.false_eq_true, if_false] at hP4
      have HR3 : Hid (R = (caseBody wd ls fn cs ps (blanks q)).bind fun cs r3 => .ok (.mk 8 [] [] [wx] [] [] [] cs []) r3) := Lib.hid (by rw [HR.out]; simp only [patsAt, patsRest, q2, Bool.false_eq_true, if_false]; rfl)
      have hX5 := row_chg hX4 hC7 (by omega)
      have hZ5 := row_chg hZ4 hC7 (by omega)
      have hC8 := hC6.trans hC7 (fun _ h _ => h)
      have HW5 := HW4.stay hC7 (fun k hk e => by omega)
      have hR5 := hR4.stay hC7 (fun k h1 h2 h3 e => by omega)
      clear HR q2 hX4 hZ4 hC6 HW4 hR4 hY hT hCw hC7 hP hX3 hZ3 hC5 HW3 hR3
      rw [caseBody] at HR3
      go_wp2_with fail
      have hqb : (blanks q).length ≤ r5.length := by omega
      generalize blanks q = b at *
      refine Calls.mono (want_calls g s b d [41] w7 hP4 hs) ?_
      rintro e w8 hp
      have HR4 : Hid (R = (wantP [41] b).bind fun _ r2 => ((if over (lines r2) then .ok [] (blanks (lines r2)) else ls (blanks (lines r2))).bind fun l r3 => caseEnd wd ls fn (cs ++ [.mk ps l]) r3).bind fun cs r3 => .ok (.mk 8 [] [] [wx] [] [] [] cs []) r3) := Lib.hid (by rw [HR3.out, bind_bind])
      clear HR3
      rcases ppost_cases hp with ⟨u, r6, v, hXu, rfl, hu, hP5, hC9⟩ | ⟨le, ce, ke, hXu, hke, hle', rfl, hC9⟩
      rotate_left
      ·go_wp2
       exact ⟨rfl, by rw [HR4.out, hXu]; exact ⟨ke, hke, hle', rfl, hC8.trans hC9 (fun _ h _ => h)⟩⟩
      clear hp
      have hu' : v = .tuple #[] := hu
      subst hu'
      have hr6 := le_want _ _ (by simp) _ _ hXu
      have HR5 : Hid (R = ((if over (lines r6) then .ok [] (blanks (lines r6)) else ls (blanks (lines r6))).bind fun l r3 => caseEnd wd ls fn (cs ++ [.mk ps l]) r3).bind fun cs r3 => .ok (.mk 8 [] [] [wx] [] [] [] cs []) r3) := Lib.hid (by rw [HR4.out, hXu]; rfl)
      have hY6 := row_chg hY5 hC9 (by omega)
      have hT6 := hT5.stay hC9 (fun k h1 h2 h3 e => by omega)
      have hX6 := row_chg hX5 hC9 (by omega)
      have hZ6 := row_chg hZ5 hC9 (by omega)
      have hC10 := hC8.trans hC9 (fun _ h _ => h)
      have HW6 := HW5.stay hC9 (fun k hk e => by omega)
      have hR6 := hR5.stay hC9 (fun k h1 h2 h3 e => by omega)
      have hl6 := lines_le r6
      clear HR4 hXu hu hY5 hT5 hX5 hZ5 hC8 hC9 HW5 hR5 hP4
      go_wp2_with fail
      refine Calls.mono (lines_calls g s r6 d w8 hP5 hs) ?_
      rintro e w9 ⟨rfl, hP6, hC11⟩
      have hY7 := row_chg hY6 hC11 (by omega)
      have hT7 := hT6.stay hC11 (fun k h1 h2 h3 e => by omega)
      have hX7 := row_chg hX6 hC11 (by omega)
      have hZ7 := row_chg hZ6 hC11 (by omega)
      have hC12 := hC10.trans hC11 (fun _ h _ => h)
      have HW7 := HW6.stay hC11 (fun k hk e => by omega)
      have hR7 := hR6.stay hC11 (fun k h1 h2 h3 e => by omega)
      generalize lines r6 = r7 at *
      have hb7 := blanks_le r7
      clear hY6 hT6 hX6 hZ6 hC10 hC11 HW6 hR6 hP5
      go_wp2_with fail
      refine Calls.mono (over_calls g s r7 d w9 hP6 hs) ?_
      rintro e w10 ⟨rfl, hP7, hC13⟩
      have hY8 := row_chg hY7 hC13 (by omega)
      have hT8 := hT7.stay hC13 (fun k h1 h2 h3 e => by omega)
      have hX8 := row_chg hX7 hC13 (by omega)
      have hZ8 := row_chg hZ7 hC13 (by omega)
      have hC14 := hC12.trans hC13 (fun _ h _ => h)
      have HW8 := HW7.stay hC13 (fun k hk e => by omega)
      have hR8 := hR7.stay hC13 (fun k h1 h2 h3 e => by omega)
      have hY8l : Y < w10.heap.size := row_lt hY8
      generalize blanks r7 = r8 at *
      clear hY7 hT7 hX7 hZ7 hC12 hC13 HW7 hR7 hP6
      go_upto_if 39 with fail
      go_cut [] (fun wx2 => ∃ (l : List Lst) (r9 : Bytes) (A5 : Option Addr) (c5 : Nat), Hid (R = (caseEnd wd ls fn (cs ++ [.mk ps l]) r9).bind fun cs r3 => .ok (.mk 8 [] [] [wx] [] [] [] cs []) r3) ∧ ParsR wx2 g s r9 d ∧ r9.length ≤ r8.length ∧
       wx2.heap[Y]? = some (.cells #[.slice A2 L2 c2, .slice A5 l.length c5] 77) ∧ Rep wx2 (fun k => Y ≤ k) (.sl 39 2 (Lst.ds l)) [.slice A5 l.length c5] ∧ Row wx2 Y Y 70 1 (.slice A2 L2 c2) (ps.map wordD) T ∧
       wx2.heap[X]? = some (.cells (cCells W0 1 1 A L c) 49) ∧ Row wx2 X X 77 2 (.slice A L c) (Cas.ds cs) S ∧ Rep wx2 (fun k => w.heap.size < k ∧ k < X) (wordsD [wx]) [.slice W0 1 1] ∧ Chg (· = g) w wx2 ∧ wx2.heap[w.heap.size]? = some (.cells zCmd 49))
      case first =>
       cases hov : over r7
       case true =>
        have HR6 : Hid (R = (caseEnd wd ls fn (cs ++ [.mk ps []]) r8).bind fun cs r3 => .ok (.mk 8 [] [] [wx] [] [] [] cs []) r3) := Lib.hid (by rw [HR5.out, hov]; rfl)
        clear HR5
        go_wp2_with fail
        go_meet
        exact ⟨[], r8, none, 0, HR6, hP7, Nat.le_refl _, hY8, rep_nil _ _ _ _, hT8, hX8, hR8, HW8, hC14, hZ8⟩
       case false =>
        have HR6 : Hid (R = (ls r8).bind fun l r3 => (caseEnd wd ls fn (cs ++ [.mk ps l]) r3).bind fun cs r3 => .ok (.mk 8 [] [] [wx] [] [] [] cs []) r3) := Lib.hid (by rw [HR5.out, hov, ← bind_bind]; rfl)
        clear HR5
        go_wp2_with fail
        refine Calls.mono (hls g s r8 _ hP7 hs (by omega)) ?_
        rintro e w11 hp
        rcases ppost_cases hp with ⟨l, r9, v, hXl, rfl, ⟨A5, c5, rfl, hO⟩, hP8, hC15⟩ | ⟨le, ce, ke, hXl, hke, hle', rfl, hC15⟩
        rotate_left
        ·go_wp2
         exact ⟨rfl, by rw [HR6.out, hXl]; exact ⟨ke, hke, hle', rfl, hC14.trans hC15 (fun _ h _ => h)⟩⟩
        clear hp
        have hr9 := hll _ _ _ hXl
        have HR7 : Hid (R = (caseEnd wd ls fn (cs ++ [.mk ps l]) r9).bind fun cs r3 => .ok (.mk 8 [] [] [wx] [] [] [] cs []) r3) := Lib.hid (by rw [HR6.out, hXl]; rfl)
        have hY9 := row_chg hY8 hC15 (by omega)
        have hT9 := hT8.stay hC15 (fun k h1 h2 h3 e => by omega)
        have hX9 := row_chg hX8 hC15 (by omega)
        have hZ9 := row_chg hZ8 hC15 (by omega)
        have hC16 := hC14.trans hC15 (fun _ h _ => h)
        have HW9 := HW8.stay hC15 (fun k hk e => by omega)
        have hR9 := hR8.stay hC15 (fun k h1 h2 h3 e => by omega)
        have hcY := row_cells hY9
        have hfY := row_free hY9
        clear HR6 hXl hY8 hT8 hX8 hZ8 hC14 hC15 HW8 hR8 hP7
        go_wp2_with fail
        go_meet
        have hCY := setCell_chg w11 Y 1 (.slice A5 l.length c5)
        have hY10 := row_set hY9 1 (.slice A5 l.length c5)
        simp only [List.setIfInBounds_toArray, List.set_cons_zero, List.set_cons_succ] at hY10
        exact ⟨l, r9, A5, c5, HR7, hP8.chg hCY (by omega), hr9, hY10, (hO.stay hCY (fun k hk e => by omega)).mono (fun k hk _ => by omega), hT9.apart hCY (fun k hk e => (hT9.2 k hk).2.1 e), row_chg hX9 hCY (by omega), hR9.apart hCY (fun k hk e => by have := hSY k hk; omega), HW9.stay hCY (fun k hk e => by omega), hC16.trans hCY (fun k hk hl => by omega), row_chg hZ9 hCY (by omega)⟩
      case rest =>
       clear HR5 hY8 hT8 hX8 hZ8 hC14 HW8 hR8 hP7
       obtain ⟨l, r9, A5, c5, HR6, hP8, hr9, hY9, hO9, hT9, hX9, hR9, HW9, hC16, hZ9⟩ := hcut
       have hcX := row_cells hX9
       have hfX := row_free hX9
       have hcY := row_cells hY9
       have hYl9 : Y < wc.heap.size := row_lt hY9
       have hCas : Rep wc (fun k => Y ≤ k) (Cas.d (.mk ps l)) [.slice A2 L2 c2, .slice A5 l.length c5] := cas_rep.2 ⟨_, _, rfl, hT9.rep.mono (fun k hk _ => by omega), hO9⟩
       have HCS := Lib.hid hCas
       clear hCas hO9 hT9
       go_wp2_with (at_builtin; go_must (refine row_append X X S Y rfl _ _ _ _ _ 2 48 rfl Tryz.underlying46 info_Case rfl (by decide) (by decide) (.slice A L c) (Cas.ds cs) (Cas.d (.mk ps l)) _ rfl (by simp [Act.eval]) HCS.out rfl (by omega) hXY hXY hR9 hSY (by rw [Cas.ds_map, List.length_map]; omega) ?_))
       intro A6 c6 w12 S6 hR10 hSS hC17
       have e1 : (Cas.ds cs).length + 1 = (cs ++ [Cas.mk ps l]).length := by rw [Cas.ds_map]; simp
       have e2 : Cas.ds cs ++ [Cas.d (.mk ps l)] = Cas.ds (cs ++ [.mk ps l]) := by rw [Cas.ds_map, Cas.ds_map]; simp
       rw [e1, e2] at hR10
       rw [e1]
       generalize hL6 : (cs ++ [Cas.mk ps l]).length = L6 at hR10 ⊢
       have hLk6 : L6 ≤ L + 1 := by rw [← hL6, List.length_append, hL]; exact Nat.le_refl _
       have hX10 := row_chg hX9 hC17 (fun h => (hR9.2 X h).2.1 rfl)
       have hZ10 := row_chg hZ9 hC17 (fun h => by have := (hR9.2 _ h).1; omega)
       have hP9 := hP8.chg hC17 (fun h => by have := (hR9.2 _ h).1; omega)
       have HW10 := HW9.stay hC17 (fun k hk h => by have := (hR9.2 _ h).1; omega)
       have hC18 := hC16.trans hC17 (fun k hk hl => by have := (hR9.2 _ hk).1; omega)
       have hcX := row_cells hX10
       have hfX := row_free hX10
       have hCX := setCell_chg w12 X 7 (.slice A6 L6 c6)
       have hX11 := row_set hX10 7 (.slice A6 L6 c6)
       have hZ11 := row_chg hZ10 hCX (by omega)
       have hP10 := hP9.chg hCX (by omega)
       have HW11 := HW10.stay hCX (fun k hk e => by omega)
       have hC19 := hC18.trans hCX (fun k hk hl => by omega)
       have hR11 := hR10.apart hCX (fun k hk e => (hR10.2 k hk).2.1 e)
       simp only [cCells, List.setIfInBounds_toArray, List.set_cons_zero, List.set_cons_succ] at hX11
       clear hX9 hZ9 hP8 HW9 hC16 hC17 hR9 hR10 hX10 hZ10 hP9 HW10 hC18 hSS HCS hY9 hcY
       go_wp2_with fail
       clear hcX hfX hCX
       generalize w12.setCell ⟨X, 7, none⟩ (.slice A6 L6 c6) = V at *
       refine Calls.mono (take_calls g s r9 d [59, 59] V hP10 hs) ?_
       rintro e w13 ⟨rfl, hP11, hC20⟩
       have hX12 := row_chg hX11 hC20 (by omega)
       have hZ12 := row_chg hZ11 hC20 (by omega)
       have HW12 := HW11.stay hC20 (fun k hk e => by omega)
       have hC21 := hC19.trans hC20 (fun _ h _ => h)
       have hR12 := hR11.stay hC20 (fun k h1 h2 h3 e => by omega)
       have hb9 := blanks_le r9
       clear hX11 hZ11 HW11 hC19 hC20 hR11 hP10
       cases q3 : sgn r9 == [59, 59]
       case true =>
        have hsl := sgn_len q3
        rw [takeR, q3] at hP11
        simp only [if_true, List.length_cons, List.length_nil, Nat.zero_add, Nat.reduceAdd] at hP11 hsl
        have hl9 := lines_le ((blanks r9).drop 2)
        rw [List.length_drop] at hl9
        have HR7 : Hid (R = (casesF wd ls fn (cs ++ [.mk ps l]) (lines ((blanks r9).drop 2))).bind fun cs r3 => .ok (.mk 8 [] [] [wx] [] [] [] cs []) r3) := Lib.hid (by rw [HR6.out, caseEnd, q3]; rfl)
        clear HR6 q3
        go_wp2_with fail
        refine Calls.mono (lines_calls g s _ d w13 hP11 hs) ?_
        rintro e w14 ⟨rfl, hP12, hC22⟩
        have hX13 := row_chg hX12 hC22 (by omega)
        have hZ13 := row_chg hZ12 hC22 (by omega)
        have HW13 := HW12.stay hC22 (fun k hk e => by omega)
        have hC23 := hC21.trans hC22 (fun _ h _ => h)
        have hR13 := hR12.stay hC22 (fun k h1 h2 h3 e => by omega)
        clear hX12 hZ12 HW12 hC21 hC22 hR12 hP11
        go_wp2
        go_roundg (lines ((blanks r9).drop 2)).length
        case measure => omega
        case rel => exact ⟨cs ++ [.mk ps l], _, fn, _, _, _, _, hL6, HR7, hP12, by omega, Nat.le_refl _, by omega, by omega, hX13, hR13, HW13, hC23, hZ13⟩
       case false =>
        rw [takeR, q3] at hP11
        simp only [Bool.false_eq_true, if_false] at hP11
        have HR7 : Hid (R = (mustP [101, 115, 97, 99] (blanks r9)).bind fun _ r4 => .ok (.mk 8 [] [] [wx] [] [] [] (cs ++ [.mk ps l]) []) r4) := Lib.hid (by rw [HR6.out, caseEnd, q3, if_neg (by simp), bind_bind]; rfl)
        clear HR6 q3
        go_wp2_with fail
        refine Calls.mono (must_calls g s _ d [101, 115, 97, 99] (by simp) _ hP11 hs) ?_
        rintro e w14 hp
        rcases ppost_cases hp with ⟨u2, r10, v, hXu, rfl, hu, hP12, hC22⟩ | ⟨le, ce, ke, hXu, hke, hle', rfl, hC22⟩
        rotate_left
        ·go_wp2
         exact ⟨rfl, by rw [HR7.out, hXu]; exact ⟨ke, hke, hle', rfl, hC21.trans hC22 (fun _ h _ => h)⟩⟩
        clear hp
        have hu' : v = .tuple #[] := hu
        subst hu'
        have HRZ : Hid (R = .ok (.mk 8 [] [] [wx] [] [] [] (cs ++ [.mk ps l]) []) r10) := Lib.hid (by rw [HR7.out, hXu]; rfl)
        have hX13 := row_chg hX12 hC22 (by omega)
        have hZ13 := row_chg hZ12 hC22 (by omega)
        have HW13 := HW12.stay hC22 (fun k hk e => by omega)
        have hC23 := hC21.trans hC22 (fun _ h _ => h)
        have hR13 := hR12.stay hC22 (fun k h1 h2 h3 e => by omega)
        clear HR7 hXu hu hX12 hZ12 HW12 hC21 hC22 hR12 hP11
        have hcX := row_cells hX13
        have hcZ := row_cells hZ13
        have hfZ := row_free hZ13
        go_wp2
        have hC9 := chg9 w14 w.heap.size (.int .i64 8) (.string ⟨#[]⟩) (.slice none 0 0) (.slice W0 1 1) (.slice none 0 0) (.slice none 0 0) (.slice none 0 0) (.slice A6 L6 c6) (.slice none 0 0)
        refine bodyPost_ret (v := .agg (cCells W0 1 1 A6 L6 c6)) (by simp [results, Tryz.results120, go_sem, hcZ]) rfl ?_
        rw [HRZ.out]
        refine ⟨_, rfl, ⟨[.int .i64 8, .string ⟨#[]⟩, .slice none 0 0, .slice W0 1 1, .slice none 0 0, .slice none 0 0, .slice none 0 0, .slice A6 L6 c6, .slice none 0 0], rfl, cmd_rep.2 ⟨_, _, _, _, _, _, _, rfl, rep_nil _ _ _ _, ?_, rep_nil _ _ _ _, rep_nil _ _ _ _, rep_nil _ _ _ _, ?_, rep_nil _ _ _ _⟩, rfl⟩, (hP12).chg hC9 (by omega), (hC23).trans hC9 (fun k hk hl => by omega)⟩
        ·exact Rep.mono ((HW13).stay hC9 (fun k hk e => by omega)) (fun k hk _ => by omega)
        ·exact (Row.rep ((hR13).apart hC9 (fun k hk e => by have := ((hR13).2 k hk).1; omega))).mono (fun k hk _ => by omega)
end Go.Proofs.YtdfnkmiabmjolaaGreatDoor
