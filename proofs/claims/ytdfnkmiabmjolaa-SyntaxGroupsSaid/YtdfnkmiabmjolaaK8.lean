/- What a method comes to, by cases; append inside a region that draws; the forms of trees' cells. Plain laws: what is left behind a piece of a script is no longer than what was there. pipe. list. lists. -/
import Derived.Test.YtdfnkmiabmjolaaK7
import Derived.OrdersHeld
import Derived.StillTail
namespace Go.Proofs.Ytdfnkmiabmjolaa
open Go.RowKit
set_option linter.unusedVariables false
set_option linter.unusedSimpArgs false

theorem ppost_cases {α : Type} {w : World} {g : Nat} {s : ByteArray} {d : Int} {R : Rs α} {val : α → Value → World → Prop} {e : Ending} {w' : World} (h : PPost w g s d R val e w') :
    (∃ a rest v, R = .ok a rest ∧ e = .returned v ∧ val a v w' ∧ ParsR w' g s rest d ∧ Chg (· = g) w w') ∨ (∃ left c k, R = .err left c ∧ k ≤ s.size ∧ left = s.size - k ∧ e = .panicked (faultS k c) ∧ Chg (· = g) w w') := by
  cases R with
  | ok a r =>
    obtain ⟨v, h1, h2, h3, h4⟩ := h
    exact .inl ⟨a, r, v, rfl, h1, h2, h3, h4⟩
  | err l c =>
    obtain ⟨k, h1, h2, h3, h4⟩ := h
    exact .inr ⟨l, c, k, rfl, h1, h2, h3, h4⟩

theorem fail_deep {α : Type} {w : World} {g : Nat} {s : ByteArray} {d : Int} (d2 : Int) {b : Bytes} {x : Int} {val : α → Value → World → Prop} {e : Ending} {w' : World} (h : PPost w g s d (failS b x) val e w') : PPost w g s d2 (failS b x) val e w' := by
  unfold failS failP PPost at *
  by_cases hh : (b.length == 0 && x == 61) = true
  · rw [if_pos hh] at h ⊢; exact h
  · rw [if_neg hh] at h ⊢; exact h
/-- 'append(v, x)' at a step of a region that draws its order, x's cells laid in a new block ahead of it. -/
theorem own_append_step {P : Program} {W : World} {ops : Array Oper} {o : Oper} {a : Act} {K : Act → World → Prop} {Q : Exit → Act → World → Prop} {E : Prop} (S S2 : Nat → Prop) (hgd : o.guard = none) (s x : Operand) (t e : TypeId) (z : Value) (sz bytes : Nat)
    (ho : o.op = .call { callee := .builtin .append, args := #[s, x], argTypes := #[t, t] }) (ht : P.underlying t = some (.slice e))
    (hinfo : (P.info? e).map (fun i => (i.zero, i.size, i.bytes)) = some (some z, sz, bytes)) (hz : z.cells.size = sz) (hs0 : 0 < sz) (hb0 : 0 < bytes)
    (v : Value) (xs : List D) (d : D) (ys : List Value) (hs : a.eval s = v) (hx : a.eval x = .slice (some ⟨W.heap.size, 0, none⟩) 1 1) (hd : Rep W S2 d ys) (hys : ys.length = sz)
    (hS : ∀ k, S2 k → k < W.heap.size → S k ∧ some k ≠ v.ownBlock) (HO : Own W S e sz v xs) (hl : (xs.length + 1) * bytes ≤ 140737488355328)
    (h : ∀ v1 w1, Own w1 (fun k => S k ∨ W.heap.size ≤ k) e sz v1 (xs ++ [d]) → W.grownBy w1 v.ownBlock → (v1.ownBlock = v.ownBlock ∨ ∃ b, v1.ownBlock = some b ∧ W.heap.size ≤ b) → K (a.put o.dst v1) w1) :
    if Region.wanted o (yielded ops a.tmps) = true then Oper.wp P o a (W.alloc (.cells ys.toArray e)) K Q else E := by
  have hw : Region.wanted o (yielded ops a.tmps) = true := by simp [Region.wanted, hgd]
  rw [if_pos hw]
  obtain ⟨i0, hi, hz0, hz1, hz2⟩ := info_parts hinfo
  have hlt := fun k hk => Own.lt HO (k := k) hk
  obtain ⟨cs, h1, h2, h3⟩ := HO
  have hlen : xs.length + 1 ≤ 140737488355328 := Nat.le_trans (Nat.le_mul_of_pos_right _ hb0) hl
  obtain ⟨v1, w1, hr, hown, hg, _, hat⟩ := run_append_own_at (P := P) (W.alloc (.cells ys.toArray e)) 0 t o.type e i0 z sz bytes ht hi hz0 hz1 hz2 hz hs0 v xs.length cs (h1.alloc _) ⟨W.heap.size, 0, none⟩ 1 1 ys (by rw [hys]; simp)
    (by simpa using World.news_of_block (cs := ys.toArray) (t := e) (fr := (0, 0)) (heap_alloc_new W (.cells ys.toArray e))) (Rep.one _ _ hd) (by simp only [maxLen]; omega) hl (by simp)
  have hg' : W.grownBy w1 v.ownBlock := World.grownBy.trans (World.grownBy_alloc W _ _) hg
  have hat' : v1.ownBlock = v.ownBlock ∨ ∃ b, v1.ownBlock = some b ∧ W.heap.size ≤ b := by
    rcases hat with hat | hat
    · exact .inl hat
    · exact .inr ⟨_, hat, by simp⟩
  unfold Oper.wp execOp
  simp only [ho, resolve, invoke, builtin, Sem.run_bind, Sem.run_pure, Result.andThen_ok, List.map_toArray, List.map_cons, List.map_nil, hs, hx, hr]
  refine h v1 w1 ⟨cs ++ ys, by simpa using hown, fun k hk => ?_, ?_⟩ hg' hat'
  · rcases hat' with hat | ⟨b, hb, hle⟩
    · exact .inl (h2 k (hat ▸ hk))
    · rw [hb] at hk
      cases hk
      exact .inr hle
  · have ne : ∀ k, k < W.heap.size → some k ≠ v.ownBlock → some k ≠ v1.ownBlock := by
      intro k hk hn
      rcases hat' with hat | ⟨b, hb, hle⟩
      · rw [hat]; exact hn
      · rw [hb]; intro e; cases e; omega
    have sm : ∀ {T : Nat → Prop}, (∀ k, T k → k < W.heap.size → some k ≠ v.ownBlock) → Same T W w1 := fun hT k hk hl => hg'.block k hl (hT k hk hl)
    refine RepE.snoc (RepE.move (sm (fun k hk _ => hk.2)) (fun k hk hl => ⟨.inl hk.1, ne k hl hk.2⟩) _ _ _ h3) hys (Rep.move (sm (fun k hk hl => (hS k hk hl).2)) (fun k hk hl => ⟨.inl (hS k hk hl).1, ne k hl (hS k hk hl).2⟩) _ _ hd)

theorem setCell_chg (w : World) (X i : Nat) (v : Value) : Chg (· = X) w (w.setCell ⟨X, i, none⟩ v) := (Chg.refl (· = X) w).setCell (fun _ => rfl) v
/-- append of one element to a row of the call's own: the row that comes of it, and what has changed. N: a block from which on all are newer than the row. -/
theorem own_append2 {P : Program} {W : World} {ops : Array Oper} {rest : List Oper} {o : Oper} {a : Act} {Q : Exit → Act → World → Prop} (S : Nat → Prop) (N : Nat) (hgd : o.guard = none) (s x : Operand) (t e : TypeId) (z : Value) (sz bytes : Nat)
    (ho : o.op = .call { callee := .builtin .append, args := #[s, x], argTypes := #[t, t] }) (ht : P.underlying t = some (.slice e))
    (hinfo : (P.info? e).map (fun i => (i.zero, i.size, i.bytes)) = some (some z, sz, bytes)) (hz : z.cells.size = sz) (hs0 : 0 < sz) (hb0 : 0 < bytes)
    (v : Value) (xs : List D) (d : D) (ys : List Value) (hs : a.eval s = v) (hx : a.eval x = .slice (some ⟨W.heap.size, 0, none⟩) 1 1) (hd : Rep W (fun k => N ≤ k) d ys) (hys : ys.length = sz)
    (hS : ∀ k, N ≤ k → S k) (hN : N ≤ W.heap.size) (hv : ∀ k, v.ownBlock = some k → k < N) (HO : Own W S e sz v xs) (hl : (xs.length + 1) * bytes ≤ 140737488355328)
    (h : ∀ A c w1, Own w1 S e sz (.slice A (xs.length + 1) c) (xs ++ [d]) → Chg (fun k => some k = v.ownBlock) W w1 → wpList P ops Q rest (a.put o.dst (.slice A (xs.length + 1) c)) w1) :
    wpList P ops Q (o :: rest) a (W.alloc (.cells ys.toArray e)) := by
  refine own_append S (fun k => N ≤ k) hgd s x t e z sz bytes ho ht hinfo hz hs0 hb0 v xs d ys hs hx hd hys (fun k hk _ => ⟨hS k hk, fun e => by have := hv k e.symm; omega⟩) HO hl ?_
  intro v1 w1 hO hg _
  have hO' : Own w1 S e sz v1 (xs ++ [d]) := hO.mono (fun k hk _ => hk.elim id (fun hk => hS k (by omega)))
  obtain ⟨A, c, rfl, _, _⟩ := hO'.form
  simp only [List.length_append, List.length_cons, List.length_nil, Nat.zero_add] at hO' ⊢
  exact h A c w1 hO' (Chg.of_grown hg)
/-- A load and a call are ready; behind the call a new row is laid: the load may be taken first, if behind both the cell holds what it held. -/
theorem wpAny_load_ahead {P : Program} {ops : Array Oper} {Q : Exit → Act → World → Prop} {md : Region.Mode} (S : World → Prop) {i c c2 : Nat} {oi oc oc2 : Oper} (v : Value) {fuel : Nat} {listed : Array Bool} {a : Act} {w : World} (hi : ops[i]? = some oi) (hc : ops[c]? = some oc) (hc2 : ops[c2]? = some oc2)
    (hne : i ≠ c) (hne2 : i ≠ c2) (hsel : Region.noSelect ops = true) (hap : oi.apart ops oc = true) (hap2 : oi.apart ops oc2 = true) (hQ : ∀ c a w, Q (.panic c) (a.put oi.dst v) w → Q (.panic c) a w) (hr : Region.ready md ops listed = [i, c])
    (hr1 : Region.ready md ops (listed.setIfInBounds i true) = [c]) (hr2 : Region.ready md ops (listed.setIfInBounds c true) = [i, c2]) (hr3 : Region.ready md ops ((listed.setIfInBounds i true).setIfInBounds c true) = [c2])
    (hr4 : Region.ready md ops ((listed.setIfInBounds c true).setIfInBounds c2 true) = [i]) (hy : YieldsIf P ops S oi v a) (hS : S w)
    (H : wpOp P ops Q c (fun a' w' => S w' ∧ wpOp P ops Q c2 (fun a'' w'' => S w'' ∧ wpAny P md ops Q fuel (((listed.setIfInBounds i true).setIfInBounds c true).setIfInBounds c2 true) a'' w'') a' w') (a.put oi.dst v) w) : wpAny P md ops Q (fuel + 3) listed a w := by
  have hsi := fun cs b => Region.noSelect_spec hsel i oi cs b hi
  have hsc := fun cs b => Region.noSelect_spec hsel c oc cs b hc
  have hsc2 := fun cs b => Region.noSelect_spec hsel c2 oc2 cs b hc2
  have e1 : (listed.setIfInBounds c true).setIfInBounds i true = (listed.setIfInBounds i true).setIfInBounds c true := Array.setIfInBounds_comm _ _ (Ne.symm hne)
  refine wpAny_all hr (by simp) ?_
  intro j hj
  simp only [List.mem_cons, List.not_mem_nil, or_false] at hj
  rcases hj with rfl | rfl
  · refine hy.wpOp hi hS (wpAny_all hr1 (by simp) ?_)
    intro k hk
    simp only [List.mem_cons, List.not_mem_nil, or_false] at hk
    subst hk
    refine wpOp_mono (fun a' w' h => wpAny_all hr3 (by simp) ?_) H
    intro k hk
    simp only [List.mem_cons, List.not_mem_nil, or_false] at hk
    subst hk
    exact wpOp_mono (fun a w h => h.2) h.2
  · refine wpOp_mono (fun a' w' h => ?_) (wpOp_putIf hc hap hsi hsc hQ hy H)
    obtain ⟨hy', hS', hW⟩ := h
    refine wpAny_all hr2 (by simp) ?_
    intro k hk
    simp only [List.mem_cons, List.not_mem_nil, or_false] at hk
    rcases hk with rfl | rfl
    · refine hy'.wpOp hi hS' ?_
      rw [e1]
      refine wpAny_all hr3 (by simp) ?_
      intro k hk
      simp only [List.mem_cons, List.not_mem_nil, or_false] at hk
      subst hk
      exact wpOp_mono (fun a w h => h.2) hW
    · refine wpOp_mono (fun a'' w'' h => ?_) (wpOp_putIf hc2 hap2 hsi hsc2 hQ hy' hW)
      obtain ⟨hy'', hS'', hW''⟩ := h
      refine wpAny_all hr4 (by simp) ?_
      intro k hk
      simp only [List.mem_cons, List.not_mem_nil, or_false] at hk
      subst hk
      refine hy''.wpOp hi hS'' ?_
      rw [Array.setIfInBounds_comm _ _ (Ne.symm hne2), e1]
      exact hW''
theorem wpAny_tail {P : Program} {Q : Exit → Act → World → Prop} {l : List Oper} (k g : Nat) {listed : Array Bool} {a : Act} {w : World} (hg : (l.drop k).length = g) (hB : Region.seqB .any l.toArray g k listed = true) (h : wpList P l.toArray Q (l.drop k) a w) : wpAny P .any l.toArray Q g listed a w := by
  subst hg
  exact wpAny_of_seq (md := .any) (l.drop k) k listed a w (fun j => by simp [List.getElem?_drop]) hB h
/-- A row that is laid with one element in it. -/
theorem own_one {W : World} {S2 : Nat → Prop} {e sz : Nat} {d : D} {ys : List Value} (hd : Rep W S2 d ys) (hys : ys.length = sz) : Own (W.alloc (.cells ys.toArray e)) (fun k => S2 k ∨ k = W.heap.size) e sz (.slice (some ⟨W.heap.size, 0, none⟩) 1 1) [d] := by
  refine ⟨ys, ⟨by simp [hys], .inr ⟨W.heap.size, 1, ys.toArray, rfl, Nat.zero_le _, heap_alloc_new W _, Nat.le_refl _, by simp [maxLen], by simp [hys], by simp [← hys]⟩⟩, fun k hk => ?_, ?_⟩
  · simp [Value.ownBlock] at hk
    exact .inr hk.symm
  · refine ⟨ys, [], by simp, hys, Rep.move (Same.alloc _ W _) (fun k hk hl => ⟨.inl hk, ?_⟩) _ _ hd, rfl⟩
    simp [Value.ownBlock]; omega
/-- A row of the call's own in a region of its own: behind block Z, not block X. -/
def Row (w : World) (Z X : Nat) (e sz : Nat) (v : Value) (xs : List D) (S : Nat → Prop) : Prop := Own w S e sz v xs ∧ ∀ k, S k → Z < k ∧ k ≠ X ∧ k < w.heap.size
theorem Row.stay {w w' : World} {Z X e sz : Nat} {v : Value} {xs : List D} {S B : Nat → Prop} (h : Row w Z X e sz v xs S) (hc : Chg B w w') (hB : ∀ k, Z < k → k ≠ X → k < w.heap.size → ¬ B k) : Row w' Z X e sz v xs S :=
  ⟨h.1.move (hc.same (fun k hk _ => hB k (h.2 k hk).1 (h.2 k hk).2.1 (h.2 k hk).2.2)) (fun _ h _ => h), fun k hk => ⟨(h.2 k hk).1, (h.2 k hk).2.1, Nat.lt_of_lt_of_le (h.2 k hk).2.2 hc.size⟩⟩
theorem Row.apart {w w' : World} {Z X e sz : Nat} {v : Value} {xs : List D} {S B : Nat → Prop} (h : Row w Z X e sz v xs S) (hc : Chg B w w') (hB : ∀ k, S k → ¬ B k) : Row w' Z X e sz v xs S :=
  ⟨h.1.stay hc hB, fun k hk => ⟨(h.2 k hk).1, (h.2 k hk).2.1, Nat.lt_of_lt_of_le (h.2 k hk).2.2 hc.size⟩⟩
theorem Row.drew {w : World} {Z X e sz : Nat} {v : Value} {xs : List D} {S : Nat → Prop} (h : Row w Z X e sz v xs S) (n : Nat) : Row (w.drewN n) Z X e sz v xs S := h.apart ((Chg.refl (fun _ => False) w).drewN n) (fun _ _ e => e)
theorem Row.form {w : World} {Z X e sz : Nat} {v : Value} {xs : List D} {S : Nat → Prop} (h : Row w Z X e sz v xs S) : ∃ A c, v = .slice A xs.length c := by
  obtain ⟨A, c, h1, _⟩ := h.1.form
  exact ⟨A, c, h1⟩
theorem Row.lt {w : World} {Z X e sz : Nat} {v : Value} {xs : List D} {S : Nat → Prop} (h : Row w Z X e sz v xs S) : ∀ k, S k → k < w.heap.size := fun k hk => (h.2 k hk).2.2
theorem Row.none (w : World) (Z X e sz : Nat) : Row w Z X e sz (.slice none 0 0) [] (fun _ => False) := ⟨Own.nil _ _ _ _, fun _ h => h.elim⟩
theorem Row.rep {w : World} {Z X e sz : Nat} {v : Value} {xs : List D} {S : Nat → Prop} (h : Row w Z X e sz v xs S) : Rep w (fun k => Z < k ∧ k ≠ X) (.sl e sz xs) [v] := h.1.rep.mono (fun k hk _ => ⟨(h.2 k hk).1, (h.2 k hk).2.1⟩)
/-- append to such a row. N: from here on all blocks are newer than the row. -/
theorem row_append {P : Program} {W : World} {ops : Array Oper} {rest : List Oper} {o : Oper} {a : Act} {Q : Exit → Act → World → Prop} (Z X : Nat) (S : Nat → Prop) (N : Nat) (hgd : o.guard = none) (s x : Operand) (t e : TypeId) (z : Value) (sz bytes : Nat)
    (ho : o.op = .call { callee := .builtin .append, args := #[s, x], argTypes := #[t, t] }) (ht : P.underlying t = some (.slice e))
    (hinfo : (P.info? e).map (fun i => (i.zero, i.size, i.bytes)) = some (some z, sz, bytes)) (hz : z.cells.size = sz) (hs0 : 0 < sz) (hb0 : 0 < bytes)
    (v : Value) (xs : List D) (d : D) (ys : List Value) (hs : a.eval s = v) (hx : a.eval x = .slice (some ⟨W.heap.size, 0, none⟩) 1 1) (hd : Rep W (fun k => N ≤ k) d ys) (hys : ys.length = sz)
    (hN : N ≤ W.heap.size) (hZ : Z < N) (hX : X < N) (HO : Row W Z X e sz v xs S) (hSN : ∀ k, S k → k < N) (hl : (xs.length + 1) * bytes ≤ 140737488355328)
    (h : ∀ A c w1 S', Row w1 Z X e sz (.slice A (xs.length + 1) c) (xs ++ [d]) S' → (∀ k, S' k → S k ∨ N ≤ k) → Chg S W w1 → wpList P ops Q rest (a.put o.dst (.slice A (xs.length + 1) c)) w1) :
    wpList P ops Q (o :: rest) a (W.alloc (.cells ys.toArray e)) := by
  refine own_append2 (fun k => S k ∨ N ≤ k) N hgd s x t e z sz bytes ho ht hinfo hz hs0 hb0 v xs d ys hs hx hd hys (fun k hk => .inr hk) hN (fun k hk => hSN k (HO.1.block hk)) (HO.1.mono (fun k hk _ => .inl hk)) hl ?_
  intro A c w1 hO hC
  have hC' : Chg S W w1 := hC.mono (fun k hk _ => HO.1.block hk.symm)
  exact h A c w1 _ ⟨hO.bound, fun k hk => by
    rcases hk with ⟨hk | hk, hl⟩
    · exact ⟨(HO.2 k hk).1, (HO.2 k hk).2.1, hl⟩
    · exact ⟨by omega, by omega, hl⟩⟩ (fun k hk => hk.1) hC'
theorem sl_form {w : World} {S : Nat → Prop} {e sz : Nat} {xs : List D} {v : Value} (h : Rep w S (.sl e sz xs) [v]) : ∃ A c, v = .slice A xs.length c := by
  obtain ⟨A, c, inner, h1, _⟩ := h
  exact ⟨A, c, by simpa using h1⟩
theorem cmd_form {w : World} {S : Nat → Prop} {c : Cmd} {cs : List Value} (h : Rep w S c.d cs) : ∃ k n A1 n1 c1 A2 n2 c2 A3 n3 c3 A4 n4 c4 A5 n5 c5 A6 n6 c6 A7 n7 c7,
    cs = [.int .i64 k, .string n, .slice A1 n1 c1, .slice A2 n2 c2, .slice A3 n3 c3, .slice A4 n4 c4, .slice A5 n5 c5, .slice A6 n6 c6, .slice A7 n7 c7] := by
  obtain ⟨k, n, xs, ws, co, bo, ot, ca, rs⟩ := c
  obtain ⟨v1, v2, v3, v4, v5, v6, v7, rfl, h1, h2, h3, h4, h5, h6, h7⟩ := cmd_rep.1 h
  obtain ⟨A1, c1, rfl⟩ := sl_form h1
  obtain ⟨A2, c2, rfl⟩ := sl_form h2
  obtain ⟨A3, c3, rfl⟩ := sl_form h3
  obtain ⟨A4, c4, rfl⟩ := sl_form h4
  obtain ⟨A5, c5, rfl⟩ := sl_form h5
  obtain ⟨A6, c6, rfl⟩ := sl_form h6
  obtain ⟨A7, c7, rfl⟩ := sl_form h7
  exact ⟨_, _, _, _, _, _, _, _, _, _, _, _, _, _, _, _, _, _, _, _, _, _, _, rfl⟩
theorem pip_form {w : World} {S : Nat → Prop} {c : Pip} {cs : List Value} (h : Rep w S c.d cs) : ∃ b A n c, cs = [.bool b, .slice A n c] := by
  obtain ⟨neg, l⟩ := c
  obtain ⟨v, rfl, h1⟩ := pip_rep.1 h
  obtain ⟨A, c, rfl⟩ := sl_form h1
  exact ⟨_, _, _, _, rfl⟩
theorem lst_form {w : World} {S : Nat → Prop} {c : Lst} {cs : List Value} (h : Rep w S c.d cs) : ∃ A n c A2 n2 c2, cs = [.slice A n c, .slice A2 n2 c2] := by
  obtain ⟨ps, os⟩ := c
  obtain ⟨v, v2, rfl, h1, h2⟩ := lst_rep.1 h
  obtain ⟨A, c, rfl⟩ := sl_form h1
  obtain ⟨A2, c2, rfl⟩ := sl_form h2
  exact ⟨_, _, _, _, _, _, rfl⟩
theorem cas_form {w : World} {S : Nat → Prop} {c : Cas} {cs : List Value} (h : Rep w S c.d cs) : ∃ A n c A2 n2 c2, cs = [.slice A n c, .slice A2 n2 c2] := by
  obtain ⟨ps, os⟩ := c
  obtain ⟨v, v2, rfl, h1, h2⟩ := cas_rep.1 h
  obtain ⟨A, c, rfl⟩ := sl_form h1
  obtain ⟨A2, c2, rfl⟩ := sl_form h2
  exact ⟨_, _, _, _, _, _, rfl⟩
theorem rdr_form {w : World} {S : Nat → Prop} {c : Rdr} {cs : List Value} (h : Rep w S c.d cs) : ∃ f o A n c, cs = [.int .i64 f, .string o, .slice A n c] := by
  obtain ⟨f, o, wd⟩ := c
  obtain ⟨v, rfl, h1⟩ := rdr_rep.1 h
  obtain ⟨A, c, rfl⟩ := sl_form h1
  exact ⟨_, _, _, _, _, rfl⟩
theorem asg_form {w : World} {S : Nat → Prop} {c : Asg} {cs : List Value} (h : Rep w S c.d cs) : ∃ o A n c, cs = [.string o, .slice A n c] := by
  obtain ⟨o, wd⟩ := c
  obtain ⟨v, rfl, h1⟩ := asg_rep.1 h
  obtain ⟨A, c, rfl⟩ := sl_form h1
  exact ⟨_, _, _, _, rfl⟩
end Go.Proofs.Ytdfnkmiabmjolaa
namespace Go.Proofs.Ytdfnkmiabmjolaa
set_option linter.unusedVariables false
set_option linter.unusedSimpArgs false

def LeX {α : Type} (n : Nat) (X : Rs α) : Prop := ∀ v r', X = .ok v r' → r'.length ≤ n
def Le {α : Type} (F : Bytes → Rs α) : Prop := ∀ r, LeX r.length (F r)
theorem le_bind {α β : Type} {n m : Nat} {X : Rs α} {f : α → Bytes → Rs β} (h : LeX m X) (hf : ∀ a r, X = .ok a r → r.length ≤ m → LeX n (f a r)) : LeX n (X.bind f) := by
  intro v r' e
  cases X with
  | err l c => simp [Rs.bind] at e
  | ok a r => exact hf a r rfl (h a r rfl) v r' (by simpa [Rs.bind] using e)
theorem le_ok {α : Type} {n : Nat} {v : α} {r : Bytes} (h : r.length ≤ n) : LeX n (.ok v r : Rs α) := by
  intro v' r' e
  simp only [Rs.ok.injEq] at e
  exact e.2 ▸ h
theorem le_fail {α : Type} (n : Nat) (r : Bytes) (e : Int) : LeX n (failS r e : Rs α) := by
  intro v r' h
  unfold failS failP at h
  split at h <;> simp at h
theorem le_err {α : Type} (n l : Nat) (c : Int) : LeX n (.err l c : Rs α) := by intro v r' h; simp at h
theorem le_ite {α : Type} {n : Nat} {P : Prop} [Decidable P] {X Y : Rs α} (h1 : P → LeX n X) (h2 : ¬ P → LeX n Y) : LeX n (if P then X else Y) := by
  split
  · rename_i h; exact h1 h
  · rename_i h; exact h2 h
theorem le_up {α : Type} {n m : Nat} {X : Rs α} (h : LeX n X) (hm : n ≤ m) : LeX m X := fun v r' e => Nat.le_trans (h v r' e) hm

theorem linesF_le : ∀ (n : Nat) (r : Bytes), (linesF n r).length ≤ r.length
  | 0, r => by rw [linesF]; exact Nat.le_refl _
  | n + 1, r => by
    have hl := blanks_le r
    rw [linesF]
    cases hb : blanks r with
    | nil => simp
    | cons c u =>
      rw [hb] at hl
      dsimp only
      split
      · exact Nat.le_trans (linesF_le n u) (by simp at hl; omega)
      · exact hl
theorem lines_le (r : Bytes) : (lines r).length ≤ r.length := linesF_le _ _
theorem lines_lt {r : Bytes} (h : sgn r = [10]) : (lines r).length < r.length := by
  have hl := blanks_le r
  unfold sgn at h
  unfold lines
  rw [linesF]
  cases hb : blanks r with
  | nil => rw [hb] at h; simp [signs, opL] at h
  | cons c u =>
    rw [hb] at h hl
    have hc : c = 10 := by
      have hp : [10].isPrefixOf (c :: u) = true := by
        have key : ∀ os : List Bytes, opL os (c :: u) = [10] → [10].isPrefixOf (c :: u) = true := by
          intro os
          induction os with
          | nil => intro h; simp [opL] at h
          | cons o os ih =>
            intro h
            simp only [opL] at h
            split at h
            · rename_i h2; rw [h] at h2; exact h2
            · exact ih h
        exact key _ h
      simp at hp
      exact hp.symm
    subst hc
    simp only [BEq.rfl, if_true]
    exact Nat.lt_of_le_of_lt (linesF_le _ u) (by simp at hl; omega)
theorem peek_lt {r : Bytes} (h : (peek r).1 ≠ []) : (peek r).2.length < (blanks r).length := by
  unfold peek at h ⊢
  cases hs : scan (blanks r) with
  | err a e => rw [hs] at h; simp at h
  | ok l r' =>
    rw [hs] at h
    have hl := (scan_ok _ _ _ hs).2
    match l, h with
    | [], h => simp at h
    | [.mk k q t o w], h =>
      dsimp only at h ⊢
      split at h
      · rename_i hc
        rw [if_pos hc]
        simp only [Part.wts, Part.wt] at hl
        dsimp only
        omega
      · simp at h
    | a :: b :: l, h => simp at h
theorem peek_lt2 {r : Bytes} {s : Bytes} (hs : s ≠ []) (h : ((peek r).1 == s) = true) : (peek r).2.length < r.length := by
  have h1 : (peek r).1 = s := by simpa using h
  have := peek_lt (r := r) (by rw [h1]; exact hs)
  have := blanks_le r
  omega
theorem le_must (s : Bytes) (hs : s ≠ []) (r : Bytes) : LeX (r.length - 1) (mustP s r) :=
  le_ite (fun h => le_ok (by have := peek_lt2 hs h; omega)) (fun _ => le_fail _ _ _)
theorem sgn_len {r s : Bytes} (h : (sgn r == s) = true) : s.length ≤ (blanks r).length := by
  have hs : sgn r = s := by simpa using h
  have := sgn_le r
  rwa [hs] at this
theorem le_want (s r : Bytes) (hs : s ≠ []) : LeX (r.length - 1) (wantP s r) :=
  le_ite (fun h => le_ok (by
    have h1 := sgn_len h
    have h2 := blanks_le r
    have h3 : s.length ≠ 0 := fun e => hs (List.eq_nil_of_length_eq_zero e)
    simp; omega)) (fun _ => le_fail _ _ _)
theorem take_le (s r : Bytes) : (takeR s r).length ≤ r.length := by
  have := blanks_le r
  unfold takeR
  split
  · simp; omega
  · exact this
theorem fd_le (b : Bytes) : (fdP b).2.length ≤ b.length := by
  unfold fdP
  split
  · split
    · simp
    · exact Nat.le_refl _
  · exact Nat.le_refl _
/-- A word takes a byte at least. -/
def Lt {α : Type} (F : Bytes → Rs α) : Prop := ∀ r, LeX (r.length - 1) (F r) ∧ ∀ v r', F r = .ok v r' → 1 ≤ r.length
theorem Lt.le {α : Type} {F : Bytes → Rs α} (h : Lt F) : Le F := fun r => le_up (h r).1 (Nat.sub_le _ _)
theorem Lt.lt {α : Type} {F : Bytes → Rs α} (h : Lt F) {r : Bytes} {v : α} {r' : Bytes} (e : F r = .ok v r') : r'.length < r.length := by
  have h1 := (h r).1 v r' e
  have h2 := (h r).2 v r' e
  omega
theorem lt_of {α : Type} {F : Bytes → Rs α} (h : ∀ r v r', F r = .ok v r' → r'.length < r.length) : Lt F := fun r => ⟨fun v r' e => by have := h r v r' e; omega, fun v r' e => by have := h r v r' e; omega⟩
theorem lt_word (pe : Bytes → Int) : Lt (wordP pe) := lt_of (fun r v r' e => by
  have hb := blanks_le r
  unfold wordP at e
  cases hs : scan (blanks r) with
  | err a c =>
    rw [hs] at e
    unfold failP at e
    dsimp only at e
    split at e <;> simp at e
  | ok l r1 =>
    rw [hs] at e
    have hl := (scan_ok _ _ _ hs).2
    dsimp only at e
    split at e
    · unfold failS failP at e; split at e <;> simp at e
    · rename_i h1
      split at e
      · unfold failS failP at e; split at e <;> simp at e
      · simp only [Rs.ok.injEq] at e
        obtain ⟨_, rfl⟩ := e
        cases l with
        | nil =>
          simp only [List.isEmpty_nil, Bool.true_and, beq_iff_eq] at h1
          simp only [Part.wts] at hl
          omega
        | cons p l =>
          obtain ⟨k, q, t, o, w⟩ := p
          simp only [Part.wts, Part.wt] at hl
          omega)
section
variable {wd : Bytes → Rs (List Part)} {fn : Bytes → Bytes → Rs Cmd} {ls : Bytes → Rs (List Lst)} {lsd : Nat → Bytes → Rs (List Lst)} {br : Bytes → Rs Cmd} {comp : Bytes → Rs (Option Cmd)} {cmd : Bytes → Rs Cmd} {pipe : Bytes → Rs Pip} {list : Bytes → Rs Lst}
theorem redir_lt (hw : Lt wd) {r r' : Bytes} {x : Rdr} (e : redirP wd r = .ok (some x) r') : r'.length < r.length := by
  have hb := blanks_le r
  have hf := fd_le (blanks r)
  have hb2 := blanks_le (fdP (blanks r)).2
  unfold redirP at e
  dsimp only at e
  have key : ∀ (f : List Part → Rdr), ((wd ((blanks (fdP (blanks r)).2).drop (sgn (fdP (blanks r)).2).length)).bind fun w r' => .ok (some (f w)) r') = .ok (some x) r' → r'.length < r.length := by
    intro f e
    cases hq : wd ((blanks (fdP (blanks r)).2).drop (sgn (fdP (blanks r)).2).length) with
    | err a c => rw [hq] at e; simp [Rs.bind] at e
    | ok w r1 =>
      have := hw.lt hq
      rw [hq] at e
      simp only [Rs.bind, Rs.ok.injEq] at e
      rw [← e.2]
      simp at this; omega
  split at e
  · exact key _ e
  · split at e
    · exact key _ e
    · simp at e
theorem redir_le {r r' : Bytes} {o : Option Rdr} (hw : Lt wd) (e : redirP wd r = .ok o r') : r'.length ≤ r.length := by
  cases o with
  | some x => exact Nat.le_of_lt (redir_lt hw e)
  | none =>
    unfold redirP at e
    dsimp only at e
    have key : ∀ (f : List Part → Rdr) q, ((wd q).bind fun w r' => .ok (some (f w)) r') = .ok none r' → False := by
      intro f q e
      cases hq : wd q with
      | err a c => rw [hq] at e; simp [Rs.bind] at e
      | ok w r1 => rw [hq] at e; simp [Rs.bind] at e
    split at e
    · exact absurd e (key _ _)
    · split at e
      · exact absurd e (key _ _)
      · simp only [Rs.ok.injEq, true_and] at e
        exact e ▸ blanks_le r
theorem redir_none {r r' : Bytes} (e : redirP wd r = .ok none r') : r' = blanks r := by
  unfold redirP at e
  dsimp only at e
  have key : ∀ (f : List Part → Rdr) q, ((wd q).bind fun w r' => .ok (some (f w)) r') = .ok none r' → False := by
    intro f q e
    cases hq : wd q with
    | err a c => rw [hq] at e; simp [Rs.bind] at e
    | ok w r1 => rw [hq] at e; simp [Rs.bind] at e
  split at e
  · exact absurd e (key _ _)
  · split at e
    · exact absurd e (key _ _)
    · simp only [Rs.ok.injEq, true_and] at e
      exact e.symm
theorem le_redir (hw : Lt wd) : Le (redirP wd) := fun r o r' e => redir_le hw e
theorem le_redirs (hw : Lt wd) : ∀ (n : Nat) (rs : List Rdr), Le (redirsF wd n rs)
  | 0, _ => fun r => le_err _ _ _
  | n + 1, rs => fun r => by
    rw [redirsF]
    refine le_bind (le_redir hw r) (fun o r' _ h => ?_)
    cases o with
    | none => exact le_ok h
    | some y => exact le_up (le_redirs hw n _ r') h
theorem le_simple (hw : Lt wd) (hf : ∀ n, Le (fn n)) : ∀ (n : Nat) (xs : List Asg) (ws : List (List Part)) (rs : List Rdr), Le (simpleF wd fn n xs ws rs)
  | 0, _, _, _ => fun r => le_err _ _ _
  | n + 1, xs, ws, rs => fun r => by
    rw [simpleF]
    refine le_bind (le_redir hw r) (fun o b _ h => ?_)
    have hb := blanks_le b
    cases o with
    | some y => exact le_up (le_simple hw hf n _ _ _ b) h
    | none =>
      refine le_ite (fun _ => le_fail _ _ _) (fun _ => le_ite (fun _ => le_ite (fun _ => le_fail _ _ _) (fun _ => le_ok (by omega))) (fun _ => le_ite (fun hc => ?_) (fun _ => ?_)))
      · simp only [Bool.and_eq_true] at hc
        have hne : (peek b).1 ≠ [] := by
          intro e; rw [e] at hc; simp [nameB] at hc
        have := peek_lt hne
        exact le_up (hf _ _) (by simp; omega)
      · refine le_bind (hw.le _) (fun l b' _ h2 => ?_)
        cases assigned l with
        | none => exact le_up (le_simple hw hf n _ _ _ b') (by omega)
        | some a =>
          cases ws.isEmpty with
          | true => exact le_up (le_simple hw hf n _ _ _ b') (by omega)
          | false => exact le_up (le_simple hw hf n _ _ _ b') (by omega)
theorem le_loop (hl : Le ls) : Le (loopP ls) := fun r => le_bind (le_must _ (by simp) _) (fun _ r1 _ h1 => le_bind (hl _) (fun _ r2 _ h2 => le_bind (le_must _ (by simp) _) (fun _ r3 _ h3 => le_ok (by omega))))
theorem le_words (hw : Lt wd) : ∀ (n : Nat) (ws : List (List Part)), Le (wordsF wd n ws)
  | 0, _ => fun r => le_err _ _ _
  | n + 1, ws => fun r => by
    have hb := blanks_le r
    rw [wordsF]
    exact le_ite (fun _ => le_ok hb) (fun _ => le_bind (hw.le _) (fun _ r' _ h => le_up (le_words hw n _ r') (by omega)))
theorem le_each (hw : Lt wd) (hl : Le ls) : Le (eachP wd ls) := fun r => by
  unfold eachP
  refine le_ite (fun hn => ?_) (fun _ => le_fail _ _ _)
  have hne : (peek r).1 ≠ [] := by
    intro e; rw [e] at hn; simp [nameB] at hn
  have h1 := peek_lt hne
  have h0 := blanks_le r
  have h2 := lines_le (peek r).2
  have h3 := blanks_le (lines (peek r).2)
  refine le_bind (m := r.length) (le_ite (fun hb => ?_) (fun _ => le_ok (by omega))) (fun ws r1 _ h4 => ?_)
  · have h5 := peek_lt2 (by simp) hb
    exact le_up (le_words hw _ _ _) (by omega)
  · have h6 := take_le [59] r1
    have h7 := lines_le (takeR [59] r1)
    exact le_bind (le_loop hl _) (fun _ r2 _ h => le_ok (by omega))
theorem le_pats (hw : Lt wd) : ∀ (n : Nat) (ps : List (List Part)), Le (patsF wd n ps)
  | 0, _ => fun r => le_err _ _ _
  | n + 1, ps => fun r => by
    rw [patsF]
    refine le_bind (hw.le _) (fun w r1 _ h => le_ite (fun _ => le_up (le_pats hw n _ _) ?_) (fun _ => le_ok ?_))
    · have := blanks_le r1; simp; omega
    · have := blanks_le r1; omega
theorem le_cases (hw : Lt wd) (hl : Le ls) : ∀ (n : Nat) (cs : List Cas), Le (casesF wd ls n cs)
  | 0, _ => fun r => le_err _ _ _
  | n + 1, cs => fun r => by
    have hb := blanks_le r
    rw [casesF]
    refine le_ite (fun h => le_ok (by have := peek_lt2 (by simp) h; omega)) (fun _ => ?_)
    refine le_bind (le_pats hw _ _ _) (fun ps r1 _ h1 => le_bind (le_want _ _ (by simp)) (fun _ r2 _ h2 => ?_))
    have h3 := lines_le r2
    have h4 := blanks_le (lines r2)
    have h5 := take_le [40] (blanks r)
    refine le_bind (m := r.length) (le_ite (fun _ => le_ok (by omega)) (fun _ => le_up (hl _) (by omega))) (fun l r3 _ h6 => ?_)
    have h7 := blanks_le r3
    refine le_ite (fun _ => le_up (le_cases hw hl n _ _) ?_) (fun _ => le_bind (le_must _ (by simp) _) (fun _ r4 _ h => le_ok (by omega)))
    have h8 := lines_le ((blanks r3).drop 2)
    simp only [List.length_drop] at h8; omega
theorem le_choice (hw : Lt wd) (hl : Le ls) : Le (choiceP wd ls) := fun r => by
  refine le_bind (hw.le _) (fun w r1 _ h1 => le_bind (le_must _ (by simp) _) (fun _ r2 _ h2 => le_bind (le_cases hw hl _ _ _) (fun cs r3 _ h3 => le_ok ?_)))
  have := lines_le r1
  have := lines_le r2
  omega
theorem le_branch (hl : ∀ d, Le (lsd d)) : ∀ (n d : Nat), Le (branchF lsd n d)
  | 0, _ => fun r => le_err _ _ _
  | n + 1, d => fun r => by
    rw [branchF]
    refine le_bind (hl _ _) (fun c r1 _ h1 => le_bind (le_must _ (by simp) _) (fun _ r2 _ h2 => le_bind (hl _ _) (fun b r3 _ h3 => ?_)))
    have hb := blanks_le r3
    have hb2 := blanks_le (blanks r3)
    refine le_ite (fun h => le_ite (fun _ => le_fail _ _ _) (fun _ => ?_)) (fun _ => le_ite (fun h => ?_) (fun _ => ?_))
    · have := peek_lt2 (by simp) h
      exact le_bind (le_branch hl n _ _) (fun _ r4 _ h => le_ok (by omega))
    · have := peek_lt2 (by simp) h
      exact le_bind (hl _ _) (fun _ r4 _ h => le_bind (le_must _ (by simp) _) (fun _ r5 _ h => le_ok (by omega)))
    · exact le_bind (le_must _ (by simp) _) (fun _ r5 _ h => le_ok (by omega))
theorem le_comp (hw : Lt wd) (hl : Le ls) (hbr : Le br) : Le (compoundP wd ls br) := fun r => by
  have hb := blanks_le r
  have hb2 := blanks_le (blanks r)
  unfold compoundP
  refine le_ite (fun _ => ?_) (fun _ => ?_)
  · refine le_bind (hl _) (fun _ r1 _ h1 => le_bind (le_want _ _ (by simp)) (fun _ r2 _ h2 => le_ok ?_))
    simp at h1; omega
  · dsimp only
    refine le_ite (fun h => ?_) (fun _ => le_ite (fun h => ?_) (fun _ => le_ite (fun h => ?_) (fun _ => le_ite (fun h => ?_) (fun _ => le_ite (fun h => ?_) (fun _ => le_ok (by omega))))))
    · have := peek_lt2 (by simp) h
      exact le_bind (hl _) (fun _ r1 _ h1 => le_bind (le_must _ (by simp) _) (fun _ r2 _ h2 => le_ok (by omega)))
    · have := peek_lt2 (by simp) h
      exact le_bind (hbr _) (fun _ r1 _ h1 => le_ok (by omega))
    · have hlt : (peek (blanks r)).2.length < (blanks r).length := by
        simp only [Bool.or_eq_true] at h
        rcases h with h | h
        · exact peek_lt2 (by simp) h
        · exact peek_lt2 (by simp) h
      exact le_bind (hl _) (fun _ r1 _ h1 => le_bind (le_loop hl _) (fun _ r2 _ h2 => le_ok (by omega)))
    · have := peek_lt2 (by simp) h
      exact le_bind (le_each hw hl _) (fun _ r1 _ h1 => le_ok (by omega))
    · have := peek_lt2 (by simp) h
      exact le_bind (le_choice hw hl _) (fun _ r1 _ h1 => le_ok (by omega))
theorem le_function (hw : Lt wd) (hc : Le comp) (d : Nat) (name : Bytes) : Le (functionP wd d comp name) := fun r => by
  unfold functionP
  refine le_bind (le_want _ _ (by simp)) (fun _ r1 _ h1 => le_ite (fun _ => le_fail _ _ _) (fun _ => le_bind (hc _) (fun o r2 _ h2 => ?_)))
  have := lines_le r1
  cases o with
  | none => exact le_fail _ _ _
  | some c => exact le_bind (le_redirs hw _ _ _) (fun _ r3 _ h3 => le_ok (by omega))
theorem le_pipeF (hc : Le cmd) : ∀ (n : Nat) (neg : Bool) (cs : List Cmd), Le (pipeF cmd n neg cs)
  | 0, _, _ => fun r => le_err _ _ _
  | n + 1, neg, cs => fun r => by
    rw [pipeF]
    refine le_bind (hc _) (fun c r1 _ h1 => ?_)
    have hb := blanks_le r1
    refine le_ite (fun _ => le_up (le_pipeF hc n _ _ _) ?_) (fun _ => le_ok (by omega))
    have := lines_le ((blanks r1).drop 1)
    simp only [List.length_drop] at this; omega
theorem le_pipe (hc : Le cmd) : Le (pipeP cmd) := fun r => by
  have hb := blanks_le r
  exact le_ite (fun h => le_up (le_pipeF hc _ _ _ _) (by have := peek_lt2 (by simp) h; omega)) (fun _ => le_up (le_pipeF hc _ _ _ _) (by omega))
theorem le_listF (hp : Le pipe) : ∀ (n : Nat) (ps : List Pip) (os : List Bytes), Le (listF pipe n ps os)
  | 0, _, _ => fun r => le_err _ _ _
  | n + 1, ps, os => fun r => by
    rw [listF]
    refine le_bind (hp _) (fun c r1 _ h1 => ?_)
    have hb := blanks_le r1
    refine le_ite (fun _ => le_up (le_listF hp n _ _ _) ?_) (fun _ => le_ok (by omega))
    have := lines_le ((blanks r1).drop (sgn r1).length)
    simp only [List.length_drop] at this; omega
theorem le_listsF (hl : Le list) : ∀ (n : Nat) (first : Bool) (ls : List Lst), Le (listsF list n first ls)
  | 0, _, _ => fun r => le_err _ _ _
  | n + 1, first, ls => fun r => by
    have hb := blanks_le r
    rw [listsF]
    refine le_ite (fun _ => ?_) (fun _ => le_ok hb)
    refine le_bind (m := r.length) (le_up (hl _) (by split <;> omega)) (fun x r1 _ h1 => ?_)
    have hb1 := blanks_le r1
    have hb2 := blanks_le (blanks r1)
    have h2 := lines_le ((blanks r1).drop 1)
    have h3 := lines_le (blanks r1)
    simp only [List.length_drop] at h2
    exact le_ite (fun _ => le_up (le_listsF hl n _ _ _) (by omega)) (fun _ => le_ite (fun _ => le_up (le_listsF hl n _ _ _) (by omega)) (fun _ => le_ite (fun _ => le_up (le_listsF hl n _ _ _) (by omega)) (fun _ => le_fail _ _ _)))
end
structure LeAll (n : Nat) : Prop where
  lists : ∀ d, Le (lists n d)
  command : ∀ d, Le (command n d)
  compound : ∀ d, Le (compound n d)
  word : ∀ d, Lt (wordS n d)
theorem le_all : ∀ n, LeAll n
  | 0 => ⟨fun d r => by rw [lists]; exact le_err _ _ _, fun d r => by rw [command]; exact le_err _ _ _, fun d r => by rw [compound]; exact le_err _ _ _, fun d => lt_of (fun r v r' e => by rw [wordS] at e; simp at e)⟩
  | n + 1 => by
    obtain ⟨h1, h2, h3, h4⟩ := le_all n
    refine ⟨fun d r => ?_, fun d r => ?_, fun d r => ?_, fun d => lt_of (fun r v r' e => ?_)⟩
    · rw [lists]; exact le_ite (fun _ => le_fail _ _ _) (fun _ => le_up (le_listsF (le_listF (le_pipe (h2 _)) _ _ _) _ _ _ _) (lines_le r))
    · rw [command]
      refine le_bind (h3 _ _) (fun o r1 _ hh => ?_)
      cases o with
      | some c => exact le_bind (le_redirs (h4 _) _ _ _) (fun _ r2 _ hh2 => le_ok (by omega))
      | none => exact le_up (le_simple (h4 _) (fun n => le_function (h4 _) (h3 _) _ _) _ _ _ _ _) hh
    · rw [compound]; exact le_comp (h4 _) (h1 _) (le_branch (fun d => h1 d) _ _) r
    · rw [wordS] at e
      exact (lt_word _).lt e
end Go.Proofs.Ytdfnkmiabmjolaa
namespace Go.Proofs.Ytdfnkmiabmjolaa
open Go.RowKit
set_option linter.unusedVariables false
set_option linter.unusedSimpArgs false

/-- What command tells, so deep, of texts no longer than m. -/
def CmdSaid (cmd : Bytes → Rs Cmd) (d : Nat) (m : Nat) : Prop := ∀ (g : Nat) (s : ByteArray) (r : Bytes) (w : World), ParsR w g s r d → s.size ≤ 8192 → r.length ≤ m →
  Calls Try.prog 65 #[.pointer (some ⟨g, 0, none⟩)] w (PPost w g s d (cmd r) (isCmd w))

/-- What follows behind a command of a pipe. -/
def pipeRest (cmd : Bytes → Rs Cmd) (n : Nat) (neg : Bool) (cs : List Cmd) (r1 : Bytes) : Rs Pip := if sgn r1 == [124] then pipeF cmd n neg cs (lines ((blanks r1).drop 1)) else .ok (.mk neg cs) (blanks r1)
theorem pipeF_eq (cmd : Bytes → Rs Cmd) (n : Nat) (neg : Bool) (cs : List Cmd) (r : Bytes) : pipeF cmd (n + 1) neg cs r = (cmd r).bind fun c r1 => pipeRest cmd n neg (cs ++ [c]) r1 := by rw [pipeF]; rfl
def PipeRel (cmd : Bytes → Rs Cmd) (w : World) (g X : Nat) (s : ByteArray) (d : Nat) (neg : Bool) (R : Rs Pip) (m : Nat) (k : Nat) (wr : World) : Prop :=
  ∃ (cs : List Cmd) (r1 : Bytes) (A : Option Addr) (c L : Nat), cs.length = L ∧ Hid (R = pipeRest cmd k neg cs r1) ∧ ParsR wr g s r1 d ∧ r1.length ≤ k ∧ r1.length ≤ m ∧ cs.length + k ≤ 8193 ∧
    wr.heap[X]? = some (.cells #[.bool neg, .slice A L c] 47) ∧ Own wr (fun j => X < j) 53 9 (.slice A L c) (Cmd.ds cs) ∧ Chg (· = g) w wr ∧
    wr.heap[w.heap.size]? = some (.cells #[.bool false, .slice none 0 0] 47)

set_option pp.deepTerms true in
set_option pp.maxSteps 200000 in
set_option maxRecDepth 100000 in
set_option maxHeartbeats 4000000 in
theorem pipe_calls (cmd : Bytes → Rs Cmd) (d : Nat) (m : Nat) (hc : CmdSaid cmd d m) (hle : ∀ r c r1, cmd r = .ok c r1 → r1.length ≤ r.length) (g : Nat) (s : ByteArray) (r : Bytes) (w : World) (h : ParsR w g s r d) (hs : s.size ≤ 8192) (hm : r.length ≤ m) :
    Calls Try.prog 63 #[.pointer (some ⟨g, 0, none⟩)] w (PPost w g s d (pipeP cmd r) (isPip w)) := by
  have hgl := h.lt
  have hrl := h.len
  have hK := fun w h => key_calls g s r d [33] (by simp) w h hs
  have hR : ∃ n neg b, pipeP cmd r = pipeF cmd (n + 1) neg [] b ∧ r.length = n ∧ neg = ((peek r).1 == [33]) ∧ b = (if (peek r).1 == [33] then (peek r).2 else blanks r) := by
    refine ⟨r.length, (peek r).1 == [33], _, ?_, rfl, rfl, rfl⟩
    unfold pipeP
    cases (peek r).1 == [33] <;> rfl
  obtain ⟨n, neg, b, hR, hn, hneg, hb⟩ := hR
  rw [← hb, ← hneg] at hK
  have hbr : b.length ≤ r.length := by
    have := blanks_le r
    rw [hb]
    split
    · rename_i h1; have := peek_lt2 (by simp) h1; omega
    · exact this
  generalize pipeP cmd r = R at *
  have HR := Lib.hid hR; clear hR
  clear hneg hb
  go_enter Try.func63, Try.ntmps63
  have hC0 : Chg (· = g) w (w.alloc (.cells #[.bool false, .slice none 0 0] 47)) := (Chg.refl _ w).alloc _
  have hP0 := ParsR.chg (B := fun _ => False) h ((Chg.refl _ w).alloc (.cells #[.bool false, .slice none 0 0] 47)) (fun e => e)
  have hZ0 := row_new w (.cells #[.bool false, .slice none 0 0] 47)
  go_wp2_with fail
  refine Calls.mono (hK _ hP0) ?_
  rintro e w1 ⟨rfl, hP, hC⟩
  have hZ1 := row_chg hZ0 hC (by omega)
  have hC1 := hC0.trans hC (fun _ h _ => h)
  have hs0 : w.heap.size < w1.heap.size := by have := hC.size; simp at this; omega
  clear hK hZ0 hP0 hC0 hC
  go_wp2
  have hC2 := hC1.alloc (.cells #[.bool neg, .slice none 0 0] 47)
  have hP1 := ParsR.chg (B := fun _ => False) hP ((Chg.refl _ w1).alloc (.cells #[.bool neg, .slice none 0 0] 47)) (fun e => e)
  have hX1 := row_new w1 (.cells #[.bool neg, .slice none 0 0] 47)
  have hZ2 := row_alloc hZ1 (.cells #[.bool neg, .slice none 0 0] 47)
  have hsz : (w1.alloc (.cells #[.bool neg, .slice none 0 0] 47)).heap.size = w1.heap.size + 1 := by simp
  have hne : w1.heap.size ≠ g := by have := hP.lt; omega
  revert hP1 hX1 hZ2 hC2 hsz
  generalize w1.alloc (.cells #[.bool neg, .slice none 0 0] 47) = W
  intro hCW hP1 hX1 hZ2 hsz
  have z1 := row_cells hX1 1
  clear hP hZ1 hC1
  refine wp_region_any (by kernel_rfl) ?_
  change wpAny _ _ _ _ _ _ _ (World.drew _)
  refine wpAny_take (i := 0) (v := .pointer (some ⟨w1.heap.size, 1, none⟩)) rfl (by kernel_rfl) (by kernel_rfl) (by kernel_rfl) (fun _ _ _ h => h) (Or.inl ⟨by rfl, by intro w; go_simp⟩) ?_
  refine wpAny_take (i := 2) (v := .pointer (some ⟨g, 0, none⟩)) rfl (by kernel_rfl) (by kernel_rfl) (by kernel_rfl) (fun _ _ _ h => h) (Or.inl ⟨by rfl, by intro w; go_simp⟩) ?_
  simp only [Act.put, List.setIfInBounds_toArray, List.set_cons_zero, List.set_cons_succ]
  refine wpAny_load_ahead (fun w' => w'.cell? ⟨w1.heap.size, 1, none⟩ = some (.slice none 0 0)) (i := 1) (c := 3) (c2 := 4) (.slice none 0 0) rfl rfl rfl (by decide) (by decide) (by kernel_rfl) (by kernel_rfl) (by kernel_rfl) (fun _ _ _ h => h) (by kernel_rfl) (by kernel_rfl) (by kernel_rfl) (by kernel_rfl) (by kernel_rfl) (Or.inl ⟨by rfl, by intro w hw; go_simp⟩) z1 ?_
  simp only [Act.put, List.setIfInBounds_toArray, List.set_cons_zero, List.set_cons_succ]
  refine wpOp_step rfl (fun K hK => ?_)
  go_simp
  refine Calls.mono (hc g s b _ (hP1.drewN 1) hs (by omega)) ?_
  rintro e w2 hp
  rcases ppost_cases hp with ⟨x, r1, v, hX, rfl, ⟨cs1, rfl, hcs⟩, hP2, hC3⟩ | ⟨l, c, k, hX, hk, hl, rfl, hC3⟩
  rotate_left
  · exact ⟨rfl, by rw [HR.out, pipeF_eq, hX]; exact ⟨k, hk, hl, rfl, (hCW.drewN 1).trans hC3 (fun _ h _ => h)⟩⟩
  clear hp
  have hr1 := hle _ _ _ hX
  have HR2 : Hid (R = pipeRest cmd n neg ([] ++ [x]) r1) := Lib.hid (by rw [HR.out, pipeF_eq, hX]; rfl)
  have z2 := hC3.cell z1 hne
  have hXb := row_chg (B := (· = g)) (w := W.drew) hX1 hC3 hne
  obtain ⟨k, nn, A1, n1, c1, A2, n2, c2, A3, n3, c3, A4, n4, c4, A5, n5, c5, A6, n6, c6, A7, n7, c7, rfl⟩ := cmd_form hcs
  have hCX : Chg (· = g) w w2 := (hCW.drewN 1).trans hC3 (fun _ h _ => h)
  refine hK _ _ ⟨z2, ?_⟩
  clear hK K
  refine wpOp_step rfl (fun K hK => ?_)
  go_simp
  refine hK _ _ ⟨by rw [World.cell?_alloc_some _ _ _ (by rw [z2]; rfl)]; exact z2, ?_⟩
  clear hK K
  refine wpAny_tail 5 _ rfl (by kernel_rfl) ?_
  change wpList _ _ _ [_, _, _] _ _
  clear hX HR
  have HCS := Lib.hid hcs; clear hcs
  have hN : W.heap.size ≤ w2.heap.size := hC3.size
  have hgX := hP2.lt
  have hR2l : r1.length ≤ n := by omega
  go_wp2_with (at_builtin; refine own_append2 (fun j => w1.heap.size < j) W.heap.size rfl _ _ _ _ _ 9 192 rfl Try.underlying45 info_Cmd rfl (by decide) (by decide) (.slice none 0 0) (Cmd.ds []) x.d _ rfl (by simp [Act.eval]) HCS.out rfl (fun k hk => by omega) hN (by simp [Value.ownBlock]) (Own.nil _ _ _ _) (by decide) ?_)
  intro A c w3 hO hC4'
  have hC4 : Chg (fun j => w1.heap.size < j) w2 w3 := hC4'.mono (fun k hk _ => ((Own.nil _ _ _ _) : Own w2 (fun j => w1.heap.size < j) 53 9 _ (Cmd.ds [])).block hk.symm)
  clear hC4'
  have e1 : (Cmd.ds []).length + 1 = ([] ++ [x]).length := by rw [Cmd.ds_map]; simp
  have e2 : Cmd.ds [] ++ [x.d] = Cmd.ds ([] ++ [x]) := by rw [Cmd.ds_map, Cmd.ds_map]; simp
  rw [e1, e2] at hO
  rw [e1]
  generalize hL : ([] ++ [x]).length = L at hO ⊢
  have hXc := row_chg (B := (fun j => w1.heap.size < j)) (w := w2) hXb hC4 (by omega)
  have hZc := row_chg (B := (fun j => w1.heap.size < j)) (w := w2) (row_chg (B := (· = g)) (w := W.drew) hZ2 hC3 (by omega)) hC4 (by omega)
  have hP3 := hP2.chg hC4 (by omega)
  have hC5 : Chg (· = g) w w3 := hCX.trans hC4 (fun k hk hl => by omega)
  have hfr := row_free hXc 1
  have hcl := row_cells hXc 1
  clear HCS hXb hC4 hP2 hCX z2 z1 hX1 hZ2 hC3 hCW e1 e2
  go_wp2
  have hXd := row_set hXc 1 (.slice A L c)
  have hZd := row_far hZc (p := ⟨w1.heap.size, 1, none⟩) (by simp; omega) (.slice A L c)
  have hC6 := hC5.setCell (p := ⟨w1.heap.size, 1, none⟩) (fun h => by simp at h; omega) (.slice A L c)
  have hP4 := ParsR.chg (B := (· = w1.heap.size)) hP3 (setCell_chg w3 w1.heap.size 1 (.slice A L c)) (by omega)
  have hO2 := hO.stay (B := (· = w1.heap.size)) (setCell_chg w3 w1.heap.size 1 (.slice A L c)) (fun k hk e => by omega)
  clear hXc hZc hC5 hP3 hO hfr hcl
  go_loopg [] n (fun k wr => PipeRel cmd w g w1.heap.size s d neg R m k wr)
  case atStart => exact ⟨_, _, _, _, _, hL, HR2, hP4, hR2l, by omega, by simp only [List.length_append, List.length_cons, List.length_nil]; omega, hXd, hO2, hC6, hZd⟩
  case round =>
    clear HR2 hP4 hR2l hXd hO2 hC6 hZd
    clear hgX hN hr1 hsz hL
    obtain ⟨cs, r1, A, c, L, hL, HR, hP, hk1, hk2, hcl, hX1, hO, hCW, hZ2⟩ := hrel
    have hT := take_calls g s r1 d [124] wr hP hs
    cases hbar : sgn r1 == [124]
    case false =>
      have HR2 : Hid (R = .ok (.mk neg cs) (blanks r1)) := Lib.hid (by rw [HR.out, pipeRest, if_neg (by rw [hbar]; simp)])
      rw [takeR, hbar] at hT
      simp only [Bool.false_eq_true, if_false] at hT
      clear hbar HR
      go_wp2_with fail
      refine Calls.mono hT ?_
      rintro e w4 ⟨rfl, hP4, hC4⟩
      have hX2 := row_chg hX1 hC4 hne
      have hZ3 := row_chg hZ2 hC4 (by omega)
      have hO4 := hO.stay hC4 (fun k hk e => by omega)
      have hC5 := hCW.trans hC4 (fun _ h _ => h)
      have hcX := row_cells hX2
      have hcZ := row_cells hZ3
      have hfZ := row_free hZ3
      clear hT hX1 hZ2 hO hCW hC4
      go_wp2
      have hCZ : Chg (· = w.heap.size) w4 ((w4.setCell ⟨w.heap.size, 0, none⟩ (.bool neg)).setCell ⟨w.heap.size, 1, none⟩ (.slice A L c)) := (setCell_chg w4 w.heap.size 0 _).setCell (fun _ => rfl) _
      refine bodyPost_ret (v := .agg #[.bool neg, .slice A L c]) (by simp [results, Try.results63, go_sem, hcZ]) rfl ?_
      rw [HR2.out]
      refine ⟨_, rfl, ⟨[.bool neg, .slice A L c], rfl, pip_rep.2 ⟨_, rfl, ?_⟩⟩, ParsR.chg hP4 hCZ (by omega), hC5.trans hCZ (fun k hk hl => by omega)⟩
      exact ((hO4.stay hCZ (fun k hk e => by omega)).rep).mono (fun k hk _ => by omega)
    case true =>
      rw [takeR, hbar] at hT
      simp only [if_true] at hT
      have hbl := sgn_len hbar
      have hbl2 := blanks_le r1
      have hln := lines_le ((blanks r1).drop 1)
      simp only [List.length_drop, List.length_cons, List.length_nil] at hln hbl
      obtain ⟨gn, rfl⟩ : ∃ n, gk = n + 1 := ⟨gk - 1, by omega⟩
      have HR1 : Hid (R = pipeF cmd (gn + 1) neg cs (lines ((blanks r1).drop 1))) := Lib.hid (by rw [HR.out, pipeRest, if_pos hbar])
      clear HR hbar
      generalize hb' : lines ((blanks r1).drop 1) = b' at *
      go_wp2_with fail
      refine Calls.mono hT ?_
      rintro e w4 ⟨rfl, hP4, hC4⟩
      go_wp2_with fail
      refine Calls.mono (lines_calls g s _ d w4 hP4 hs) ?_
      rintro e w5 ⟨rfl, hP5, hC5⟩
      simp only [List.length_cons, List.length_nil, hb'] at hP5
      have hX2 := row_chg (row_chg hX1 hC4 hne) hC5 hne
      have hZ3 := row_chg (row_chg hZ2 hC4 (by omega)) hC5 (by omega)
      have hO5 := (hO.stay hC4 (fun k hk e => by omega)).stay hC5 (fun k hk e => by omega)
      have hC6 := (hCW.trans hC4 (fun _ h _ => h)).trans hC5 (fun _ h _ => h)
      have hvN : ∀ j, (Value.slice A L c).ownBlock = some j → j < w5.heap.size := fun j hj => hO5.lt hj
      clear hT hX1 hZ2 hO hCW hC4 hP4 hC5 hP hb'
      have hX1 := hX2
      have hZ2 := hZ3
      have hCW := hC6
      have HR := HR1
      have z1 := row_cells hX1 1
      have hsz : w1.heap.size < w5.heap.size := row_lt hX1
      clear hX2 hZ3 hC6 HR1
      go_wp2
      refine wp_region_any (by kernel_rfl) ?_
      change wpAny _ _ _ _ _ _ _ (World.drew _)
      refine wpAny_take (i := 0) (v := .pointer (some ⟨w1.heap.size, 1, none⟩)) rfl (by kernel_rfl) (by kernel_rfl) (by kernel_rfl) (fun _ _ _ h => h) (Or.inl ⟨by rfl, by intro w; go_simp⟩) ?_
      refine wpAny_take (i := 2) (v := .pointer (some ⟨g, 0, none⟩)) rfl (by kernel_rfl) (by kernel_rfl) (by kernel_rfl) (fun _ _ _ h => h) (Or.inl ⟨by rfl, by intro w; go_simp⟩) ?_
      simp only [Act.put, List.setIfInBounds_toArray, List.set_cons_zero, List.set_cons_succ]
      refine wpAny_load_ahead (fun w' => w'.cell? ⟨w1.heap.size, 1, none⟩ = some (.slice A L c)) (i := 1) (c := 3) (c2 := 4) (.slice A L c) rfl rfl rfl (by decide) (by decide) (by kernel_rfl) (by kernel_rfl) (by kernel_rfl) (fun _ _ _ h => h) (by kernel_rfl) (by kernel_rfl) (by kernel_rfl) (by kernel_rfl) (by kernel_rfl) (Or.inl ⟨by rfl, by intro w hw; go_simp⟩) z1 ?_
      simp only [Act.put, List.setIfInBounds_toArray, List.set_cons_zero, List.set_cons_succ]
      refine wpOp_step rfl (fun K hK => ?_)
      go_simp
      refine Calls.mono (hc g s b' _ (hP5.drewN 1) hs (by omega)) ?_
      rintro e w2 hp
      rcases ppost_cases hp with ⟨x, r1, v, hX, rfl, ⟨cs1, rfl, hcs⟩, hP2, hC3⟩ | ⟨l, c, k, hX, hk, hl, rfl, hC3⟩
      rotate_left
      · exact ⟨rfl, by rw [HR.out, pipeF_eq, hX]; exact ⟨k, hk, hl, rfl, (hCW.drewN 1).trans hC3 (fun _ h _ => h)⟩⟩
      clear hp
      have hr1 := hle _ _ _ hX
      have HR2 : Hid (R = pipeRest cmd gn neg (cs ++ [x]) r1) := Lib.hid (by rw [HR.out, pipeF_eq, hX]; rfl)
      have z2 := hC3.cell z1 hne
      have hXb := row_chg (B := (· = g)) (w := w5.drew) hX1 hC3 hne
      obtain ⟨k, nn, A1, n1, c1, A2, n2, c2, A3, n3, c3, A4, n4, c4, A5, n5, c5, A6, n6, c6, A7, n7, c7, rfl⟩ := cmd_form hcs
      have hCX : Chg (· = g) w w2 := (hCW.drewN 1).trans hC3 (fun _ h _ => h)
      refine hK _ _ ⟨z2, ?_⟩
      clear hK K
      refine wpOp_step rfl (fun K hK => ?_)
      go_simp
      refine hK _ _ ⟨by rw [World.cell?_alloc_some _ _ _ (by rw [z2]; rfl)]; exact z2, ?_⟩
      clear hK K
      refine wpAny_tail 5 _ rfl (by kernel_rfl) ?_
      change wpList _ _ _ [_, _, _] _ _
      clear hX HR
      have HCS := Lib.hid hcs; clear hcs
      have hN : w5.heap.size ≤ w2.heap.size := hC3.size
      have hgX := hP2.lt
      have hR2l : r1.length ≤ gn := by omega
      go_wp2_with (at_builtin; refine own_append2 (fun j => w1.heap.size < j) w5.heap.size rfl _ _ _ _ _ 9 192 rfl Try.underlying45 info_Cmd rfl (by decide) (by decide) (.slice A L c) (Cmd.ds cs) x.d _ rfl (by simp [Act.eval]) HCS.out rfl (fun k hk => by omega) hN hvN ((hO5.stay ((Chg.refl (fun _ => False) w5).drewN 1) (fun _ _ e => e)).stay hC3 (fun k hk e => by omega)) (by rw [Cmd.ds_map, List.length_map]; omega) ?_)
      intro A c w3 hO hC4'
      have hC4 : Chg (fun j => w1.heap.size < j) w2 w3 := hC4'.mono (fun k hk _ => (((hO5.stay ((Chg.refl (fun _ => False) w5).drewN 1) (fun _ _ e => e)).stay hC3 (fun k hk e => by omega)) : Own w2 (fun j => w1.heap.size < j) 53 9 _ (Cmd.ds cs)).block hk.symm)
      clear hC4'
      have e1 : (Cmd.ds cs).length + 1 = (cs ++ [x]).length := by rw [Cmd.ds_map]; simp
      have e2 : Cmd.ds cs ++ [x.d] = Cmd.ds (cs ++ [x]) := by rw [Cmd.ds_map, Cmd.ds_map]; simp
      rw [e1, e2] at hO
      rw [e1]
      generalize hL : (cs ++ [x]).length = L at hO ⊢
      have hXc := row_chg (B := (fun j => w1.heap.size < j)) (w := w2) hXb hC4 (by omega)
      have hZc := row_chg (B := (fun j => w1.heap.size < j)) (w := w2) (row_chg (B := (· = g)) (w := w5.drew) hZ2 hC3 (by omega)) hC4 (by omega)
      have hP3 := hP2.chg hC4 (by omega)
      have hC5 : Chg (· = g) w w3 := hCX.trans hC4 (fun k hk hl => by omega)
      have hfr := row_free hXc 1
      have hcl := row_cells hXc 1
      clear HCS hXb hC4 hP2 hCX z2 z1 hX1 hZ2 hC3 hCW e1 e2
      go_wp2
      have hXd := row_set hXc 1 (.slice A L c)
      have hZd := row_far hZc (p := ⟨w1.heap.size, 1, none⟩) (by simp; omega) (.slice A L c)
      have hC6 := hC5.setCell (p := ⟨w1.heap.size, 1, none⟩) (fun h => by simp at h; omega) (.slice A L c)
      have hP4 := ParsR.chg (B := (· = w1.heap.size)) hP3 (setCell_chg w3 w1.heap.size 1 (.slice A L c)) (by omega)
      have hO2 := hO.stay (B := (· = w1.heap.size)) (setCell_chg w3 w1.heap.size 1 (.slice A L c)) (fun k hk e => by omega)
      clear hXc hZc hC5 hP3 hO hfr hcl
      go_roundg gn
      case measure => omega
      case rel => exact ⟨_, _, _, _, _, hL, HR2, hP4, hR2l, by omega, by simp only [List.length_append, List.length_cons, List.length_nil]; omega, hXd, hO2, hC6, hZd⟩
end Go.Proofs.Ytdfnkmiabmjolaa
namespace Go.Proofs.Ytdfnkmiabmjolaa
open Go.RowKit
set_option linter.unusedVariables false
set_option linter.unusedSimpArgs false

/-- What pipe tells, so deep, of texts no longer than m. -/
def PipSaid (pipe : Bytes → Rs Pip) (d : Nat) (m : Nat) : Prop := ∀ (g : Nat) (s : ByteArray) (r : Bytes) (w : World), ParsR w g s r d → s.size ≤ 8192 → r.length ≤ m →
  Calls Try.prog 63 #[.pointer (some ⟨g, 0, none⟩)] w (PPost w g s d (pipe r) (isPip w))
def listRest (pipe : Bytes → Rs Pip) (n : Nat) (ps : List Pip) (os : List Bytes) (r1 : Bytes) : Rs Lst :=
  if sgn r1 == [38, 38] || sgn r1 == [124, 124] then listF pipe n ps (os ++ [sgn r1]) (lines ((blanks r1).drop (sgn r1).length)) else .ok (.mk ps os) (blanks r1)
theorem listF_eq (pipe : Bytes → Rs Pip) (n : Nat) (ps : List Pip) (os : List Bytes) (r : Bytes) : listF pipe (n + 1) ps os r = (pipe r).bind fun c r1 => listRest pipe n (ps ++ [c]) os r1 := by rw [listF]; rfl
def ListRel (pipe : Bytes → Rs Pip) (w : World) (g X : Nat) (s : ByteArray) (d : Nat) (R : Rs Lst) (m : Nat) (k : Nat) (wr : World) : Prop :=
  ∃ (ps : List Pip) (os : List Bytes) (r1 : Bytes) (f : Nat) (A : Option Addr) (c L : Nat) (A2 : Option Addr) (c2 L2 : Nat) (S T : Nat → Prop), ps.length = L ∧ os.length = L2 ∧ Hid (R = listRest pipe f ps os r1) ∧ ParsR wr g s r1 d ∧ r1.length ≤ f ∧ r1.length ≤ k ∧ r1.length ≤ m ∧ L + k ≤ 8193 ∧ L2 + k ≤ 8193 ∧
    wr.heap[X]? = some (.cells #[.slice A L c, .slice A2 L2 c2] 44) ∧ Row wr w.heap.size X 47 2 (.slice A L c) (Pip.ds ps) S ∧ Row wr w.heap.size X 9 1 (.slice A2 L2 c2) (os.map bytesD) T ∧ (∀ k, S k → ¬ T k) ∧ Chg (· = g) w wr ∧
    wr.heap[w.heap.size]? = some (.cells #[.slice none 0 0, .slice none 0 0] 44)

set_option pp.deepTerms true in
set_option pp.maxSteps 200000 in
set_option maxRecDepth 100000 in
set_option maxHeartbeats 4000000 in
theorem list_calls (pipe : Bytes → Rs Pip) (d : Nat) (m : Nat) (hc : PipSaid pipe d m) (hle : ∀ r c r1, pipe r = .ok c r1 → r1.length ≤ r.length) (n : Nat) (g : Nat) (s : ByteArray) (r : Bytes) (w : World) (h : ParsR w g s r d) (hs : s.size ≤ 8192) (hm : r.length ≤ m) (hn : r.length ≤ n) :
    Calls Try.prog 54 #[.pointer (some ⟨g, 0, none⟩)] w (PPost w g s d (listF pipe (n + 1) [] [] r) (isLst w)) := by
  have hgl := h.lt
  have hrl := h.len
  generalize hR : listF pipe (n + 1) [] [] r = R
  have HR := Lib.hid hR.symm; clear hR
  go_enter Try.func54, Try.ntmps54
  have hC0 : Chg (· = g) w (w.alloc (.cells #[.slice none 0 0, .slice none 0 0] 44)) := (Chg.refl _ w).alloc _
  have hP0 := ParsR.chg (B := fun _ => False) h ((Chg.refl _ w).alloc (.cells #[.slice none 0 0, .slice none 0 0] 44)) (fun e => e)
  have hZ0 := row_new w (.cells #[.slice none 0 0, .slice none 0 0] 44)
  go_wp2_with fail
  refine Calls.mono (hc g s r _ hP0 hs hm) ?_
  rintro e w1 hp
  rcases ppost_cases hp with ⟨x, r1, v, hX, rfl, ⟨cs1, rfl, hcs⟩, hP, hC⟩ | ⟨l, c, k, hX, hk, hl, rfl, hC⟩
  rotate_left
  · go_wp2
    exact ⟨rfl, by rw [HR.out, listF_eq, hX]; exact ⟨k, hk, hl, rfl, hC0.trans hC (fun _ h _ => h)⟩⟩
  clear hp
  have hr1 := hle _ _ _ hX
  have HR2 : Hid (R = listRest pipe n ([] ++ [x]) [] r1) := Lib.hid (by rw [HR.out, listF_eq, hX]; rfl)
  have hZ1 := row_chg hZ0 hC (by omega)
  have hC1 := hC0.trans hC (fun _ h _ => h)
  have hs0 : w.heap.size < w1.heap.size := by have := hC.size; simp at this; omega
  obtain ⟨nb, A1, n1, c1, rfl⟩ := pip_form hcs
  have hrow := own_one (e := 47) (sz := 2) hcs.bound rfl
  clear hZ0 hP0 hC0 hC hX HR
  have HCS := Lib.hid hcs; clear hcs
  go_wp2
  have hX1 := row_new (w1.alloc (.cells #[.bool nb, .slice A1 n1 c1] 47)) (.cells #[.slice (some ⟨w1.heap.size, 0, none⟩) 1 1, .slice none 0 0] 44)
  have hCa : Chg (fun _ => False) w1 ((w1.alloc (.cells #[.bool nb, .slice A1 n1 c1] 47)).alloc (.cells #[.slice (some ⟨w1.heap.size, 0, none⟩) 1 1, .slice none 0 0] 44)) := ((Chg.refl _ w1).alloc _).alloc _
  have hCb : Chg (fun _ => False) (w1.alloc (.cells #[.bool nb, .slice A1 n1 c1] 47)) ((w1.alloc (.cells #[.bool nb, .slice A1 n1 c1] 47)).alloc (.cells #[.slice (some ⟨w1.heap.size, 0, none⟩) 1 1, .slice none 0 0] 44)) := (Chg.refl _ _).alloc _
  have hrow2 : Row _ w.heap.size (w1.heap.size + 1) 47 2 _ _ _ := ⟨hrow.stay hCb (fun _ _ e => e), fun k hk => by simp at hk ⊢; omega⟩
  have hZ2 := row_chg hZ1 hCa (fun e => e)
  have hP2 := hP.chg hCa (fun e => e)
  have hC2 := hC1.trans hCa (fun _ h _ => h.elim)
  have hsz2 : ((w1.alloc (.cells #[.bool nb, .slice A1 n1 c1] 47)).alloc (.cells #[.slice (some ⟨w1.heap.size, 0, none⟩) 1 1, .slice none 0 0] 44)).heap.size = w1.heap.size + 1 + 1 := by simp
  simp only [World.size_alloc] at hX1
  clear hrow hCa hCb hZ1 hP hC1 HCS
  revert hX1 hrow2 hZ2 hP2 hC2 hsz2
  generalize (w1.alloc (.cells #[.bool nb, .slice A1 n1 c1] 47)).alloc (.cells #[.slice (some ⟨w1.heap.size, 0, none⟩) 1 1, .slice none 0 0] 44) = W
  intro hrow2 hZ2 hP2 hC2 hsz2 hX1
  have hgX : g < w.heap.size := hgl
  obtain ⟨X, hXe⟩ : ∃ X, X = w1.heap.size + 1 := ⟨_, rfl⟩
  rw [← hXe] at hX1 hrow2 hsz2 ⊢
  have hgX2 : w.heap.size < X := by omega
  go_loopg [] r.length (fun k wr => ListRel pipe w g X s d R m k wr)
  case atStart => exact ⟨[x], [], r1, n, _, _, _, _, _, _, _, _, rfl, rfl, HR2, hP2, by omega, by omega, by omega, by simp only [List.length_cons, List.length_nil]; omega, by simp only [List.length_nil]; omega, hX1, hrow2, Row.none _ _ _ _ _, fun _ _ e => e, hC2, hZ2⟩
  case round =>
    clear hX1 hrow2 hZ2 hP2 hC2 hsz2 HR2 hr1 hXe hs0
    obtain ⟨ps, os, r1, f, A, c, L, A2, c2, L2, S, T, hL, hL2, HR, hP, hf, hk1, hk2, hLk, hLk2, hX1, hS, hT, hST, hC, hZ⟩ := hrel
    have hSg := sign_calls g s r1 d wr hP hs
    have hbl := blanks_le r1
    have hsl := sgn_le r1
    have hln := lines_le ((blanks r1).drop (sgn r1).length)
    have e38 : ((bstr (sgn r1)).toList == [38, 38]) = (sgn r1 == [38, 38]) := by rw [ByteArray.toList_eq, bstr_toList]
    have e124 : ((bstr (sgn r1)).toList == [124, 124]) = (sgn r1 == [124, 124]) := by rw [ByteArray.toList_eq, bstr_toList]
    have hz0 : (bstr (sgn r1)).size = (sgn r1).length := bstr_size _
    rw [listRest] at HR
    have h2 : (sgn r1 == [38, 38] || sgn r1 == [124, 124]) = true → 2 = (sgn r1).length := by
      intro h
      simp only [Bool.or_eq_true, beq_iff_eq] at h
      rcases h with h | h <;> rw [h] <;> rfl
    simp only [List.length_drop] at hln
    generalize hb : blanks r1 = b at *
    generalize hsg : sgn r1 = sg at *
    generalize hb' : lines (b.drop sg.length) = b' at *
    go_wp2_with fail
    refine Calls.mono hSg ?_
    rintro e w4 ⟨rfl, hP4, hC4⟩
    have hX2 := row_chg hX1 hC4 (by omega)
    have hZ2 := row_chg hZ hC4 (by omega)
    have hS2 := hS.stay hC4 (fun k h1 h2 h3 e => by omega)
    have hT2 := hT.stay hC4 (fun k h1 h2 h3 e => by omega)
    have hC2 := hC.trans hC4 (fun _ h _ => h)
    clear hSg hX1 hZ hS hT hC hC4 hP
    cases q38 : sg == [38, 38]
    case false =>
      cases q124 : sg == [124, 124]
      case false =>
        rw [q38, q124] at HR
        rw [q38] at e38
        rw [q124] at e124
        have HR2 : Hid (R = .ok (.mk ps os) b) := Lib.hid HR.out
        clear HR h2 q38 q124
        have hcX := row_cells hX2
        have hcZ := row_cells hZ2
        have hfZ := row_free hZ2
        go_wp2
        have hCZ : Chg (· = w.heap.size) w4 ((w4.setCell ⟨w.heap.size, 0, none⟩ (.slice A L c)).setCell ⟨w.heap.size, 1, none⟩ (.slice A2 L2 c2)) := (setCell_chg w4 w.heap.size 0 _).setCell (fun _ => rfl) _
        refine bodyPost_ret (v := .agg #[.slice A L c, .slice A2 L2 c2]) (by simp [results, Try.results54, go_sem, hcZ]) rfl ?_
        rw [HR2.out]
        refine ⟨_, rfl, ⟨[.slice A L c, .slice A2 L2 c2], rfl, lst_rep.2 ⟨_, _, rfl, ?_, ?_⟩⟩, ParsR.chg hP4 hCZ (by omega), hC2.trans hCZ (fun k hk hl => by omega)⟩
        · exact (hS2.stay hCZ (fun k h1 h2 h3 e => by omega)).rep.mono (fun k hk _ => by omega)
        · exact (hT2.stay hCZ (fun k h1 h2 h3 e => by omega)).rep.mono (fun k hk _ => by omega)
      case true =>
        rw [q38] at e38
        rw [q124] at e124
        have HR2 : Hid (R = listF pipe f ps (os ++ [sg]) b') := Lib.hid (by rw [HR.out, q38, q124]; rfl)
        have hsl2 : 2 = sg.length := h2 (by rw [q38, q124]; rfl)
        clear HR h2
        generalize hB : bstr sg = sB at *
        have HB := Lib.hid hB; clear hB
        obtain ⟨fn, rfl⟩ : ∃ n, f = n + 1 := ⟨f - 1, by omega⟩
        obtain ⟨a, ha, hbe, hl, hA⟩ := hP4.pos
        obtain ⟨h0, h1, h2', f1, _, hgl4⟩ := ParsAt.cells hA
        have hb1 : a + sg.length ≤ s.size := by omega
        have HP := Lib.hid (fun v hv => ParsR.at' hA (a + sg.length) hb1 v hv)
        have HD : Hid (lines (s.data.toList.drop (a + sg.length)) = b') := Lib.hid (by rw [← List.drop_drop, ← hbe]; exact hb')
        have hbb : b'.length + 2 ≤ r1.length := by omega
        clear hb' hb hsg hbe hP4 q38 hsl2 hln hsl hbl hl
        go_wp2_with fail
        refine Calls.mono (lines_calls g s (s.data.toList.drop (a + sg.length)) d _ (HP.out _ (by go_num)) hs) ?_
        rintro e w5 ⟨rfl, hP5, hC5⟩
        rw [HD.out] at hP5
        have hCs : Chg (· = g) w4 (w4.setCell ⟨g, 1, none⟩ (.int .i64 ((a : Int) + (sg.length : Int)))) := setCell_chg w4 g 1 _
        have hC6 := hCs.trans hC5 (fun _ h _ => h)
        have hX3 := row_chg hX2 hC6 (by omega)
        have hZ3 := row_chg hZ2 hC6 (by omega)
        have hS3 := hS2.stay hC6 (fun k h1 h2 h3 e => by omega)
        have hT3 := hT2.stay hC6 (fun k h1 h2 h3 e => by omega)
        have hC7 := hC2.trans hC6 (fun _ h _ => h)
        have hcX := row_cells hX3
        have hX3l := row_lt hX3
        clear hCs hC6 hX2 hZ2 hS2 hT2 hC2 hC5 h0 h1 h2' f1 hgl4 HP HD hA hz0 e38 e124
        go_wp2_with (at_builtin; refine row_append w.heap.size X T w5.heap.size rfl _ _ _ _ _ 1 16 rfl Try.underlying41 info_string rfl (by decide) (by decide) (.slice A2 L2 c2) (os.map bytesD) (bytesD sg) _ rfl (by simp [Act.eval]) (by rw [bytesD, HB.out]; rfl) rfl (Nat.le_refl _) (by omega) (by omega) hT3 hT3.lt (by rw [List.length_map]; omega) ?_)
        intro A3 c3 w6 T6 hT6 hTT hC8
        have e1 : L2 + 1 = (os ++ [sg]).length := by rw [List.length_append, hL2]; rfl
        have e2 : os.map bytesD ++ [bytesD sg] = (os ++ [sg]).map bytesD := by simp
        rw [e1, e2] at hT6
        rw [e1]
        generalize hL3 : (os ++ [sg]).length = L3 at hT6 ⊢
        have hLk3 : L3 + b'.length ≤ 8193 := by rw [← hL3, List.length_append, List.length_singleton]; omega
        have hST6 : ∀ k, S k → ¬ T6 k := fun k hk hk2 => (hTT k hk2).elim (hST k hk) (fun h => by have := hS3.lt k hk; omega)
        have hX4 := row_chg hX3 hC8 (fun h => (hT3.2 X h).2.1 rfl)
        have hZ4 := row_chg hZ3 hC8 (fun h => by have := (hT3.2 _ h).1; omega)
        have hS4 := hS3.apart hC8 hST
        have hP6 := hP5.chg hC8 (fun h => by have := (hT3.2 _ h).1; omega)
        have hC9 := hC7.trans hC8 (fun k hk hl => by have := (hT3.2 _ hk).1; omega)
        have hcX2 := row_cells hX4
        have hfX2 := row_free hX4
        clear hX3 hZ3 hS3 hT3 hC7 hC8 hP5 hTT hcX hST
        go_wp2
        have hX5 := row_set hX4 1 (.slice A3 L3 c3)
        have hCc := setCell_chg w6 X 1 (.slice A3 L3 c3)
        have hZ5 := row_chg hZ4 hCc (by omega)
        have hS5 := hS4.apart hCc (fun k hk e => (hS4.2 k hk).2.1 e)
        have hT5 := hT6.apart hCc (fun k hk e => (hT6.2 k hk).2.1 e)
        have hP7 := hP6.chg hCc (by omega)
        have hC10 := hC9.trans hCc (fun k hk hl => by omega)
        simp only [List.setIfInBounds_toArray, List.set_cons_zero, List.set_cons_succ] at hX5
        clear hX4 hZ4 hS4 hT6 hP6 hC9 hcX2 hfX2 hCc
        generalize w6.setCell ⟨X, 1, none⟩ (.slice A3 L3 c3) = w7 at hX5 hZ5 hS5 hT5 hP7 hC10 ⊢
        have z1 := row_cells hX5 0
        have hX5l := row_lt hX5
        refine wp_region_any (by kernel_rfl) ?_
        change wpAny _ _ _ _ _ _ _ (World.drew _)
        refine wpAny_take (i := 0) (v := .pointer (some ⟨X, 0, none⟩)) rfl (by kernel_rfl) (by kernel_rfl) (by kernel_rfl) (fun _ _ _ h => h) (Or.inl ⟨by rfl, by intro w; go_simp⟩) ?_
        refine wpAny_take (i := 2) (v := .pointer (some ⟨g, 0, none⟩)) rfl (by kernel_rfl) (by kernel_rfl) (by kernel_rfl) (fun _ _ _ h => h) (Or.inl ⟨by rfl, by intro w; go_simp⟩) ?_
        simp only [Act.put, List.setIfInBounds_toArray, List.set_cons_zero, List.set_cons_succ]
        refine wpAny_load_ahead (fun w' => w'.cell? ⟨X, 0, none⟩ = some (.slice A L c)) (i := 1) (c := 3) (c2 := 4) (.slice A L c) rfl rfl rfl (by decide) (by decide) (by kernel_rfl) (by kernel_rfl) (by kernel_rfl) (fun _ _ _ h => h) (by kernel_rfl) (by kernel_rfl) (by kernel_rfl) (by kernel_rfl) (by kernel_rfl) (Or.inl ⟨by rfl, by intro w hw; go_simp⟩) z1 ?_
        simp only [Act.put, List.setIfInBounds_toArray, List.set_cons_zero, List.set_cons_succ]
        refine wpOp_step rfl (fun K hK => ?_)
        go_simp
        refine Calls.mono (hc g s b' _ (hP7.drewN 1) hs (by omega)) ?_
        rintro e w8 hp
        rcases ppost_cases hp with ⟨x, r2, v, hXx, rfl, ⟨cs1, rfl, hcs⟩, hP8, hC11⟩ | ⟨l, c, k, hXx, hk, hl, rfl, hC11⟩
        rotate_left
        · exact ⟨rfl, by rw [HR2.out, listF_eq, hXx]; exact ⟨k, hk, hl, rfl, (hC10.drewN 1).trans hC11 (fun _ h _ => h)⟩⟩
        clear hp
        have hr2 := hle _ _ _ hXx
        have HR3 : Hid (R = listRest pipe fn (ps ++ [x]) (os ++ [sg]) r2) := Lib.hid (by rw [HR2.out, listF_eq, hXx]; rfl)
        have z2 := hC11.cell z1 (by simp; omega)
        obtain ⟨nb2, A4, n4, c4, rfl⟩ := pip_form hcs
        refine hK _ _ ⟨z2, ?_⟩
        clear hK K
        refine wpOp_step rfl (fun K hK => ?_)
        go_simp
        refine hK _ _ ⟨by rw [World.cell?_alloc_some _ _ _ (by rw [z2]; rfl)]; exact z2, ?_⟩
        clear hK K
        refine wpAny_tail 5 _ rfl (by kernel_rfl) ?_
        change wpList _ _ _ [_, _, _] _ _
        have hX6 := row_chg (B := (· = g)) (w := w7.drew) hX5 hC11 (by omega)
        have hZ6 := row_chg (B := (· = g)) (w := w7.drew) hZ5 hC11 (by omega)
        have hS6 := (hS5.drew 1).stay hC11 (fun k h1 h2 h3 e => by omega)
        have hT7 := (hT5.drew 1).stay hC11 (fun k h1 h2 h3 e => by omega)
        have hC12 := (hC10.drewN 1).trans hC11 (fun _ h _ => h)
        have hN : w7.heap.size ≤ w8.heap.size := hC11.size
        have hSl : ∀ k, S k → k < w7.heap.size := hS5.lt
        have hTl : ∀ k, T6 k → k < w7.heap.size := hT5.lt
        have HCS := Lib.hid hcs
        clear hcs hXx HR2 hX5 hZ5 hS5 hT5 hC10 hC11 hP7 z1 z2
        go_wp2_with (at_builtin; refine row_append w.heap.size X S w7.heap.size rfl _ _ _ _ _ 2 32 rfl Try.underlying42 info_Pipe rfl (by decide) (by decide) (.slice A L c) (Pip.ds ps) x.d _ rfl (by simp [Act.eval]) HCS.out rfl hN (by omega) (by omega) hS6 hSl (by rw [Pip.ds_map, List.length_map]; omega) ?_)
        intro A5 c5 w9 S9 hS9 hSS hC13
        have e3 : (Pip.ds ps).length + 1 = (ps ++ [x]).length := by rw [Pip.ds_map]; simp
        have e4 : Pip.ds ps ++ [x.d] = Pip.ds (ps ++ [x]) := by rw [Pip.ds_map, Pip.ds_map]; simp
        rw [e3, e4] at hS9
        rw [e3]
        generalize hL5 : (ps ++ [x]).length = L5 at hS9 ⊢
        have hLk5 : L5 + b'.length ≤ 8193 := by rw [← hL5, List.length_append, List.length_singleton]; omega
        have hST9 : ∀ k, S9 k → ¬ T6 k := fun k hk hk2 => (hSS k hk).elim (fun h => hST6 k h hk2) (fun h => by have := hTl k hk2; omega)
        have hX7 := row_chg hX6 hC13 (fun h => (hS6.2 X h).2.1 rfl)
        have hZ7 := row_chg hZ6 hC13 (fun h => by have := (hS6.2 _ h).1; omega)
        have hT8 := hT7.apart hC13 (fun k hk hk2 => hST6 k hk2 hk)
        have hP9 := hP8.chg hC13 (fun h => by have := (hS6.2 _ h).1; omega)
        have hC14 := hC12.trans hC13 (fun k hk hl => by have := (hS6.2 _ hk).1; omega)
        have hcX2 := row_cells hX7
        have hfX2 := row_free hX7
        clear hX6 hZ6 hS6 hT7 hC12 hC13 hP8 hSS hST6 HCS hSl hTl hN hX5l e1 e2 e3 e4
        go_wp2
        have hX8 := row_set hX7 0 (.slice A5 L5 c5)
        have hCc := setCell_chg w9 X 0 (.slice A5 L5 c5)
        have hZ8 := row_chg hZ7 hCc (by omega)
        have hS10 := hS9.apart hCc (fun k hk e => (hS9.2 k hk).2.1 e)
        have hT10 := hT8.apart hCc (fun k hk e => (hT8.2 k hk).2.1 e)
        have hP10 := hP9.chg hCc (by omega)
        have hC15 := hC14.trans hCc (fun k hk hl => by omega)
        go_roundg b'.length
        case measure => omega
        case rel => exact ⟨_, _, _, _, _, _, _, _, _, _, _, _, hL5, hL3, HR3, hP10, by omega, hr2, by omega, hLk5, hLk3, hX8, hS10, hT10, hST9, hC15, hZ8⟩
    case true =>
      rw [q38] at e38
      have HR2 : Hid (R = listF pipe f ps (os ++ [sg]) b') := Lib.hid (by rw [HR.out, q38]; rfl)
      have hsl2 : 2 = sg.length := h2 (by rw [q38]; rfl)
      clear HR h2
      generalize hB : bstr sg = sB at *
      have HB := Lib.hid hB; clear hB
      obtain ⟨fn, rfl⟩ : ∃ n, f = n + 1 := ⟨f - 1, by omega⟩
      obtain ⟨a, ha, hbe, hl, hA⟩ := hP4.pos
      obtain ⟨h0, h1, h2', f1, _, hgl4⟩ := ParsAt.cells hA
      have hb1 : a + sg.length ≤ s.size := by omega
      have HP := Lib.hid (fun v hv => ParsR.at' hA (a + sg.length) hb1 v hv)
      have HD : Hid (lines (s.data.toList.drop (a + sg.length)) = b') := Lib.hid (by rw [← List.drop_drop, ← hbe]; exact hb')
      have hbb : b'.length + 2 ≤ r1.length := by omega
      clear hb' hb hsg hbe hP4 q38 hsl2 hln hsl hbl hl
      go_wp2_with fail
      refine Calls.mono (lines_calls g s (s.data.toList.drop (a + sg.length)) d _ (HP.out _ (by go_num)) hs) ?_
      rintro e w5 ⟨rfl, hP5, hC5⟩
      rw [HD.out] at hP5
      have hCs : Chg (· = g) w4 (w4.setCell ⟨g, 1, none⟩ (.int .i64 ((a : Int) + (sg.length : Int)))) := setCell_chg w4 g 1 _
      have hC6 := hCs.trans hC5 (fun _ h _ => h)
      have hX3 := row_chg hX2 hC6 (by omega)
      have hZ3 := row_chg hZ2 hC6 (by omega)
      have hS3 := hS2.stay hC6 (fun k h1 h2 h3 e => by omega)
      have hT3 := hT2.stay hC6 (fun k h1 h2 h3 e => by omega)
      have hC7 := hC2.trans hC6 (fun _ h _ => h)
      have hcX := row_cells hX3
      have hX3l := row_lt hX3
      clear hCs hC6 hX2 hZ2 hS2 hT2 hC2 hC5 h0 h1 h2' f1 hgl4 HP HD hA hz0 e38 e124
      go_wp2_with (at_builtin; refine row_append w.heap.size X T w5.heap.size rfl _ _ _ _ _ 1 16 rfl Try.underlying41 info_string rfl (by decide) (by decide) (.slice A2 L2 c2) (os.map bytesD) (bytesD sg) _ rfl (by simp [Act.eval]) (by rw [bytesD, HB.out]; rfl) rfl (Nat.le_refl _) (by omega) (by omega) hT3 hT3.lt (by rw [List.length_map]; omega) ?_)
      intro A3 c3 w6 T6 hT6 hTT hC8
      have e1 : L2 + 1 = (os ++ [sg]).length := by rw [List.length_append, hL2]; rfl
      have e2 : os.map bytesD ++ [bytesD sg] = (os ++ [sg]).map bytesD := by simp
      rw [e1, e2] at hT6
      rw [e1]
      generalize hL3 : (os ++ [sg]).length = L3 at hT6 ⊢
      have hLk3 : L3 + b'.length ≤ 8193 := by rw [← hL3, List.length_append, List.length_singleton]; omega
      have hST6 : ∀ k, S k → ¬ T6 k := fun k hk hk2 => (hTT k hk2).elim (hST k hk) (fun h => by have := hS3.lt k hk; omega)
      have hX4 := row_chg hX3 hC8 (fun h => (hT3.2 X h).2.1 rfl)
      have hZ4 := row_chg hZ3 hC8 (fun h => by have := (hT3.2 _ h).1; omega)
      have hS4 := hS3.apart hC8 hST
      have hP6 := hP5.chg hC8 (fun h => by have := (hT3.2 _ h).1; omega)
      have hC9 := hC7.trans hC8 (fun k hk hl => by have := (hT3.2 _ hk).1; omega)
      have hcX2 := row_cells hX4
      have hfX2 := row_free hX4
      clear hX3 hZ3 hS3 hT3 hC7 hC8 hP5 hTT hcX hST
      go_wp2
      have hX5 := row_set hX4 1 (.slice A3 L3 c3)
      have hCc := setCell_chg w6 X 1 (.slice A3 L3 c3)
      have hZ5 := row_chg hZ4 hCc (by omega)
      have hS5 := hS4.apart hCc (fun k hk e => (hS4.2 k hk).2.1 e)
      have hT5 := hT6.apart hCc (fun k hk e => (hT6.2 k hk).2.1 e)
      have hP7 := hP6.chg hCc (by omega)
      have hC10 := hC9.trans hCc (fun k hk hl => by omega)
      simp only [List.setIfInBounds_toArray, List.set_cons_zero, List.set_cons_succ] at hX5
      clear hX4 hZ4 hS4 hT6 hP6 hC9 hcX2 hfX2 hCc
      generalize w6.setCell ⟨X, 1, none⟩ (.slice A3 L3 c3) = w7 at hX5 hZ5 hS5 hT5 hP7 hC10 ⊢
      have z1 := row_cells hX5 0
      have hX5l := row_lt hX5
      refine wp_region_any (by kernel_rfl) ?_
      change wpAny _ _ _ _ _ _ _ (World.drew _)
      refine wpAny_take (i := 0) (v := .pointer (some ⟨X, 0, none⟩)) rfl (by kernel_rfl) (by kernel_rfl) (by kernel_rfl) (fun _ _ _ h => h) (Or.inl ⟨by rfl, by intro w; go_simp⟩) ?_
      refine wpAny_take (i := 2) (v := .pointer (some ⟨g, 0, none⟩)) rfl (by kernel_rfl) (by kernel_rfl) (by kernel_rfl) (fun _ _ _ h => h) (Or.inl ⟨by rfl, by intro w; go_simp⟩) ?_
      simp only [Act.put, List.setIfInBounds_toArray, List.set_cons_zero, List.set_cons_succ]
      refine wpAny_load_ahead (fun w' => w'.cell? ⟨X, 0, none⟩ = some (.slice A L c)) (i := 1) (c := 3) (c2 := 4) (.slice A L c) rfl rfl rfl (by decide) (by decide) (by kernel_rfl) (by kernel_rfl) (by kernel_rfl) (fun _ _ _ h => h) (by kernel_rfl) (by kernel_rfl) (by kernel_rfl) (by kernel_rfl) (by kernel_rfl) (Or.inl ⟨by rfl, by intro w hw; go_simp⟩) z1 ?_
      simp only [Act.put, List.setIfInBounds_toArray, List.set_cons_zero, List.set_cons_succ]
      refine wpOp_step rfl (fun K hK => ?_)
      go_simp
      refine Calls.mono (hc g s b' _ (hP7.drewN 1) hs (by omega)) ?_
      rintro e w8 hp
      rcases ppost_cases hp with ⟨x, r2, v, hXx, rfl, ⟨cs1, rfl, hcs⟩, hP8, hC11⟩ | ⟨l, c, k, hXx, hk, hl, rfl, hC11⟩
      rotate_left
      · exact ⟨rfl, by rw [HR2.out, listF_eq, hXx]; exact ⟨k, hk, hl, rfl, (hC10.drewN 1).trans hC11 (fun _ h _ => h)⟩⟩
      clear hp
      have hr2 := hle _ _ _ hXx
      have HR3 : Hid (R = listRest pipe fn (ps ++ [x]) (os ++ [sg]) r2) := Lib.hid (by rw [HR2.out, listF_eq, hXx]; rfl)
      have z2 := hC11.cell z1 (by simp; omega)
      obtain ⟨nb2, A4, n4, c4, rfl⟩ := pip_form hcs
      refine hK _ _ ⟨z2, ?_⟩
      clear hK K
      refine wpOp_step rfl (fun K hK => ?_)
      go_simp
      refine hK _ _ ⟨by rw [World.cell?_alloc_some _ _ _ (by rw [z2]; rfl)]; exact z2, ?_⟩
      clear hK K
      refine wpAny_tail 5 _ rfl (by kernel_rfl) ?_
      change wpList _ _ _ [_, _, _] _ _
      have hX6 := row_chg (B := (· = g)) (w := w7.drew) hX5 hC11 (by omega)
      have hZ6 := row_chg (B := (· = g)) (w := w7.drew) hZ5 hC11 (by omega)
      have hS6 := (hS5.drew 1).stay hC11 (fun k h1 h2 h3 e => by omega)
      have hT7 := (hT5.drew 1).stay hC11 (fun k h1 h2 h3 e => by omega)
      have hC12 := (hC10.drewN 1).trans hC11 (fun _ h _ => h)
      have hN : w7.heap.size ≤ w8.heap.size := hC11.size
      have hSl : ∀ k, S k → k < w7.heap.size := hS5.lt
      have hTl : ∀ k, T6 k → k < w7.heap.size := hT5.lt
      have HCS := Lib.hid hcs
      clear hcs hXx HR2 hX5 hZ5 hS5 hT5 hC10 hC11 hP7 z1 z2
      go_wp2_with (at_builtin; refine row_append w.heap.size X S w7.heap.size rfl _ _ _ _ _ 2 32 rfl Try.underlying42 info_Pipe rfl (by decide) (by decide) (.slice A L c) (Pip.ds ps) x.d _ rfl (by simp [Act.eval]) HCS.out rfl hN (by omega) (by omega) hS6 hSl (by rw [Pip.ds_map, List.length_map]; omega) ?_)
      intro A5 c5 w9 S9 hS9 hSS hC13
      have e3 : (Pip.ds ps).length + 1 = (ps ++ [x]).length := by rw [Pip.ds_map]; simp
      have e4 : Pip.ds ps ++ [x.d] = Pip.ds (ps ++ [x]) := by rw [Pip.ds_map, Pip.ds_map]; simp
      rw [e3, e4] at hS9
      rw [e3]
      generalize hL5 : (ps ++ [x]).length = L5 at hS9 ⊢
      have hLk5 : L5 + b'.length ≤ 8193 := by rw [← hL5, List.length_append, List.length_singleton]; omega
      have hST9 : ∀ k, S9 k → ¬ T6 k := fun k hk hk2 => (hSS k hk).elim (fun h => hST6 k h hk2) (fun h => by have := hTl k hk2; omega)
      have hX7 := row_chg hX6 hC13 (fun h => (hS6.2 X h).2.1 rfl)
      have hZ7 := row_chg hZ6 hC13 (fun h => by have := (hS6.2 _ h).1; omega)
      have hT8 := hT7.apart hC13 (fun k hk hk2 => hST6 k hk2 hk)
      have hP9 := hP8.chg hC13 (fun h => by have := (hS6.2 _ h).1; omega)
      have hC14 := hC12.trans hC13 (fun k hk hl => by have := (hS6.2 _ hk).1; omega)
      have hcX2 := row_cells hX7
      have hfX2 := row_free hX7
      clear hX6 hZ6 hS6 hT7 hC12 hC13 hP8 hSS hST6 HCS hSl hTl hN hX5l e1 e2 e3 e4
      go_wp2
      have hX8 := row_set hX7 0 (.slice A5 L5 c5)
      have hCc := setCell_chg w9 X 0 (.slice A5 L5 c5)
      have hZ8 := row_chg hZ7 hCc (by omega)
      have hS10 := hS9.apart hCc (fun k hk e => (hS9.2 k hk).2.1 e)
      have hT10 := hT8.apart hCc (fun k hk e => (hT8.2 k hk).2.1 e)
      have hP10 := hP9.chg hCc (by omega)
      have hC15 := hC14.trans hCc (fun k hk hl => by omega)
      go_roundg b'.length
      case measure => omega
      case rel => exact ⟨_, _, _, _, _, _, _, _, _, _, _, _, hL5, hL3, HR3, hP10, by omega, hr2, by omega, hLk5, hLk3, hX8, hS10, hT10, hST9, hC15, hZ8⟩
end Go.Proofs.Ytdfnkmiabmjolaa
namespace Go.Proofs.Ytdfnkmiabmjolaa
open Go.RowKit
set_option linter.unusedVariables false
set_option linter.unusedSimpArgs false

/-- What list tells, so deep, of texts no longer than m. -/
def LstSaid (list : Bytes → Rs Lst) (d : Nat) (m : Nat) : Prop := ∀ (g : Nat) (s : ByteArray) (r : Bytes) (w : World), ParsR w g s r d → s.size ≤ 8192 → r.length ≤ m →
  Calls Try.prog 54 #[.pointer (some ⟨g, 0, none⟩)] w (PPost w g s d (list r) (isLst w))
def listsRest (list : Bytes → Rs Lst) (n : Nat) (ls : List Lst) (r1 : Bytes) : Rs (List Lst) :=
  if sgn r1 == [59] then listsF list n false ls (lines ((blanks r1).drop 1))
  else if sgn r1 == [10] then listsF list n false ls (lines (blanks r1))
  else if over (blanks r1) then listsF list n false ls (blanks (blanks r1))
  else failS (blanks (blanks r1)) 61
theorem listsF_go (list : Bytes → Rs Lst) (n : Nat) (first : Bool) (ls : List Lst) (r : Bytes) (h : (first || !over r) = true) : listsF list (n + 1) first ls r = (list (if first then r else blanks r)).bind fun x r1 => listsRest list n (ls ++ [x]) r1 := by rw [listsF, if_pos h]; rfl
theorem listsF_stop (list : Bytes → Rs Lst) (n : Nat) (first : Bool) (ls : List Lst) (r : Bytes) (h : (first || !over r) = false) : listsF list (n + 1) first ls r = .ok ls (blanks r) := by rw [listsF, if_neg (by rw [h]; simp)]
def ListsRel (list : Bytes → Rs Lst) (w : World) (g : Nat) (s : ByteArray) (d : Int) (R : Rs (List Lst)) (m : Nat) (k : Nat) (v fv : Value) (wr : World) : Prop :=
  ∃ (ls : List Lst) (r : Bytes) (first : Bool) (A : Option Addr) (c L : Nat), v = .slice A L c ∧ fv = .bool first ∧ ls.length = L ∧ Hid (R = listsF list k first ls r) ∧ ParsR wr g s r d ∧ 0 < k ∧ ((first || !over r) = true → r.length < k ∧ L + r.length ≤ 8193) ∧ r.length ≤ m ∧
    Own wr (fun j => w.heap.size ≤ j) 44 2 (.slice A L c) (Lst.ds ls) ∧ Chg (· = g) w wr

theorem over_idem0 (r : Bytes) : over (blanks r) = over r := by unfold over; rw [blanks_idem, peek_idem, sgn_idem]
set_option pp.deepTerms true in
set_option pp.maxSteps 200000 in
set_option maxRecDepth 100000 in
set_option maxHeartbeats 4000000 in
theorem lists_calls (list : Bytes → Rs Lst) (d : Nat) (hd : d ≤ 20) (m : Nat) (hc0 : d + 1 ≤ 16 → LstSaid list (d + 1) m) (hle : ∀ r c r1, list r = .ok c r1 → r1.length ≤ r.length ∧ 1 ≤ r.length) (n : Nat) (g : Nat) (s : ByteArray) (r : Bytes) (w : World) (h : ParsR w g s r d) (hs : s.size ≤ 8192) (hm : r.length ≤ m) (hn : r.length ≤ n) :
    Calls Try.prog 44 #[.pointer (some ⟨g, 0, none⟩)] w (PPost w g s d (if d + 1 > 16 then failS r 63 else listsF list (n + 1) true [] (lines r)) (isLists w)) := by
  have hgl := h.lt
  have hrl := h.len
  generalize hR : (if d + 1 > 16 then failS r 63 else listsF list (n + 1) true [] (lines r)) = R
  have HR := Lib.hid hR.symm; clear hR
  obtain ⟨a, ha, hre, hl, hA⟩ := h.pos
  obtain ⟨h0, h1, h2, f1, f2, _⟩ := ParsAt.cells hA
  have hA1 := hA.deep' ((d : Int) + 1)
  have r0 : IntKind.i64.wrap ((d : Int) + 1) = (d : Int) + 1 := IntWalk.i64_in _ (by omega)
  have hC1 : Chg (· = g) w (w.setCell ⟨g, 2, none⟩ (.int .i64 ((d : Int) + 1))) := setCell_chg w g 2 _
  go_enter Try.func44, Try.ntmps44
  by_cases h16 : d + 1 > 16
  · have q1 : (16 : Int) < (d : Int) + 1 := by omega
    have HR2 : Hid (R = failS r 63) := Lib.hid (by rw [HR.out, if_pos h16])
    clear HR h16
    go_wp2_with fail
    refine Calls.mono (fail_here g s r ((d : Int) + 1) 63 w _ a hre ha hA1 hC1 (isLists w)) ?_
    rintro e w4 ⟨⟨c4, rfl⟩, hpost, rfl⟩
    go_wp2
    rw [HR2.out]
    exact ⟨rfl, fail_deep _ hpost⟩
  · have q1 : decide ((16 : Int) < (d : Int) + 1) = false := by rw [decide_eq_false_iff_not]; omega
    have HR2 : Hid (R = listsF list (n + 1) true [] (lines r)) := Lib.hid (by rw [HR.out, if_neg h16])
    have hc := hc0 (by omega)
    clear HR h16
    have hP1 : ParsR (w.setCell ⟨g, 2, none⟩ (.int .i64 ((d : Int) + 1))) g s r ((d : Int) + 1) := ⟨a, ha, hre, hA1⟩
    go_wp2_with fail
    refine Calls.mono (lines_calls g s r _ _ hP1 hs) ?_
    rintro e w1 ⟨rfl, hP2, hC2⟩
    have hC3 := hC1.trans hC2 (fun _ h _ => h)
    have hln := lines_le r
    clear h0 h1 h2 f1 f2 hA hA1 hC1 hC2 hP1 q1 hre
    generalize lines r = b at *
    go_wp2
    go_loopg [3, 4] (n + 1) (fun k v fv wr => ListsRel list w g s ((d : Int) + 1) R m k v fv wr)
    case atStart => exact ⟨[], b, true, none, 0, 0, rfl, rfl, rfl, HR2, hP2, by omega, fun _ => by omega, by omega, Own.nil _ _ _ _, hC3⟩
    case round =>
      clear HR2 hP2 hC3 hln hl
      obtain ⟨ls, r, first, A, c, L, rfl, rfl, hL, HR, hP, hk, hgo, hm1, hO, hC⟩ := hrel
      cases first
      case true =>
        obtain ⟨hk1, hk2⟩ := hgo rfl
        obtain ⟨f, rfl⟩ : ∃ f, gk = f + 1 := ⟨gk - 1, by omega⟩
        have HR2 : Hid (R = (list r).bind fun x r1 => listsRest list f (ls ++ [x]) r1) := Lib.hid (by rw [HR.out, listsF_go _ _ _ _ _ rfl]; rfl)
        clear HR hgo hk
        have hk1 : r.length ≤ f := by omega
        go_wp2_with fail
        refine Calls.mono (hc g s r _ hP hs hm1) ?_
        rintro e w1 hp
        rcases ppost_cases hp with ⟨x, r1, v, hX, rfl, ⟨cs1, rfl, hcs⟩, hP1, hC1⟩ | ⟨l, c, k, hX, hk, hl, rfl, hC1⟩
        rotate_left
        · go_wp2
          exact ⟨rfl, by rw [HR2.out, hX]; exact ⟨k, hk, hl, rfl, hC.trans hC1 (fun _ h _ => h)⟩⟩
        clear hp
        obtain ⟨hr1, hr0⟩ := hle _ _ _ hX
        have HR3 : Hid (R = listsRest list f (ls ++ [x]) r1) := Lib.hid (by rw [HR2.out, hX]; rfl)
        obtain ⟨B1, n1, c1, B2, n2, c2, rfl⟩ := lst_form hcs
        have HCS := Lib.hid hcs
        have hO1 := hO.stay hC1 (fun k hk e => by omega)
        have hC2 := hC.trans hC1 (fun _ h _ => h)
        have hvN : ∀ j, (Value.slice A L c).ownBlock = some j → j < wr.heap.size := fun j hj => hO.lt hj
        have hN := hC1.size
        have hZ0 : w.heap.size ≤ wr.heap.size := hC.size
        clear hcs hX HR2 hO hC hP hC1
        go_wp2_with (at_builtin; refine own_append2 (fun j => w.heap.size ≤ j) wr.heap.size rfl _ _ _ _ _ 2 48 rfl Try.underlying37 info_List rfl (by decide) (by decide) (.slice A L c) (Lst.ds ls) x.d _ rfl (by simp [Act.eval]) HCS.out rfl (fun k hk => by omega) hN hvN hO1 (by rw [Lst.ds_map, List.length_map]; omega) ?_)
        intro A3 c3 w3 hO3 hC3'
        have hC3 := hC3'.mono (B' := fun j => w.heap.size ≤ j) (fun k hk _ => hO1.block hk.symm)
        have e1 : (Lst.ds ls).length + 1 = (ls ++ [x]).length := by rw [Lst.ds_map]; simp
        have e2 : Lst.ds ls ++ [x.d] = Lst.ds (ls ++ [x]) := by rw [Lst.ds_map, Lst.ds_map]; simp
        rw [e1, e2] at hO3
        rw [e1]
        generalize hL3 : (ls ++ [x]).length = L3 at hO3 ⊢
        have hLk3 : L3 + r.length ≤ 8194 := by rw [← hL3, List.length_append, List.length_singleton]; omega
        have hP3 := hP1.chg hC3 (by omega)
        have hC4 := hC2.trans hC3 (fun k hk hl => by omega)
        have hSg := sign_calls g s r1 _ w3 hP3 hs
        have hbl := blanks_le r1
        have hsl := sgn_le r1
        have e59 : ((bstr (sgn r1)).toList == [59]) = (sgn r1 == [59]) := by rw [ByteArray.toList_eq, bstr_toList]
        have e10 : ((bstr (sgn r1)).toList == [10]) = (sgn r1 == [10]) := by rw [ByteArray.toList_eq, bstr_toList]
        have hlt10 : (sgn r1 == [10]) = true → (lines (blanks r1)).length < r1.length := by
          intro h
          have := lines_lt (r := blanks r1) (by rw [sgn_idem]; simpa using h)
          omega
        have hlt59 : (sgn r1 == [59]) = true → (lines ((blanks r1).drop 1)).length < r1.length ∧ 1 ≤ (blanks r1).length := by
          intro h
          have h1 := sgn_len h
          have h2 := lines_le ((blanks r1).drop 1)
          simp only [List.length_drop, List.length_cons, List.length_nil] at h2 h1
          omega
        rw [listsRest] at HR3
        clear hO1 hC2 hP1 HCS hN hC3 hC3' e1 e2 hvN
        go_wp2_with fail
        refine Calls.mono hSg ?_
        rintro e w4 ⟨rfl, hP4, hC5⟩
        have hO4 := hO3.stay hC5 (fun k hk e => by omega)
        have hC6 := hC4.trans hC5 (fun _ h _ => h)
        clear hSg hP3 hC4 hC5 hO3
        cases q59 : sgn r1 == [59]
        case true =>
          have HR4 : Hid (R = listsF list f false (ls ++ [x]) (lines ((blanks r1).drop 1))) := Lib.hid (by rw [HR3.out, if_pos q59])
          obtain ⟨hlt, hb1⟩ := hlt59 q59
          rw [q59] at e59
          obtain ⟨a, ha, hbe, hl, hA⟩ := hP4.pos
          obtain ⟨h0, h1, h2', f1, _, hgl4⟩ := ParsAt.cells hA
          have hb2 : a + 1 ≤ s.size := by omega
          have HP := Lib.hid (fun v hv => ParsR.at' hA (a + 1) hb2 v hv)
          have HD : Hid (s.data.toList.drop (a + 1) = (blanks r1).drop 1) := Lib.hid (by rw [hbe, List.drop_drop])
          have r2 : IntKind.i64.wrap ((a : Int) + 1) = (a : Int) + 1 := IntWalk.i64_in _ (by omega)
          clear HR3 q59 hlt59 hlt10 e10 hbe hl hP4 hA hbl hsl r0
          go_wp2_with fail
          refine Calls.mono (lines_calls g s (s.data.toList.drop (a + 1)) _ _ (HP.out _ (by go_num)) hs) ?_
          rintro e w5 ⟨rfl, hP5, hC7⟩
          rw [HD.out] at hP5
          have hCs := setCell_chg w4 g 1 (.int .i64 ((a : Int) + 1))
          have hO5 := (hO4.stay hCs (fun k hk e => by omega)).stay hC7 (fun k hk e => by omega)
          have hC8 := (hC6.trans hCs (fun _ h _ => h)).trans hC7 (fun _ h _ => h)
          clear hO4 hC6 hC7 hCs HP HD h0 h1 h2' f1 r2 e59
          go_wp2
          go_roundg f
          case measure => omega
          case rel => exact ⟨_, _, false, _, _, _, rfl, rfl, hL3, HR4, hP5, by omega, fun _ => by omega, by omega, hO5, hC8⟩
        case false =>
          rw [q59] at e59
          cases q10 : sgn r1 == [10]
          case true =>
            have HR4 : Hid (R = listsF list f false (ls ++ [x]) (lines (blanks r1))) := Lib.hid (by rw [HR3.out, q59, q10]; rfl)
            have hlt := hlt10 q10
            rw [q10] at e10
            clear HR3 q59 q10 hlt59 hlt10 hbl hsl
            go_wp2_with fail
            refine Calls.mono (lines_calls g s (blanks r1) _ _ hP4 hs) ?_
            rintro e w5 ⟨rfl, hP5, hC7⟩
            have hO5 := hO4.stay hC7 (fun k hk e => by omega)
            have hC8 := hC6.trans hC7 (fun _ h _ => h)
            clear hO4 hC6 hC7 hP4 e59 e10
            go_wp2
            go_roundg f
            case measure => omega
            case rel => exact ⟨_, _, false, _, _, _, rfl, rfl, hL3, HR4, hP5, by omega, fun _ => by omega, by omega, hO5, hC8⟩
          case false =>
            rw [q10] at e10
            have hOv := over_calls g s (blanks r1) _ w4 hP4 hs
            have hbl2 := blanks_le (blanks r1)
            cases hov : over (blanks r1)
            case true =>
              have HR4 : Hid (R = listsF list f false (ls ++ [x]) (blanks (blanks r1))) := Lib.hid (by rw [HR3.out, q59, q10, hov]; rfl)
              have hov2 : over (blanks (blanks r1)) = true := by rw [over_idem0]; exact hov
              rw [hov] at hOv
              clear HR3 q59 q10 hlt59 hlt10 hsl hov hP4
              go_wp2_with fail
              refine Calls.mono hOv ?_
              rintro e w5 ⟨rfl, hP5, hC7⟩
              have hO5 := hO4.stay hC7 (fun k hk e => by omega)
              have hC8 := hC6.trans hC7 (fun _ h _ => h)
              clear hO4 hC6 hC7 e59 e10 hOv
              go_wp2
              go_roundg f
              case measure => omega
              case rel => exact ⟨_, _, false, _, _, _, rfl, rfl, hL3, HR4, hP5, by omega, fun h => absurd h (by rw [hov2]; simp), by omega, hO5, hC8⟩
            case false =>
              have HR4 : Hid (R = failS (blanks (blanks r1)) 61) := Lib.hid (by rw [HR3.out, q59, q10, hov]; rfl)
              rw [hov] at hOv
              clear HR3 q59 q10 hlt59 hlt10 hsl hov hP4
              go_wp2_with fail
              refine Calls.mono hOv ?_
              rintro e w5 ⟨rfl, hP5, hC7⟩
              have hC8 := hC6.trans hC7 (fun _ h _ => h)
              obtain ⟨a, ha, hbe, hl, hA⟩ := hP5.pos
              obtain ⟨h0, h1, h2', f1, _, hgl4⟩ := ParsAt.cells hA
              have HB := Lib.hid hbe
              clear hO4 hC6 hC7 e59 e10 hOv hbe hl hP5
              go_wp2_with fail
              refine Calls.mono (fail_here g s _ _ 61 w w5 a HB.out ha hA hC8 (isLists w)) ?_
              rintro e w6 ⟨⟨c6, rfl⟩, hpost, rfl⟩
              go_wp2
              rw [HR4.out]
              exact ⟨rfl, fail_deep _ hpost⟩
      case false =>
        have hOv := over_calls g s r _ wr hP hs
        have hbl := blanks_le r
        cases hov : over r
        case true =>
          obtain ⟨f, rfl⟩ : ∃ f, gk = f + 1 := ⟨gk - 1, by omega⟩
          have HR2 : Hid (R = .ok ls (blanks r)) := Lib.hid (by rw [HR.out, listsF_stop _ _ _ _ _ (by rw [hov]; rfl)])
          rw [hov] at hOv
          clear HR hov hgo
          go_wp2_with fail
          refine Calls.mono hOv ?_
          rintro e w4 ⟨rfl, hP4, hC4⟩
          obtain ⟨a4, ha4, hre, hl, hA⟩ := hP4.pos
          obtain ⟨h0, h1, h2, f1, f2, _⟩ := ParsAt.cells hA
          have hA1 := hA.deep' (d : Int)
          have r1 : IntKind.i64.wrap ((d : Int) + 1 - 1) = (d : Int) := by rw [show (d : Int) + 1 - 1 = d by omega]; exact IntWalk.i64_in _ (by omega)
          have hC5 := (hC.trans hC4 (fun _ h _ => h)).setCell (p := ⟨g, 2, none⟩) (fun _ => rfl) (.int .i64 (d : Int))
          have hO5 := (hO.stay hC4 (fun k hk e => by omega)).stay (setCell_chg w4 g 2 (.int .i64 (d : Int))) (fun k hk e => by omega)
          have HB := Lib.hid hre
          clear hre hl hP4 hC4 hO hC hOv h0 h1 r0 hA
          go_wp2
          go_ret
          rw [HR2.out]
          refine ⟨.slice A L c, rfl, ⟨A, c, by rw [hL], hO5.rep⟩, ⟨a4, ha4, HB.out, hA1⟩, hC5⟩
        case false =>
          obtain ⟨hk1, hk2⟩ := hgo (by rw [hov]; rfl)
          obtain ⟨f, rfl⟩ : ∃ f, gk = f + 1 := ⟨gk - 1, by omega⟩
          have HR2 : Hid (R = (list (blanks r)).bind fun x r1 => listsRest list f (ls ++ [x]) r1) := Lib.hid (by rw [HR.out, listsF_go _ _ _ _ _ (by rw [hov]; rfl)]; rfl)
          rw [hov] at hOv
          clear HR hov hgo hk
          go_wp2_with fail
          refine Calls.mono hOv ?_
          rintro e w4 ⟨rfl, hP4, hC4⟩
          have hO4 := hO.stay hC4 (fun k hk e => by omega)
          have hC5 := hC.trans hC4 (fun _ h _ => h)
          clear hO hC hOv hP
          have hO := hO4
          have hC := hC5
          have hP := hP4
          have hk1 : (blanks r).length ≤ f := by omega
          have hk2 : L + (blanks r).length ≤ 8193 := by omega
          have hm1 : (blanks r).length ≤ m := by omega
          clear hO4 hC5 hP4 hbl hC4
          generalize blanks r = r at *
          generalize w4 = wr at *
          go_wp2_with fail
          refine Calls.mono (hc g s r _ hP hs hm1) ?_
          rintro e w1 hp
          rcases ppost_cases hp with ⟨x, r1, v, hX, rfl, ⟨cs1, rfl, hcs⟩, hP1, hC1⟩ | ⟨l, c, k, hX, hk, hl, rfl, hC1⟩
          rotate_left
          · go_wp2
            exact ⟨rfl, by rw [HR2.out, hX]; exact ⟨k, hk, hl, rfl, hC.trans hC1 (fun _ h _ => h)⟩⟩
          clear hp
          obtain ⟨hr1, hr0⟩ := hle _ _ _ hX
          have HR3 : Hid (R = listsRest list f (ls ++ [x]) r1) := Lib.hid (by rw [HR2.out, hX]; rfl)
          obtain ⟨B1, n1, c1, B2, n2, c2, rfl⟩ := lst_form hcs
          have HCS := Lib.hid hcs
          have hO1 := hO.stay hC1 (fun k hk e => by omega)
          have hC2 := hC.trans hC1 (fun _ h _ => h)
          have hvN : ∀ j, (Value.slice A L c).ownBlock = some j → j < wr.heap.size := fun j hj => hO.lt hj
          have hN := hC1.size
          have hZ0 : w.heap.size ≤ wr.heap.size := hC.size
          clear hcs hX HR2 hO hC hP hC1
          go_wp2_with (at_builtin; refine own_append2 (fun j => w.heap.size ≤ j) wr.heap.size rfl _ _ _ _ _ 2 48 rfl Try.underlying37 info_List rfl (by decide) (by decide) (.slice A L c) (Lst.ds ls) x.d _ rfl (by simp [Act.eval]) HCS.out rfl (fun k hk => by omega) hN hvN hO1 (by rw [Lst.ds_map, List.length_map]; omega) ?_)
          intro A3 c3 w3 hO3 hC3'
          have hC3 := hC3'.mono (B' := fun j => w.heap.size ≤ j) (fun k hk _ => hO1.block hk.symm)
          have e1 : (Lst.ds ls).length + 1 = (ls ++ [x]).length := by rw [Lst.ds_map]; simp
          have e2 : Lst.ds ls ++ [x.d] = Lst.ds (ls ++ [x]) := by rw [Lst.ds_map, Lst.ds_map]; simp
          rw [e1, e2] at hO3
          rw [e1]
          generalize hL3 : (ls ++ [x]).length = L3 at hO3 ⊢
          have hLk3 : L3 + r.length ≤ 8194 := by rw [← hL3, List.length_append, List.length_singleton]; omega
          have hP3 := hP1.chg hC3 (by omega)
          have hC4 := hC2.trans hC3 (fun k hk hl => by omega)
          have hSg := sign_calls g s r1 _ w3 hP3 hs
          have hbl := blanks_le r1
          have hsl := sgn_le r1
          have e59 : ((bstr (sgn r1)).toList == [59]) = (sgn r1 == [59]) := by rw [ByteArray.toList_eq, bstr_toList]
          have e10 : ((bstr (sgn r1)).toList == [10]) = (sgn r1 == [10]) := by rw [ByteArray.toList_eq, bstr_toList]
          have hlt10 : (sgn r1 == [10]) = true → (lines (blanks r1)).length < r1.length := by
            intro h
            have := lines_lt (r := blanks r1) (by rw [sgn_idem]; simpa using h)
            omega
          have hlt59 : (sgn r1 == [59]) = true → (lines ((blanks r1).drop 1)).length < r1.length ∧ 1 ≤ (blanks r1).length := by
            intro h
            have h1 := sgn_len h
            have h2 := lines_le ((blanks r1).drop 1)
            simp only [List.length_drop, List.length_cons, List.length_nil] at h2 h1
            omega
          rw [listsRest] at HR3
          clear hO1 hC2 hP1 HCS hN hC3 hC3' e1 e2 hvN
          go_wp2_with fail
          refine Calls.mono hSg ?_
          rintro e w4 ⟨rfl, hP4, hC5⟩
          have hO4 := hO3.stay hC5 (fun k hk e => by omega)
          have hC6 := hC4.trans hC5 (fun _ h _ => h)
          clear hSg hP3 hC4 hC5 hO3
          cases q59 : sgn r1 == [59]
          case true =>
            have HR4 : Hid (R = listsF list f false (ls ++ [x]) (lines ((blanks r1).drop 1))) := Lib.hid (by rw [HR3.out, if_pos q59])
            obtain ⟨hlt, hb1⟩ := hlt59 q59
            rw [q59] at e59
            obtain ⟨a, ha, hbe, hl, hA⟩ := hP4.pos
            obtain ⟨h0, h1, h2', f1, _, hgl4⟩ := ParsAt.cells hA
            have hb2 : a + 1 ≤ s.size := by omega
            have HP := Lib.hid (fun v hv => ParsR.at' hA (a + 1) hb2 v hv)
            have HD : Hid (s.data.toList.drop (a + 1) = (blanks r1).drop 1) := Lib.hid (by rw [hbe, List.drop_drop])
            have r2 : IntKind.i64.wrap ((a : Int) + 1) = (a : Int) + 1 := IntWalk.i64_in _ (by omega)
            clear HR3 q59 hlt59 hlt10 e10 hbe hl hP4 hA hbl hsl r0
            go_wp2_with fail
            refine Calls.mono (lines_calls g s (s.data.toList.drop (a + 1)) _ _ (HP.out _ (by go_num)) hs) ?_
            rintro e w5 ⟨rfl, hP5, hC7⟩
            rw [HD.out] at hP5
            have hCs := setCell_chg w4 g 1 (.int .i64 ((a : Int) + 1))
            have hO5 := (hO4.stay hCs (fun k hk e => by omega)).stay hC7 (fun k hk e => by omega)
            have hC8 := (hC6.trans hCs (fun _ h _ => h)).trans hC7 (fun _ h _ => h)
            clear hO4 hC6 hC7 hCs HP HD h0 h1 h2' f1 r2 e59
            go_wp2
            go_roundg f
            case measure => omega
            case rel => exact ⟨_, _, false, _, _, _, rfl, rfl, hL3, HR4, hP5, by omega, fun _ => by omega, by omega, hO5, hC8⟩
          case false =>
            rw [q59] at e59
            cases q10 : sgn r1 == [10]
            case true =>
              have HR4 : Hid (R = listsF list f false (ls ++ [x]) (lines (blanks r1))) := Lib.hid (by rw [HR3.out, q59, q10]; rfl)
              have hlt := hlt10 q10
              rw [q10] at e10
              clear HR3 q59 q10 hlt59 hlt10 hbl hsl
              go_wp2_with fail
              refine Calls.mono (lines_calls g s (blanks r1) _ _ hP4 hs) ?_
              rintro e w5 ⟨rfl, hP5, hC7⟩
              have hO5 := hO4.stay hC7 (fun k hk e => by omega)
              have hC8 := hC6.trans hC7 (fun _ h _ => h)
              clear hO4 hC6 hC7 hP4 e59 e10
              go_wp2
              go_roundg f
              case measure => omega
              case rel => exact ⟨_, _, false, _, _, _, rfl, rfl, hL3, HR4, hP5, by omega, fun _ => by omega, by omega, hO5, hC8⟩
            case false =>
              rw [q10] at e10
              have hOv := over_calls g s (blanks r1) _ w4 hP4 hs
              have hbl2 := blanks_le (blanks r1)
              cases hov : over (blanks r1)
              case true =>
                have HR4 : Hid (R = listsF list f false (ls ++ [x]) (blanks (blanks r1))) := Lib.hid (by rw [HR3.out, q59, q10, hov]; rfl)
                have hov2 : over (blanks (blanks r1)) = true := by rw [over_idem0]; exact hov
                rw [hov] at hOv
                clear HR3 q59 q10 hlt59 hlt10 hsl hov hP4
                go_wp2_with fail
                refine Calls.mono hOv ?_
                rintro e w5 ⟨rfl, hP5, hC7⟩
                have hO5 := hO4.stay hC7 (fun k hk e => by omega)
                have hC8 := hC6.trans hC7 (fun _ h _ => h)
                clear hO4 hC6 hC7 e59 e10 hOv
                go_wp2
                go_roundg f
                case measure => omega
                case rel => exact ⟨_, _, false, _, _, _, rfl, rfl, hL3, HR4, hP5, by omega, fun h => absurd h (by rw [hov2]; simp), by omega, hO5, hC8⟩
              case false =>
                have HR4 : Hid (R = failS (blanks (blanks r1)) 61) := Lib.hid (by rw [HR3.out, q59, q10, hov]; rfl)
                rw [hov] at hOv
                clear HR3 q59 q10 hlt59 hlt10 hsl hov hP4
                go_wp2_with fail
                refine Calls.mono hOv ?_
                rintro e w5 ⟨rfl, hP5, hC7⟩
                have hC8 := hC6.trans hC7 (fun _ h _ => h)
                obtain ⟨a, ha, hbe, hl, hA⟩ := hP5.pos
                obtain ⟨h0, h1, h2', f1, _, hgl4⟩ := ParsAt.cells hA
                have HB := Lib.hid hbe
                clear hO4 hC6 hC7 e59 e10 hOv hbe hl hP5
                go_wp2_with fail
                refine Calls.mono (fail_here g s _ _ 61 w w5 a HB.out ha hA hC8 (isLists w)) ?_
                rintro e w6 ⟨⟨c6, rfl⟩, hpost, rfl⟩
                go_wp2
                rw [HR4.out]
                exact ⟨rfl, fail_deep _ hpost⟩
end Go.Proofs.Ytdfnkmiabmjolaa
