/- What a method comes to, by cases; append inside a region that draws; the forms of trees' cells. And what stands with it. -/
import Derived.Test.YtdfnkmiabmjolaaGreatDoorJ8
import Derived.OrdersHeld
import Derived.StillTail
set_option linter.unusedVariables false
set_option linter.unusedSimpArgs false
namespace Go.Proofs.YtdfnkmiabmjolaaGreatDoor
open Go.RowKit
theorem ppost_cases {α : Type} {w : World} {g : Nat} {s : ByteArray} {d : Int} {R : Rs α} {val : α → Value → World → Prop} {e : Ending} {w' : World} (h : PPost w g s d R val e w') :
  (∃ a rest v, R = .ok a rest ∧ e = .returned v ∧ val a v w' ∧ ParsR w' g s rest d ∧ Chg (· = g) w w') ∨ (∃ left c k, R = .err left c ∧ k ≤ s.size ∧ left = s.size - k ∧ e = .panicked (faultS k c) ∧ Chg (· = g) w w') := by
 cases R with
 | ok a r =>
  obtain ⟨v, h1, h2, h3, h4⟩ := h
  exact .inl ⟨a, r, v, rfl, h1, h2, h3, h4⟩
 | err l c =>
  obtain ⟨k, h1, h2, h3, h4⟩ := h
  exact .inr ⟨l, c, k, rfl, h1, h2, h3, h4⟩
theorem fail_deep {α : Type} {w : World} {g : Nat} {s : ByteArray} {d : Int} (d2 : Int) {b : Bytes} {x : Int} {val : α → Value → World → Prop} {e : Ending} {w' : World} (h : PPost w g s d (failS b x) val e w') : PPost w g s d2 (failS b x) val e w' := by
 unfold failS failP PPost at *
 by_cases hh : (b.length == 0 && x == 61) = true
 ·rw [if_pos hh] at h ⊢; exact h
 ·rw [if_neg hh] at h ⊢; exact h
theorem setCell_chg (w : World) (X i : Nat) (v : Value) : Chg (· = X) w (w.setCell ⟨X, i, none⟩ v) := (Chg.refl (· = X) w).setCell (fun _ => rfl) v
theorem own_append2 {P : Program} {W : World} {ops : Array Oper} {rest : List Oper} {o : Oper} {a : Act} {Q : Exit → Act → World → Prop} (S : Nat → Prop) (N : Nat) (hgd : o.guard = none) (s x : Operand) (t e : TypeId) (z : Value) (sz bytes : Nat)
  (ho : o.op = .call { callee := .builtin .append, args := #[s, x], argTypes := #[t, t] }) (ht : P.underlying t = some (.slice e))
  (hinfo : (P.info? e).map (fun i => (i.zero, i.size, i.bytes)) = some (some z, sz, bytes)) (hz : z.cells.size = sz) (hs0 : 0 < sz) (hb0 : 0 < bytes)
  (v : Value) (xs : List D) (d : D) (ys : List Value) (hs : a.eval s = v) (hx : a.eval x = .slice (some ⟨W.heap.size, 0, none⟩) 1 1) (hd : Rep W (fun k => N ≤ k) d ys) (hys : ys.length = sz)
  (hS : ∀ k, N ≤ k → S k) (hN : N ≤ W.heap.size) (hv : ∀ k, v.ownBlock = some k → k < N) (HO : Own W S e sz v xs) (hl : (xs.length + 1) * bytes ≤ 140737488355328)
  (h : ∀ A c w1, Own w1 S e sz (.slice A (xs.length + 1) c) (xs ++ [d]) → Chg (fun k => some k = v.ownBlock) W w1 → wpList P ops Q rest (a.put o.dst (.slice A (xs.length + 1) c)) w1) :
  wpList P ops Q (o :: rest) a (W.alloc (.cells ys.toArray e)) := by
 refine own_append S (fun k => N ≤ k) hgd s x t e z sz bytes ho ht hinfo hz hs0 hb0 v xs d ys hs hx hd hys (fun k hk _ => ⟨hS k hk, fun e => by have := hv k e.symm; omega⟩) HO hl ?_
 intro v1 w1 hO hg _
 have hO' : Own w1 S e sz v1 (xs ++ [d]) := hO.mono (fun k hk _ => hk.elim id (fun hk => hS k (by omega)))
 obtain ⟨A, c, rfl, _, _⟩ := hO'.form
 simp only [List.length_append, List.length_cons, List.length_nil, Nat.zero_add] at hO' ⊢
 exact h A c w1 hO' (Chg.of_grown hg)
theorem wpAny_load_ahead {P : Program} {ops : Array Oper} {Q : Exit → Act → World → Prop} {md : Region.Mode} (S : World → Prop) {i c c2 : Nat} {oi oc oc2 : Oper} (v : Value) {fuel : Nat} {listed : Array Bool} {a : Act} {w : World} (hi : ops[i]? = some oi) (hc : ops[c]? = some oc) (hc2 : ops[c2]? = some oc2)
  (hne : i ≠ c) (hne2 : i ≠ c2) (hsel : Region.noSelect ops = true) (hap : oi.apart ops oc = true) (hap2 : oi.apart ops oc2 = true) (hQ : ∀ c a w, Q (.panic c) (a.put oi.dst v) w → Q (.panic c) a w) (hr : Region.ready md ops listed = [i, c])
  (hr1 : Region.ready md ops (listed.setIfInBounds i true) = [c]) (hr2 : Region.ready md ops (listed.setIfInBounds c true) = [i, c2]) (hr3 : Region.ready md ops ((listed.setIfInBounds i true).setIfInBounds c true) = [c2])
  (hr4 : Region.ready md ops ((listed.setIfInBounds c true).setIfInBounds c2 true) = [i]) (hy : YieldsIf P ops S oi v a) (hS : S w)
  (H : wpOp P ops Q c (fun a' w' => S w' ∧ wpOp P ops Q c2 (fun a'' w'' => S w'' ∧ wpAny P md ops Q fuel (((listed.setIfInBounds i true).setIfInBounds c true).setIfInBounds c2 true) a'' w'') a' w') (a.put oi.dst v) w) : wpAny P md ops Q (fuel + 3) listed a w := by
 have hsi := fun cs b => Region.noSelect_spec hsel i oi cs b hi
 have hsc := fun cs b => Region.noSelect_spec hsel c oc cs b hc
 have hsc2 := fun cs b => Region.noSelect_spec hsel c2 oc2 cs b hc2
 have e1 : (listed.setIfInBounds c true).setIfInBounds i true = (listed.setIfInBounds i true).setIfInBounds c true := Array.setIfInBounds_comm _ _ (Ne.symm hne)
 refine wpAny_all hr (by simp) ?_
 intro j hj
 simp only [List.mem_cons, List.not_mem_nil, or_false] at hj
 rcases hj with rfl | rfl
 ·refine hy.wpOp hi hS (wpAny_all hr1 (by simp) ?_)
  intro k hk
  simp only [List.mem_cons, List.not_mem_nil, or_false] at hk
  subst hk
  refine wpOp_mono (fun a' w' h => wpAny_all hr3 (by simp) ?_) H
  intro k hk
  simp only [List.mem_cons, List.not_mem_nil, or_false] at hk
  subst hk
  exact wpOp_mono (fun a w h => h.2) h.2
 ·refine wpOp_mono (fun a' w' h => ?_) (wpOp_putIf hc hap hsi hsc hQ hy H)
  obtain ⟨hy', hS', hW⟩ := h
  refine wpAny_all hr2 (by simp) ?_
  intro k hk
  simp only [List.mem_cons, List.not_mem_nil, or_false] at hk
  rcases hk with rfl | rfl
  ·refine hy'.wpOp hi hS' ?_
   rw [e1]
   refine wpAny_all hr3 (by simp) ?_
   intro k hk
   simp only [List.mem_cons, List.not_mem_nil, or_false] at hk
   subst hk
   exact wpOp_mono (fun a w h => h.2) hW
  ·refine wpOp_mono (fun a'' w'' h => ?_) (wpOp_putIf hc2 hap2 hsi hsc2 hQ hy' hW)
   obtain ⟨hy'', hS'', hW''⟩ := h
   refine wpAny_all hr4 (by simp) ?_
   intro k hk
   simp only [List.mem_cons, List.not_mem_nil, or_false] at hk
   subst hk
   refine hy''.wpOp hi hS'' ?_
   rw [Array.setIfInBounds_comm _ _ (Ne.symm hne2), e1]
   exact hW''
theorem wpAny_tail {P : Program} {Q : Exit → Act → World → Prop} {l : List Oper} (k g : Nat) {listed : Array Bool} {a : Act} {w : World} (hg : (l.drop k).length = g) (hB : Region.seqB .any l.toArray g k listed = true) (h : wpList P l.toArray Q (l.drop k) a w) : wpAny P .any l.toArray Q g listed a w := by
 subst hg
 exact wpAny_of_seq (md := .any) (l.drop k) k listed a w (fun j => by simp [List.getElem?_drop]) hB h
theorem own_one {W : World} {S2 : Nat → Prop} {e sz : Nat} {d : D} {ys : List Value} (hd : Rep W S2 d ys) (hys : ys.length = sz) : Own (W.alloc (.cells ys.toArray e)) (fun k => S2 k ∨ k = W.heap.size) e sz (.slice (some ⟨W.heap.size, 0, none⟩) 1 1) [d] := by
 refine ⟨ys, ⟨by simp [hys], .inr ⟨W.heap.size, 1, ys.toArray, rfl, Nat.zero_le _, heap_alloc_new W _, Nat.le_refl _, by simp [maxLen], by simp [hys], by simp [← hys]⟩⟩, fun k hk => ?_, ?_⟩
 ·simp [Value.ownBlock] at hk
  exact .inr hk.symm
 ·refine ⟨ys, [], by simp, hys, Rep.move (Same.alloc _ W _) (fun k hk hl => ⟨.inl hk, ?_⟩) _ _ hd, rfl⟩
  simp [Value.ownBlock]; omega
def Row (w : World) (Z X : Nat) (e sz : Nat) (v : Value) (xs : List D) (S : Nat → Prop) : Prop := Own w S e sz v xs ∧ ∀ k, S k → Z < k ∧ k ≠ X ∧ k < w.heap.size
theorem Row.stay {w w' : World} {Z X e sz : Nat} {v : Value} {xs : List D} {S B : Nat → Prop} (h : Row w Z X e sz v xs S) (hc : Chg B w w') (hB : ∀ k, Z < k → k ≠ X → k < w.heap.size → ¬ B k) : Row w' Z X e sz v xs S :=
 ⟨h.1.move (hc.same (fun k hk _ => hB k (h.2 k hk).1 (h.2 k hk).2.1 (h.2 k hk).2.2)) (fun _ h _ => h), fun k hk => ⟨(h.2 k hk).1, (h.2 k hk).2.1, Nat.lt_of_lt_of_le (h.2 k hk).2.2 hc.size⟩⟩
theorem Row.apart {w w' : World} {Z X e sz : Nat} {v : Value} {xs : List D} {S B : Nat → Prop} (h : Row w Z X e sz v xs S) (hc : Chg B w w') (hB : ∀ k, S k → ¬ B k) : Row w' Z X e sz v xs S :=
 ⟨h.1.stay hc hB, fun k hk => ⟨(h.2 k hk).1, (h.2 k hk).2.1, Nat.lt_of_lt_of_le (h.2 k hk).2.2 hc.size⟩⟩
theorem Row.drew {w : World} {Z X e sz : Nat} {v : Value} {xs : List D} {S : Nat → Prop} (h : Row w Z X e sz v xs S) (n : Nat) : Row (w.drewN n) Z X e sz v xs S := h.apart ((Chg.refl (fun _ => False) w).drewN n) (fun _ _ e => e)
theorem Row.form {w : World} {Z X e sz : Nat} {v : Value} {xs : List D} {S : Nat → Prop} (h : Row w Z X e sz v xs S) : ∃ A c, v = .slice A xs.length c := by
 obtain ⟨A, c, h1, _⟩ := h.1.form
 exact ⟨A, c, h1⟩
theorem Row.lt {w : World} {Z X e sz : Nat} {v : Value} {xs : List D} {S : Nat → Prop} (h : Row w Z X e sz v xs S) : ∀ k, S k → k < w.heap.size := fun k hk => (h.2 k hk).2.2
theorem Row.none (w : World) (Z X e sz : Nat) : Row w Z X e sz (.slice none 0 0) [] (fun _ => False) := ⟨Own.nil _ _ _ _, fun _ h => h.elim⟩
theorem Row.rep {w : World} {Z X e sz : Nat} {v : Value} {xs : List D} {S : Nat → Prop} (h : Row w Z X e sz v xs S) : Rep w (fun k => Z < k ∧ k ≠ X) (.sl e sz xs) [v] := h.1.rep.mono (fun k hk _ => ⟨(h.2 k hk).1, (h.2 k hk).2.1⟩)
theorem row_append {P : Program} {W : World} {ops : Array Oper} {rest : List Oper} {o : Oper} {a : Act} {Q : Exit → Act → World → Prop} (Z X : Nat) (S : Nat → Prop) (N : Nat) (hgd : o.guard = none) (s x : Operand) (t e : TypeId) (z : Value) (sz bytes : Nat)
  (ho : o.op = .call { callee := .builtin .append, args := #[s, x], argTypes := #[t, t] }) (ht : P.underlying t = some (.slice e))
  (hinfo : (P.info? e).map (fun i => (i.zero, i.size, i.bytes)) = some (some z, sz, bytes)) (hz : z.cells.size = sz) (hs0 : 0 < sz) (hb0 : 0 < bytes)
  (v : Value) (xs : List D) (d : D) (ys : List Value) (hs : a.eval s = v) (hx : a.eval x = .slice (some ⟨W.heap.size, 0, none⟩) 1 1) (hd : Rep W (fun k => N ≤ k) d ys) (hys : ys.length = sz)
  (hN : N ≤ W.heap.size) (hZ : Z < N) (hX : X < N) (HO : Row W Z X e sz v xs S) (hSN : ∀ k, S k → k < N) (hl : (xs.length + 1) * bytes ≤ 140737488355328)
  (h : ∀ A c w1 S', Row w1 Z X e sz (.slice A (xs.length + 1) c) (xs ++ [d]) S' → (∀ k, S' k → S k ∨ N ≤ k) → Chg S W w1 → wpList P ops Q rest (a.put o.dst (.slice A (xs.length + 1) c)) w1) :
  wpList P ops Q (o :: rest) a (W.alloc (.cells ys.toArray e)) := by
 refine own_append2 (fun k => S k ∨ N ≤ k) N hgd s x t e z sz bytes ho ht hinfo hz hs0 hb0 v xs d ys hs hx hd hys (fun k hk => .inr hk) hN (fun k hk => hSN k (HO.1.block hk)) (HO.1.mono (fun k hk _ => .inl hk)) hl ?_
 intro A c w1 hO hC
 have hC' : Chg S W w1 := hC.mono (fun k hk _ => HO.1.block hk.symm)
 exact h A c w1 _ ⟨hO.bound, fun k hk => by
  rcases hk with ⟨hk | hk, hl⟩
  ·exact ⟨(HO.2 k hk).1, (HO.2 k hk).2.1, hl⟩
  ·exact ⟨by omega, by omega, hl⟩⟩ (fun k hk => hk.1) hC'
theorem sl_form {w : World} {S : Nat → Prop} {e sz : Nat} {xs : List D} {v : Value} (h : Rep w S (.sl e sz xs) [v]) : ∃ A c, v = .slice A xs.length c := by
 obtain ⟨A, c, inner, h1, _⟩ := h
 exact ⟨A, c, by simpa using h1⟩
theorem cmd_form {w : World} {S : Nat → Prop} {c : Cmd} {cs : List Value} (h : Rep w S c.d cs) : ∃ k n A1 n1 c1 A2 n2 c2 A3 n3 c3 A4 n4 c4 A5 n5 c5 A6 n6 c6 A7 n7 c7,
  cs = [.int .i64 k, .string n, .slice A1 n1 c1, .slice A2 n2 c2, .slice A3 n3 c3, .slice A4 n4 c4, .slice A5 n5 c5, .slice A6 n6 c6, .slice A7 n7 c7] := by
 obtain ⟨k, n, xs, ws, co, bo, ot, ca, rs⟩ := c
 obtain ⟨v1, v2, v3, v4, v5, v6, v7, rfl, h1, h2, h3, h4, h5, h6, h7⟩ := cmd_rep.1 h
 obtain ⟨A1, c1, rfl⟩ := sl_form h1
 obtain ⟨A2, c2, rfl⟩ := sl_form h2
 obtain ⟨A3, c3, rfl⟩ := sl_form h3
 obtain ⟨A4, c4, rfl⟩ := sl_form h4
 obtain ⟨A5, c5, rfl⟩ := sl_form h5
 obtain ⟨A6, c6, rfl⟩ := sl_form h6
 obtain ⟨A7, c7, rfl⟩ := sl_form h7
 exact ⟨_, _, _, _, _, _, _, _, _, _, _, _, _, _, _, _, _, _, _, _, _, _, _, rfl⟩
theorem pip_form {w : World} {S : Nat → Prop} {c : Pip} {cs : List Value} (h : Rep w S c.d cs) : ∃ b A n c, cs = [.bool b, .slice A n c] := by
 obtain ⟨neg, l⟩ := c
 obtain ⟨v, rfl, h1⟩ := pip_rep.1 h
 obtain ⟨A, c, rfl⟩ := sl_form h1
 exact ⟨_, _, _, _, rfl⟩
theorem lst_form {w : World} {S : Nat → Prop} {c : Lst} {cs : List Value} (h : Rep w S c.d cs) : ∃ A n c A2 n2 c2, cs = [.slice A n c, .slice A2 n2 c2] := by
 obtain ⟨ps, os⟩ := c
 obtain ⟨v, v2, rfl, h1, h2⟩ := lst_rep.1 h
 obtain ⟨A, c, rfl⟩ := sl_form h1
 obtain ⟨A2, c2, rfl⟩ := sl_form h2
 exact ⟨_, _, _, _, _, _, rfl⟩
theorem rdr_form {w : World} {S : Nat → Prop} {c : Rdr} {cs : List Value} (h : Rep w S c.d cs) : ∃ f o A n c, cs = [.int .i64 f, .string o, .slice A n c] := by
 obtain ⟨f, o, wd⟩ := c
 obtain ⟨v, rfl, h1⟩ := rdr_rep.1 h
 obtain ⟨A, c, rfl⟩ := sl_form h1
 exact ⟨_, _, _, _, _, rfl⟩
theorem asg_form {w : World} {S : Nat → Prop} {c : Asg} {cs : List Value} (h : Rep w S c.d cs) : ∃ o A n c, cs = [.string o, .slice A n c] := by
 obtain ⟨o, wd⟩ := c
 obtain ⟨v, rfl, h1⟩ := asg_rep.1 h
 obtain ⟨A, c, rfl⟩ := sl_form h1
 exact ⟨_, _, _, _, rfl⟩
theorem rep_max {w : World} {S : Nat → Prop} {e sz : Nat} {xs : List D} {A : Option Addr} {n c : Nat} (h : Rep w S (.sl e sz xs) [.slice A n c]) : n = xs.length ∧ xs.length ≤ c ∧ c ≤ 9223372036854775807 := by
 obtain ⟨_, _, _, h1, h2, h3, _⟩ := h
 simp only [List.cons.injEq, Value.slice.injEq, and_true] at h1
 unfold maxLen at h3
 exact ⟨h1.2.1, by omega, by omega⟩
theorem word_formF {w : World} {S : Nat → Prop} {p : List Part} {cs : List Value} (h : Rep w S (wordD p) cs) : ∃ a n c, cs = [.slice a n c] := by
 obtain ⟨v, rfl, h⟩ := rep_sl h
 obtain ⟨A, c, rfl⟩ := sl_form2 h
 exact ⟨_, _, _, rfl⟩
theorem asg_formF {w : World} {S : Nat → Prop} {x : Asg} {cs : List Value} (h : Rep w S x.d cs) : ∃ s a n c, cs = [.string s, .slice a n c] := by
 obtain ⟨v, rfl, h'⟩ := asg_rep.1 h
 obtain ⟨A, c, rfl⟩ := sl_form2 h'
 exact ⟨_, _, _, _, rfl⟩
theorem rdr_formF {w : World} {S : Nat → Prop} {x : Rdr} {cs : List Value} (h : Rep w S x.d cs) : ∃ f s a n c, cs = [.int .i64 f, .string s, .slice a n c] := by
 obtain ⟨v, rfl, h'⟩ := rdr_rep.1 h
 obtain ⟨A, c, rfl⟩ := sl_form2 h'
 exact ⟨_, _, _, _, _, rfl⟩
theorem cas_formF {w : World} {S : Nat → Prop} {x : Cas} {cs : List Value} (h : Rep w S x.d cs) : ∃ a n c a1 n1 c1, cs = [.slice a n c, .slice a1 n1 c1] := by
 obtain ⟨ps, b⟩ := x
 obtain ⟨v1, v2, rfl, h1, h2⟩ := cas_rep.1 h
 obtain ⟨A, c, rfl⟩ := sl_form2 h1
 obtain ⟨A, c, rfl⟩ := sl_form2 h2
 exact ⟨_, _, _, _, _, _, rfl⟩
theorem pip_formF {w : World} {S : Nat → Prop} {x : Pip} {cs : List Value} (h : Rep w S x.d cs) : ∃ b a n c, cs = [.bool b, .slice a n c] := by
 obtain ⟨ng, l⟩ := x
 obtain ⟨v, rfl, h'⟩ := pip_rep.1 h
 obtain ⟨A, c, rfl⟩ := sl_form2 h'
 exact ⟨_, _, _, _, rfl⟩
theorem lst_formF {w : World} {S : Nat → Prop} {x : Lst} {cs : List Value} (h : Rep w S x.d cs) : ∃ a n c a1 n1 c1, cs = [.slice a n c, .slice a1 n1 c1] := by
 obtain ⟨ps, os⟩ := x
 obtain ⟨v1, v2, rfl, h1, h2⟩ := lst_rep.1 h
 obtain ⟨A, c, rfl⟩ := sl_form2 h1
 obtain ⟨A, c, rfl⟩ := sl_form2 h2
 exact ⟨_, _, _, _, _, _, rfl⟩
theorem cmd_formF {w : World} {S : Nat → Prop} {x : Cmd} {cs : List Value} (h : Rep w S x.d cs) : ∃ k s a1 n1 c1 a2 n2 c2 a3 n3 c3 a4 n4 c4 a5 n5 c5 a6 n6 c6 a7 n7 c7, cs = [.int .i64 k, .string s, .slice a1 n1 c1, .slice a2 n2 c2, .slice a3 n3 c3, .slice a4 n4 c4, .slice a5 n5 c5, .slice a6 n6 c6, .slice a7 n7 c7] := by
 obtain ⟨k, n, xs, ws, co, bo, ot, ca, rs⟩ := x
 obtain ⟨v1, v2, v3, v4, v5, v6, v7, rfl, h1, h2, h3, h4, h5, h6, h7⟩ := cmd_rep.1 h
 obtain ⟨_, _, rfl⟩ := sl_form2 h1
 obtain ⟨_, _, rfl⟩ := sl_form2 h2
 obtain ⟨_, _, rfl⟩ := sl_form2 h3
 obtain ⟨_, _, rfl⟩ := sl_form2 h4
 obtain ⟨_, _, rfl⟩ := sl_form2 h5
 obtain ⟨_, _, rfl⟩ := sl_form2 h6
 obtain ⟨_, _, rfl⟩ := sl_form2 h7
 exact ⟨_, _, _, _, _, _, _, _, _, _, _, _, _, _, _, _, _, _, _, _, _, _, _, rfl⟩
set_option maxRecDepth 100000 in
set_option maxHeartbeats 4000000 in
theorem eqf_word (g : List Part → List Part → Bool) (w : World) (S1 S2 : Nat → Prop) (v1 v2 : Value) (l1 l2 : List (List Part))
  (h1 : Rep w S1 (.sl 70 1 (l1.map wordD)) [v1]) (h2 : Rep w S2 (.sl 70 1 (l2.map wordD)) [v2])
  (heq : ∀ w', Chg (fun _ => False) w w' → ∀ x ∈ l1, ∀ y ∈ l2, ∀ cs1 cs2, Rep w' S1 (wordD x) cs1 → Rep w' S2 (wordD y) cs2 →
   Calls Tryz.prog 46 #[cs1.headD default, cs2.headD default] w' fun e w'' => e = .returned (.bool (g x y)) ∧ Chg (fun _ => False) w' w'') :
  Calls Tryz.prog 63 #[v1, v2, .func (.func 46) #[] #[]] w fun e w' => e = .returned (.bool (eqAll g l1 l2)) ∧ Chg (fun _ => False) w w' := by
 obtain ⟨B1, d1, rfl⟩ := sl_form2 h1
 obtain ⟨B2, d2, rfl⟩ := sl_form2 h2
 rw [List.length_map] at h1 h2
 have hx1 := rep_max h1
 rw [List.length_map] at hx1
 rw [List.length_map, List.length_map]
 by_cases hl : l1.length = l2.length
 ·have t1 : ((l1.length : Int) != (l2.length : Int)) = false := by simp; omega
  generalize hR : eqAll g l1 l2 = R
  have HR := Lib.hid hR; clear hR
  have HL := Lib.hid hl; clear hl
  go_enter Tryz.func63, Tryz.ntmps63
  go_wp2
  go_loopg [17] l1.length (fun rk i wr => ∃ k : Nat, k + rk = l1.length ∧ i = .int .i64 k ∧ Chg (fun _ => False) w wr ∧ Hid (eqAll g (l1.drop k) (l2.drop k) = R))
  case atStart => exact ⟨0, by omega, rfl, Chg.refl _ _, Lib.hid (by simpa using HR.out)⟩
  case round =>
   obtain ⟨k, hk, rfl, hC, HK⟩ := hrel
   generalize wr = W at *
   have h1' := h1.stay hC (fun _ _ e => e)
   have h2' := h2.stay hC (fun _ _ e => e)
   clear h1 h2
   by_cases hlt : k < l1.length
   ·obtain ⟨p1, hp1⟩ : ∃ p, l1[k]? = some p := ⟨l1[k], List.getElem?_eq_getElem hlt⟩
    obtain ⟨p2, hp2⟩ : ∃ p, l2[k]? = some p := ⟨l2[k]'(by rw [← HL.out]; exact hlt), List.getElem?_eq_getElem (by rw [← HL.out]; exact hlt)⟩
    have HB := Lib.hid (eqAll_drop g l1 l2 k p1 p2 hp1 hp2)
    have hm1 := List.mem_of_getElem? hp1
    have hm2 := List.mem_of_getElem? hp2
    obtain ⟨b1, o1, c1', cs1, hv1, _, _, hb1, hr1, hl1, hcs1⟩ := sl_get h1' (by omega) k (wordD p1) (by rw [List.getElem?_map, hp1]; rfl)
    obtain ⟨b2, o2, c2', cs2, hv2, _, _, hb2, hr2, hl2, hcs2⟩ := sl_get h2' (by omega) k (wordD p2) (by rw [List.getElem?_map, hp2]; rfl)
    simp only [List.length_map, Value.slice.injEq] at hv1 hv2
    obtain ⟨rfl, _, rfl⟩ := hv1
    obtain ⟨rfl, _, rfl⟩ := hv2
    have HC : Hid (∀ w', Chg (fun _ => False) W w' → Calls Tryz.prog 46 #[cs1.headD default, cs2.headD default] w' fun e w'' => e = .returned (.bool (g p1 p2)) ∧ Chg (fun _ => False) w' w'') :=
     Lib.hid (fun w' hc => heq w' (hC.trans hc (fun _ h _ => h)) p1 hm1 p2 hm2 _ _ (hr1.stay hc (fun _ _ e => e)) (hr2.stay hc (fun _ _ e => e)))
    obtain ⟨x0, x1, x2, rfl⟩ := word_formF hr1
    obtain ⟨y0, y1, y2, rfl⟩ := word_formF hr2
    have ga0 := hcs1 0 _ rfl
    have gb0 := hcs2 0 _ rfl
    simp only [Nat.add_zero, Nat.mul_one, ← Nat.add_assoc] at ga0 gb0
    clear hp1 hp2 h1' h2' hr1 hr2 heq hm1 hm2 hcs1 hcs2
    have hlt2 : k < l2.length := by rw [← HL.out]; exact hlt
    have r0 : IntKind.i64.wrap ((k : Int) + 1) = (k : Int) + 1 := IntWalk.i64_in _ (by omega)
    cases hk : g p1 p2
    case false =>
     rw [hk] at HC HB
     have hR0 : Hid (R = false) := Lib.hid (by rw [← HK.out, HB.out]; simp)
     go_wp2_with fail
     refine Calls.mono (HC.out _ (Chg.refl (fun _ => False) _)) ?_
     rintro e w5 ⟨rfl, hC5⟩
     go_wp2
     go_ret
     exact ⟨by rw [hR0.out]; try rfl, (hC.trans (Chg.refl (fun _ => False) _) (fun _ h _ => h)).trans hC5 (fun _ h _ => h)⟩
    case true =>
     rw [hk] at HC HB
     have hR0 : Hid (eqAll g (l1.drop (k + 1)) (l2.drop (k + 1)) = R) := Lib.hid (by rw [← HK.out, HB.out]; simp)
     go_wp2_with fail
     refine Calls.mono (HC.out _ (Chg.refl (fun _ => False) _)) ?_
     rintro e w5 ⟨rfl, hC5⟩
     go_wp2
     go_roundg (l1.length - (k + 1))
     case measure => omega
     case rel => exact ⟨k + 1, by omega, rfl, (hC.trans (Chg.refl (fun _ => False) _) (fun _ h _ => h)).trans hC5 (fun _ h _ => h), hR0⟩
   ·have hR0 : Hid (R = true) := Lib.hid (by
     rw [← HK.out, List.drop_eq_nil_of_le (by omega), List.drop_eq_nil_of_le (by rw [← HL.out]; omega)]; rfl)
    go_wp2
    go_ret
    exact ⟨by rw [hR0.out]; try rfl, hC⟩
 ·have t1 : ((l1.length : Int) != (l2.length : Int)) = true := by simp; omega
  go_enter Tryz.func63, Tryz.ntmps63
  go_wp2
  go_ret
  exact ⟨by rw [eqAll_length g l1 l2 hl]; try rfl, Chg.refl _ _⟩
set_option maxRecDepth 100000 in
set_option maxHeartbeats 4000000 in
theorem eqf_asg (g : Asg → Asg → Bool) (w : World) (S1 S2 : Nat → Prop) (v1 v2 : Value) (l1 l2 : List Asg)
  (h1 : Rep w S1 (.sl 72 2 (l1.map Asg.d)) [v1]) (h2 : Rep w S2 (.sl 72 2 (l2.map Asg.d)) [v2])
  (heq : ∀ w', Chg (fun _ => False) w w' → ∀ x ∈ l1, ∀ y ∈ l2, ∀ cs1 cs2, Rep w' S1 (Asg.d x) cs1 → Rep w' S2 (Asg.d y) cs2 →
   Calls Tryz.prog 45 #[.agg cs1.toArray, .agg cs2.toArray] w' fun e w'' => e = .returned (.bool (g x y)) ∧ Chg (fun _ => False) w' w'') :
  Calls Tryz.prog 44 #[v1, v2, .func (.func 45) #[] #[]] w fun e w' => e = .returned (.bool (eqAll g l1 l2)) ∧ Chg (fun _ => False) w w' := by
 obtain ⟨B1, d1, rfl⟩ := sl_form2 h1
 obtain ⟨B2, d2, rfl⟩ := sl_form2 h2
 rw [List.length_map] at h1 h2
 have hx1 := rep_max h1
 rw [List.length_map] at hx1
 rw [List.length_map, List.length_map]
 by_cases hl : l1.length = l2.length
 ·have t1 : ((l1.length : Int) != (l2.length : Int)) = false := by simp; omega
  generalize hR : eqAll g l1 l2 = R
  have HR := Lib.hid hR; clear hR
  have HL := Lib.hid hl; clear hl
  go_enter Tryz.func44, Tryz.ntmps44
  go_wp2
  go_loopg [17] l1.length (fun rk i wr => ∃ k : Nat, k + rk = l1.length ∧ i = .int .i64 k ∧ Chg (fun _ => False) w wr ∧ Hid (eqAll g (l1.drop k) (l2.drop k) = R))
  case atStart => exact ⟨0, by omega, rfl, Chg.refl _ _, Lib.hid (by simpa using HR.out)⟩
  case round =>
   obtain ⟨k, hk, rfl, hC, HK⟩ := hrel
   generalize wr = W at *
   have h1' := h1.stay hC (fun _ _ e => e)
   have h2' := h2.stay hC (fun _ _ e => e)
   clear h1 h2
   by_cases hlt : k < l1.length
   ·obtain ⟨p1, hp1⟩ : ∃ p, l1[k]? = some p := ⟨l1[k], List.getElem?_eq_getElem hlt⟩
    obtain ⟨p2, hp2⟩ : ∃ p, l2[k]? = some p := ⟨l2[k]'(by rw [← HL.out]; exact hlt), List.getElem?_eq_getElem (by rw [← HL.out]; exact hlt)⟩
    have HB := Lib.hid (eqAll_drop g l1 l2 k p1 p2 hp1 hp2)
    have hm1 := List.mem_of_getElem? hp1
    have hm2 := List.mem_of_getElem? hp2
    obtain ⟨b1, o1, c1', cs1, hv1, _, _, hb1, hr1, hl1, hcs1⟩ := sl_get h1' (by omega) k (Asg.d p1) (by rw [List.getElem?_map, hp1]; rfl)
    obtain ⟨b2, o2, c2', cs2, hv2, _, _, hb2, hr2, hl2, hcs2⟩ := sl_get h2' (by omega) k (Asg.d p2) (by rw [List.getElem?_map, hp2]; rfl)
    simp only [List.length_map, Value.slice.injEq] at hv1 hv2
    obtain ⟨rfl, _, rfl⟩ := hv1
    obtain ⟨rfl, _, rfl⟩ := hv2
    have HC : Hid (∀ w', Chg (fun _ => False) W w' → Calls Tryz.prog 45 #[.agg cs1.toArray, .agg cs2.toArray] w' fun e w'' => e = .returned (.bool (g p1 p2)) ∧ Chg (fun _ => False) w' w'') :=
     Lib.hid (fun w' hc => heq w' (hC.trans hc (fun _ h _ => h)) p1 hm1 p2 hm2 _ _ (hr1.stay hc (fun _ _ e => e)) (hr2.stay hc (fun _ _ e => e)))
    obtain ⟨x0, x1, x2, x3, rfl⟩ := asg_formF hr1
    obtain ⟨y0, y1, y2, y3, rfl⟩ := asg_formF hr2
    have ga0 := hcs1 0 _ rfl
    have gb0 := hcs2 0 _ rfl
    have ga1 := hcs1 1 _ rfl
    have gb1 := hcs2 1 _ rfl
    simp only [Nat.add_zero, Nat.mul_one, ← Nat.add_assoc] at ga0 gb0 ga1 gb1
    clear hp1 hp2 h1' h2' hr1 hr2 heq hm1 hm2 hcs1 hcs2
    have hlt2 : k < l2.length := by rw [← HL.out]; exact hlt
    have r0 : IntKind.i64.wrap ((k : Int) + 1) = (k : Int) + 1 := IntWalk.i64_in _ (by omega)
    have ab0 := fun O => ((Chg.refl (fun _ => False) W).alloc O).cell gb0 (fun e => e)
    have ab1 := fun O => ((Chg.refl (fun _ => False) W).alloc O).cell gb1 (fun e => e)
    clear gb0 gb1
    cases hk : g p1 p2
    case false =>
     rw [hk] at HC HB
     have hR0 : Hid (R = false) := Lib.hid (by rw [← HK.out, HB.out]; simp)
     go_wp2_with fail
     refine Calls.mono (HC.out _ (((Chg.refl (fun _ => False) _).alloc _).alloc _)) ?_
     rintro e w5 ⟨rfl, hC5⟩
     go_wp2
     go_ret
     exact ⟨by rw [hR0.out]; try rfl, (hC.trans (((Chg.refl (fun _ => False) _).alloc _).alloc _) (fun _ h _ => h)).trans hC5 (fun _ h _ => h)⟩
    case true =>
     rw [hk] at HC HB
     have hR0 : Hid (eqAll g (l1.drop (k + 1)) (l2.drop (k + 1)) = R) := Lib.hid (by rw [← HK.out, HB.out]; simp)
     go_wp2_with fail
     refine Calls.mono (HC.out _ (((Chg.refl (fun _ => False) _).alloc _).alloc _)) ?_
     rintro e w5 ⟨rfl, hC5⟩
     go_wp2
     go_roundg (l1.length - (k + 1))
     case measure => omega
     case rel => exact ⟨k + 1, by omega, rfl, (hC.trans (((Chg.refl (fun _ => False) _).alloc _).alloc _) (fun _ h _ => h)).trans hC5 (fun _ h _ => h), hR0⟩
   ·have hR0 : Hid (R = true) := Lib.hid (by
     rw [← HK.out, List.drop_eq_nil_of_le (by omega), List.drop_eq_nil_of_le (by rw [← HL.out]; omega)]; rfl)
    go_wp2
    go_ret
    exact ⟨by rw [hR0.out]; try rfl, hC⟩
 ·have t1 : ((l1.length : Int) != (l2.length : Int)) = true := by simp; omega
  go_enter Tryz.func44, Tryz.ntmps44
  go_wp2
  go_ret
  exact ⟨by rw [eqAll_length g l1 l2 hl]; try rfl, Chg.refl _ _⟩
set_option maxRecDepth 100000 in
set_option maxHeartbeats 4000000 in
theorem eqf_rdr (g : Rdr → Rdr → Bool) (w : World) (S1 S2 : Nat → Prop) (v1 v2 : Value) (l1 l2 : List Rdr)
  (h1 : Rep w S1 (.sl 75 3 (l1.map Rdr.d)) [v1]) (h2 : Rep w S2 (.sl 75 3 (l2.map Rdr.d)) [v2])
  (heq : ∀ w', Chg (fun _ => False) w w' → ∀ x ∈ l1, ∀ y ∈ l2, ∀ cs1 cs2, Rep w' S1 (Rdr.d x) cs1 → Rep w' S2 (Rdr.d y) cs2 →
   Calls Tryz.prog 48 #[.agg cs1.toArray, .agg cs2.toArray] w' fun e w'' => e = .returned (.bool (g x y)) ∧ Chg (fun _ => False) w' w'') :
  Calls Tryz.prog 47 #[v1, v2, .func (.func 48) #[] #[]] w fun e w' => e = .returned (.bool (eqAll g l1 l2)) ∧ Chg (fun _ => False) w w' := by
 obtain ⟨B1, d1, rfl⟩ := sl_form2 h1
 obtain ⟨B2, d2, rfl⟩ := sl_form2 h2
 rw [List.length_map] at h1 h2
 have hx1 := rep_max h1
 rw [List.length_map] at hx1
 rw [List.length_map, List.length_map]
 by_cases hl : l1.length = l2.length
 ·have t1 : ((l1.length : Int) != (l2.length : Int)) = false := by simp; omega
  generalize hR : eqAll g l1 l2 = R
  have HR := Lib.hid hR; clear hR
  have HL := Lib.hid hl; clear hl
  go_enter Tryz.func47, Tryz.ntmps47
  go_wp2
  go_loopg [17] l1.length (fun rk i wr => ∃ k : Nat, k + rk = l1.length ∧ i = .int .i64 k ∧ Chg (fun _ => False) w wr ∧ Hid (eqAll g (l1.drop k) (l2.drop k) = R))
  case atStart => exact ⟨0, by omega, rfl, Chg.refl _ _, Lib.hid (by simpa using HR.out)⟩
  case round =>
   obtain ⟨k, hk, rfl, hC, HK⟩ := hrel
   generalize wr = W at *
   have h1' := h1.stay hC (fun _ _ e => e)
   have h2' := h2.stay hC (fun _ _ e => e)
   clear h1 h2
   by_cases hlt : k < l1.length
   ·obtain ⟨p1, hp1⟩ : ∃ p, l1[k]? = some p := ⟨l1[k], List.getElem?_eq_getElem hlt⟩
    obtain ⟨p2, hp2⟩ : ∃ p, l2[k]? = some p := ⟨l2[k]'(by rw [← HL.out]; exact hlt), List.getElem?_eq_getElem (by rw [← HL.out]; exact hlt)⟩
    have HB := Lib.hid (eqAll_drop g l1 l2 k p1 p2 hp1 hp2)
    have hm1 := List.mem_of_getElem? hp1
    have hm2 := List.mem_of_getElem? hp2
    obtain ⟨b1, o1, c1', cs1, hv1, _, _, hb1, hr1, hl1, hcs1⟩ := sl_get h1' (by omega) k (Rdr.d p1) (by rw [List.getElem?_map, hp1]; rfl)
    obtain ⟨b2, o2, c2', cs2, hv2, _, _, hb2, hr2, hl2, hcs2⟩ := sl_get h2' (by omega) k (Rdr.d p2) (by rw [List.getElem?_map, hp2]; rfl)
    simp only [List.length_map, Value.slice.injEq] at hv1 hv2
    obtain ⟨rfl, _, rfl⟩ := hv1
    obtain ⟨rfl, _, rfl⟩ := hv2
    have HC : Hid (∀ w', Chg (fun _ => False) W w' → Calls Tryz.prog 48 #[.agg cs1.toArray, .agg cs2.toArray] w' fun e w'' => e = .returned (.bool (g p1 p2)) ∧ Chg (fun _ => False) w' w'') :=
     Lib.hid (fun w' hc => heq w' (hC.trans hc (fun _ h _ => h)) p1 hm1 p2 hm2 _ _ (hr1.stay hc (fun _ _ e => e)) (hr2.stay hc (fun _ _ e => e)))
    obtain ⟨x0, x1, x2, x3, x4, rfl⟩ := rdr_formF hr1
    obtain ⟨y0, y1, y2, y3, y4, rfl⟩ := rdr_formF hr2
    have ga0 := hcs1 0 _ rfl
    have gb0 := hcs2 0 _ rfl
    have ga1 := hcs1 1 _ rfl
    have gb1 := hcs2 1 _ rfl
    have ga2 := hcs1 2 _ rfl
    have gb2 := hcs2 2 _ rfl
    simp only [Nat.add_zero, Nat.mul_one, ← Nat.add_assoc] at ga0 gb0 ga1 gb1 ga2 gb2
    clear hp1 hp2 h1' h2' hr1 hr2 heq hm1 hm2 hcs1 hcs2
    have hlt2 : k < l2.length := by rw [← HL.out]; exact hlt
    have r0 : IntKind.i64.wrap ((k : Int) + 1) = (k : Int) + 1 := IntWalk.i64_in _ (by omega)
    have ab0 := fun O => ((Chg.refl (fun _ => False) W).alloc O).cell gb0 (fun e => e)
    have ab1 := fun O => ((Chg.refl (fun _ => False) W).alloc O).cell gb1 (fun e => e)
    have ab2 := fun O => ((Chg.refl (fun _ => False) W).alloc O).cell gb2 (fun e => e)
    clear gb0 gb1 gb2
    cases hk : g p1 p2
    case false =>
     rw [hk] at HC HB
     have hR0 : Hid (R = false) := Lib.hid (by rw [← HK.out, HB.out]; simp)
     go_wp2_with fail
     refine Calls.mono (HC.out _ (((Chg.refl (fun _ => False) _).alloc _).alloc _)) ?_
     rintro e w5 ⟨rfl, hC5⟩
     go_wp2
     go_ret
     exact ⟨by rw [hR0.out]; try rfl, (hC.trans (((Chg.refl (fun _ => False) _).alloc _).alloc _) (fun _ h _ => h)).trans hC5 (fun _ h _ => h)⟩
    case true =>
     rw [hk] at HC HB
     have hR0 : Hid (eqAll g (l1.drop (k + 1)) (l2.drop (k + 1)) = R) := Lib.hid (by rw [← HK.out, HB.out]; simp)
     go_wp2_with fail
     refine Calls.mono (HC.out _ (((Chg.refl (fun _ => False) _).alloc _).alloc _)) ?_
     rintro e w5 ⟨rfl, hC5⟩
     go_wp2
     go_roundg (l1.length - (k + 1))
     case measure => omega
     case rel => exact ⟨k + 1, by omega, rfl, (hC.trans (((Chg.refl (fun _ => False) _).alloc _).alloc _) (fun _ h _ => h)).trans hC5 (fun _ h _ => h), hR0⟩
   ·have hR0 : Hid (R = true) := Lib.hid (by
     rw [← HK.out, List.drop_eq_nil_of_le (by omega), List.drop_eq_nil_of_le (by rw [← HL.out]; omega)]; rfl)
    go_wp2
    go_ret
    exact ⟨by rw [hR0.out]; try rfl, hC⟩
 ·have t1 : ((l1.length : Int) != (l2.length : Int)) = true := by simp; omega
  go_enter Tryz.func47, Tryz.ntmps47
  go_wp2
  go_ret
  exact ⟨by rw [eqAll_length g l1 l2 hl]; try rfl, Chg.refl _ _⟩
set_option maxRecDepth 100000 in
set_option maxHeartbeats 4000000 in
theorem eqf_cas (g : Cas → Cas → Bool) (w : World) (S1 S2 : Nat → Prop) (v1 v2 : Value) (l1 l2 : List Cas)
  (h1 : Rep w S1 (.sl 77 2 (l1.map Cas.d)) [v1]) (h2 : Rep w S2 (.sl 77 2 (l2.map Cas.d)) [v2])
  (heq : ∀ w', Chg (fun _ => False) w w' → ∀ x ∈ l1, ∀ y ∈ l2, ∀ cs1 cs2, Rep w' S1 (Cas.d x) cs1 → Rep w' S2 (Cas.d y) cs2 →
   Calls Tryz.prog 50 #[.agg cs1.toArray, .agg cs2.toArray] w' fun e w'' => e = .returned (.bool (g x y)) ∧ Chg (fun _ => False) w' w'') :
  Calls Tryz.prog 49 #[v1, v2, .func (.func 50) #[] #[]] w fun e w' => e = .returned (.bool (eqAll g l1 l2)) ∧ Chg (fun _ => False) w w' := by
 obtain ⟨B1, d1, rfl⟩ := sl_form2 h1
 obtain ⟨B2, d2, rfl⟩ := sl_form2 h2
 rw [List.length_map] at h1 h2
 have hx1 := rep_max h1
 rw [List.length_map] at hx1
 rw [List.length_map, List.length_map]
 by_cases hl : l1.length = l2.length
 ·have t1 : ((l1.length : Int) != (l2.length : Int)) = false := by simp; omega
  generalize hR : eqAll g l1 l2 = R
  have HR := Lib.hid hR; clear hR
  have HL := Lib.hid hl; clear hl
  go_enter Tryz.func49, Tryz.ntmps49
  go_wp2
  go_loopg [17] l1.length (fun rk i wr => ∃ k : Nat, k + rk = l1.length ∧ i = .int .i64 k ∧ Chg (fun _ => False) w wr ∧ Hid (eqAll g (l1.drop k) (l2.drop k) = R))
  case atStart => exact ⟨0, by omega, rfl, Chg.refl _ _, Lib.hid (by simpa using HR.out)⟩
  case round =>
   obtain ⟨k, hk, rfl, hC, HK⟩ := hrel
   generalize wr = W at *
   have h1' := h1.stay hC (fun _ _ e => e)
   have h2' := h2.stay hC (fun _ _ e => e)
   clear h1 h2
   by_cases hlt : k < l1.length
   ·obtain ⟨p1, hp1⟩ : ∃ p, l1[k]? = some p := ⟨l1[k], List.getElem?_eq_getElem hlt⟩
    obtain ⟨p2, hp2⟩ : ∃ p, l2[k]? = some p := ⟨l2[k]'(by rw [← HL.out]; exact hlt), List.getElem?_eq_getElem (by rw [← HL.out]; exact hlt)⟩
    have HB := Lib.hid (eqAll_drop g l1 l2 k p1 p2 hp1 hp2)
    have hm1 := List.mem_of_getElem? hp1
    have hm2 := List.mem_of_getElem? hp2
    obtain ⟨b1, o1, c1', cs1, hv1, _, _, hb1, hr1, hl1, hcs1⟩ := sl_get h1' (by omega) k (Cas.d p1) (by rw [List.getElem?_map, hp1]; rfl)
    obtain ⟨b2, o2, c2', cs2, hv2, _, _, hb2, hr2, hl2, hcs2⟩ := sl_get h2' (by omega) k (Cas.d p2) (by rw [List.getElem?_map, hp2]; rfl)
    simp only [List.length_map, Value.slice.injEq] at hv1 hv2
    obtain ⟨rfl, _, rfl⟩ := hv1
    obtain ⟨rfl, _, rfl⟩ := hv2
    have HC : Hid (∀ w', Chg (fun _ => False) W w' → Calls Tryz.prog 50 #[.agg cs1.toArray, .agg cs2.toArray] w' fun e w'' => e = .returned (.bool (g p1 p2)) ∧ Chg (fun _ => False) w' w'') :=
     Lib.hid (fun w' hc => heq w' (hC.trans hc (fun _ h _ => h)) p1 hm1 p2 hm2 _ _ (hr1.stay hc (fun _ _ e => e)) (hr2.stay hc (fun _ _ e => e)))
    obtain ⟨x0, x1, x2, x3, x4, x5, rfl⟩ := cas_formF hr1
    obtain ⟨y0, y1, y2, y3, y4, y5, rfl⟩ := cas_formF hr2
    have ga0 := hcs1 0 _ rfl
    have gb0 := hcs2 0 _ rfl
    have ga1 := hcs1 1 _ rfl
    have gb1 := hcs2 1 _ rfl
    simp only [Nat.add_zero, Nat.mul_one, ← Nat.add_assoc] at ga0 gb0 ga1 gb1
    clear hp1 hp2 h1' h2' hr1 hr2 heq hm1 hm2 hcs1 hcs2
    have hlt2 : k < l2.length := by rw [← HL.out]; exact hlt
    have r0 : IntKind.i64.wrap ((k : Int) + 1) = (k : Int) + 1 := IntWalk.i64_in _ (by omega)
    have ab0 := fun O => ((Chg.refl (fun _ => False) W).alloc O).cell gb0 (fun e => e)
    have ab1 := fun O => ((Chg.refl (fun _ => False) W).alloc O).cell gb1 (fun e => e)
    clear gb0 gb1
    cases hk : g p1 p2
    case false =>
     rw [hk] at HC HB
     have hR0 : Hid (R = false) := Lib.hid (by rw [← HK.out, HB.out]; simp)
     go_wp2_with fail
     refine Calls.mono (HC.out _ (((Chg.refl (fun _ => False) _).alloc _).alloc _)) ?_
     rintro e w5 ⟨rfl, hC5⟩
     go_wp2
     go_ret
     exact ⟨by rw [hR0.out]; try rfl, (hC.trans (((Chg.refl (fun _ => False) _).alloc _).alloc _) (fun _ h _ => h)).trans hC5 (fun _ h _ => h)⟩
    case true =>
     rw [hk] at HC HB
     have hR0 : Hid (eqAll g (l1.drop (k + 1)) (l2.drop (k + 1)) = R) := Lib.hid (by rw [← HK.out, HB.out]; simp)
     go_wp2_with fail
     refine Calls.mono (HC.out _ (((Chg.refl (fun _ => False) _).alloc _).alloc _)) ?_
     rintro e w5 ⟨rfl, hC5⟩
     go_wp2
     go_roundg (l1.length - (k + 1))
     case measure => omega
     case rel => exact ⟨k + 1, by omega, rfl, (hC.trans (((Chg.refl (fun _ => False) _).alloc _).alloc _) (fun _ h _ => h)).trans hC5 (fun _ h _ => h), hR0⟩
   ·have hR0 : Hid (R = true) := Lib.hid (by
     rw [← HK.out, List.drop_eq_nil_of_le (by omega), List.drop_eq_nil_of_le (by rw [← HL.out]; omega)]; rfl)
    go_wp2
    go_ret
    exact ⟨by rw [hR0.out]; try rfl, hC⟩
 ·have t1 : ((l1.length : Int) != (l2.length : Int)) = true := by simp; omega
  go_enter Tryz.func49, Tryz.ntmps49
  go_wp2
  go_ret
  exact ⟨by rw [eqAll_length g l1 l2 hl]; try rfl, Chg.refl _ _⟩
set_option maxRecDepth 100000 in
set_option maxHeartbeats 4000000 in
theorem eqf_cmd (g : Cmd → Cmd → Bool) (w : World) (S1 S2 : Nat → Prop) (v1 v2 : Value) (l1 l2 : List Cmd)
  (h1 : Rep w S1 (.sl 49 9 (l1.map Cmd.d)) [v1]) (h2 : Rep w S2 (.sl 49 9 (l2.map Cmd.d)) [v2])
  (heq : ∀ w', Chg (fun _ => False) w w' → ∀ x ∈ l1, ∀ y ∈ l2, ∀ cs1 cs2, Rep w' S1 (Cmd.d x) cs1 → Rep w' S2 (Cmd.d y) cs2 →
   Calls Tryz.prog 28 #[.agg cs1.toArray, .agg cs2.toArray] w' fun e w'' => e = .returned (.bool (g x y)) ∧ Chg (fun _ => False) w' w'') :
  Calls Tryz.prog 27 #[v1, v2, .func (.func 28) #[] #[]] w fun e w' => e = .returned (.bool (eqAll g l1 l2)) ∧ Chg (fun _ => False) w w' := by
 obtain ⟨B1, d1, rfl⟩ := sl_form2 h1
 obtain ⟨B2, d2, rfl⟩ := sl_form2 h2
 rw [List.length_map] at h1 h2
 have hx1 := rep_max h1
 rw [List.length_map] at hx1
 rw [List.length_map, List.length_map]
 by_cases hl : l1.length = l2.length
 ·have t1 : ((l1.length : Int) != (l2.length : Int)) = false := by simp; omega
  generalize hR : eqAll g l1 l2 = R
  have HR := Lib.hid hR; clear hR
  have HL := Lib.hid hl; clear hl
  go_enter Tryz.func27, Tryz.ntmps27
  go_wp2
  go_loopg [17] l1.length (fun rk i wr => ∃ k : Nat, k + rk = l1.length ∧ i = .int .i64 k ∧ Chg (fun _ => False) w wr ∧ Hid (eqAll g (l1.drop k) (l2.drop k) = R))
  case atStart => exact ⟨0, by omega, rfl, Chg.refl _ _, Lib.hid (by simpa using HR.out)⟩
  case round =>
   obtain ⟨k, hk, rfl, hC, HK⟩ := hrel
   generalize wr = W at *
   have h1' := h1.stay hC (fun _ _ e => e)
   have h2' := h2.stay hC (fun _ _ e => e)
   clear h1 h2
   by_cases hlt : k < l1.length
   ·obtain ⟨p1, hp1⟩ : ∃ p, l1[k]? = some p := ⟨l1[k], List.getElem?_eq_getElem hlt⟩
    obtain ⟨p2, hp2⟩ : ∃ p, l2[k]? = some p := ⟨l2[k]'(by rw [← HL.out]; exact hlt), List.getElem?_eq_getElem (by rw [← HL.out]; exact hlt)⟩
    have HB := Lib.hid (eqAll_drop g l1 l2 k p1 p2 hp1 hp2)
    have hm1 := List.mem_of_getElem? hp1
    have hm2 := List.mem_of_getElem? hp2
    obtain ⟨b1, o1, c1', cs1, hv1, _, _, hb1, hr1, hl1, hcs1⟩ := sl_get h1' (by omega) k (Cmd.d p1) (by rw [List.getElem?_map, hp1]; rfl)
    obtain ⟨b2, o2, c2', cs2, hv2, _, _, hb2, hr2, hl2, hcs2⟩ := sl_get h2' (by omega) k (Cmd.d p2) (by rw [List.getElem?_map, hp2]; rfl)
    simp only [List.length_map, Value.slice.injEq] at hv1 hv2
    obtain ⟨rfl, _, rfl⟩ := hv1
    obtain ⟨rfl, _, rfl⟩ := hv2
    have HC : Hid (∀ w', Chg (fun _ => False) W w' → Calls Tryz.prog 28 #[.agg cs1.toArray, .agg cs2.toArray] w' fun e w'' => e = .returned (.bool (g p1 p2)) ∧ Chg (fun _ => False) w' w'') :=
     Lib.hid (fun w' hc => heq w' (hC.trans hc (fun _ h _ => h)) p1 hm1 p2 hm2 _ _ (hr1.stay hc (fun _ _ e => e)) (hr2.stay hc (fun _ _ e => e)))
    obtain ⟨x0, x1, x2, x3, x4, x5, x6, x7, x8, x9, x10, x11, x12, x13, x14, x15, x16, x17, x18, x19, x20, x21, x22, rfl⟩ := cmd_formF hr1
    obtain ⟨y0, y1, y2, y3, y4, y5, y6, y7, y8, y9, y10, y11, y12, y13, y14, y15, y16, y17, y18, y19, y20, y21, y22, rfl⟩ := cmd_formF hr2
    have ga0 := hcs1 0 _ rfl
    have gb0 := hcs2 0 _ rfl
    have ga1 := hcs1 1 _ rfl
    have gb1 := hcs2 1 _ rfl
    have ga2 := hcs1 2 _ rfl
    have gb2 := hcs2 2 _ rfl
    have ga3 := hcs1 3 _ rfl
    have gb3 := hcs2 3 _ rfl
    have ga4 := hcs1 4 _ rfl
    have gb4 := hcs2 4 _ rfl
    have ga5 := hcs1 5 _ rfl
    have gb5 := hcs2 5 _ rfl
    have ga6 := hcs1 6 _ rfl
    have gb6 := hcs2 6 _ rfl
    have ga7 := hcs1 7 _ rfl
    have gb7 := hcs2 7 _ rfl
    have ga8 := hcs1 8 _ rfl
    have gb8 := hcs2 8 _ rfl
    simp only [Nat.add_zero, Nat.mul_one, ← Nat.add_assoc] at ga0 gb0 ga1 gb1 ga2 gb2 ga3 gb3 ga4 gb4 ga5 gb5 ga6 gb6 ga7 gb7 ga8 gb8
    clear hp1 hp2 h1' h2' hr1 hr2 heq hm1 hm2 hcs1 hcs2
    have hlt2 : k < l2.length := by rw [← HL.out]; exact hlt
    have r0 : IntKind.i64.wrap ((k : Int) + 1) = (k : Int) + 1 := IntWalk.i64_in _ (by omega)
    have ab0 := fun O => ((Chg.refl (fun _ => False) W).alloc O).cell gb0 (fun e => e)
    have ab1 := fun O => ((Chg.refl (fun _ => False) W).alloc O).cell gb1 (fun e => e)
    have ab2 := fun O => ((Chg.refl (fun _ => False) W).alloc O).cell gb2 (fun e => e)
    have ab3 := fun O => ((Chg.refl (fun _ => False) W).alloc O).cell gb3 (fun e => e)
    have ab4 := fun O => ((Chg.refl (fun _ => False) W).alloc O).cell gb4 (fun e => e)
    have ab5 := fun O => ((Chg.refl (fun _ => False) W).alloc O).cell gb5 (fun e => e)
    have ab6 := fun O => ((Chg.refl (fun _ => False) W).alloc O).cell gb6 (fun e => e)
    have ab7 := fun O => ((Chg.refl (fun _ => False) W).alloc O).cell gb7 (fun e => e)
    have ab8 := fun O => ((Chg.refl (fun _ => False) W).alloc O).cell gb8 (fun e => e)
    clear gb0 gb1 gb2 gb3 gb4 gb5 gb6 gb7 gb8
    cases hk : g p1 p2
    case false =>
     rw [hk] at HC HB
     have hR0 : Hid (R = false) := Lib.hid (by rw [← HK.out, HB.out]; simp)
     go_wp2_with fail
     refine Calls.mono (HC.out _ (((Chg.refl (fun _ => False) _).alloc _).alloc _)) ?_
     rintro e w5 ⟨rfl, hC5⟩
     go_wp2
     go_ret
     exact ⟨by rw [hR0.out]; try rfl, (hC.trans (((Chg.refl (fun _ => False) _).alloc _).alloc _) (fun _ h _ => h)).trans hC5 (fun _ h _ => h)⟩
    case true =>
     rw [hk] at HC HB
     have hR0 : Hid (eqAll g (l1.drop (k + 1)) (l2.drop (k + 1)) = R) := Lib.hid (by rw [← HK.out, HB.out]; simp)
     go_wp2_with fail
     refine Calls.mono (HC.out _ (((Chg.refl (fun _ => False) _).alloc _).alloc _)) ?_
     rintro e w5 ⟨rfl, hC5⟩
     go_wp2
     go_roundg (l1.length - (k + 1))
     case measure => omega
     case rel => exact ⟨k + 1, by omega, rfl, (hC.trans (((Chg.refl (fun _ => False) _).alloc _).alloc _) (fun _ h _ => h)).trans hC5 (fun _ h _ => h), hR0⟩
   ·have hR0 : Hid (R = true) := Lib.hid (by
     rw [← HK.out, List.drop_eq_nil_of_le (by omega), List.drop_eq_nil_of_le (by rw [← HL.out]; omega)]; rfl)
    go_wp2
    go_ret
    exact ⟨by rw [hR0.out]; try rfl, hC⟩
 ·have t1 : ((l1.length : Int) != (l2.length : Int)) = true := by simp; omega
  go_enter Tryz.func27, Tryz.ntmps27
  go_wp2
  go_ret
  exact ⟨by rw [eqAll_length g l1 l2 hl]; try rfl, Chg.refl _ _⟩
set_option maxRecDepth 100000 in
set_option maxHeartbeats 4000000 in
theorem eqf_pip (g : Pip → Pip → Bool) (w : World) (S1 S2 : Nat → Prop) (v1 v2 : Value) (l1 l2 : List Pip)
  (h1 : Rep w S1 (.sl 42 2 (l1.map Pip.d)) [v1]) (h2 : Rep w S2 (.sl 42 2 (l2.map Pip.d)) [v2])
  (heq : ∀ w', Chg (fun _ => False) w w' → ∀ x ∈ l1, ∀ y ∈ l2, ∀ cs1 cs2, Rep w' S1 (Pip.d x) cs1 → Rep w' S2 (Pip.d y) cs2 →
   Calls Tryz.prog 26 #[.agg cs1.toArray, .agg cs2.toArray] w' fun e w'' => e = .returned (.bool (g x y)) ∧ Chg (fun _ => False) w' w'') :
  Calls Tryz.prog 25 #[v1, v2, .func (.func 26) #[] #[]] w fun e w' => e = .returned (.bool (eqAll g l1 l2)) ∧ Chg (fun _ => False) w w' := by
 obtain ⟨B1, d1, rfl⟩ := sl_form2 h1
 obtain ⟨B2, d2, rfl⟩ := sl_form2 h2
 rw [List.length_map] at h1 h2
 have hx1 := rep_max h1
 rw [List.length_map] at hx1
 rw [List.length_map, List.length_map]
 by_cases hl : l1.length = l2.length
 ·have t1 : ((l1.length : Int) != (l2.length : Int)) = false := by simp; omega
  generalize hR : eqAll g l1 l2 = R
  have HR := Lib.hid hR; clear hR
  have HL := Lib.hid hl; clear hl
  go_enter Tryz.func25, Tryz.ntmps25
  go_wp2
  go_loopg [17] l1.length (fun rk i wr => ∃ k : Nat, k + rk = l1.length ∧ i = .int .i64 k ∧ Chg (fun _ => False) w wr ∧ Hid (eqAll g (l1.drop k) (l2.drop k) = R))
  case atStart => exact ⟨0, by omega, rfl, Chg.refl _ _, Lib.hid (by simpa using HR.out)⟩
  case round =>
   obtain ⟨k, hk, rfl, hC, HK⟩ := hrel
   generalize wr = W at *
   have h1' := h1.stay hC (fun _ _ e => e)
   have h2' := h2.stay hC (fun _ _ e => e)
   clear h1 h2
   by_cases hlt : k < l1.length
   ·obtain ⟨p1, hp1⟩ : ∃ p, l1[k]? = some p := ⟨l1[k], List.getElem?_eq_getElem hlt⟩
    obtain ⟨p2, hp2⟩ : ∃ p, l2[k]? = some p := ⟨l2[k]'(by rw [← HL.out]; exact hlt), List.getElem?_eq_getElem (by rw [← HL.out]; exact hlt)⟩
    have HB := Lib.hid (eqAll_drop g l1 l2 k p1 p2 hp1 hp2)
    have hm1 := List.mem_of_getElem? hp1
    have hm2 := List.mem_of_getElem? hp2
    obtain ⟨b1, o1, c1', cs1, hv1, _, _, hb1, hr1, hl1, hcs1⟩ := sl_get h1' (by omega) k (Pip.d p1) (by rw [List.getElem?_map, hp1]; rfl)
    obtain ⟨b2, o2, c2', cs2, hv2, _, _, hb2, hr2, hl2, hcs2⟩ := sl_get h2' (by omega) k (Pip.d p2) (by rw [List.getElem?_map, hp2]; rfl)
    simp only [List.length_map, Value.slice.injEq] at hv1 hv2
    obtain ⟨rfl, _, rfl⟩ := hv1
    obtain ⟨rfl, _, rfl⟩ := hv2
    have HC : Hid (∀ w', Chg (fun _ => False) W w' → Calls Tryz.prog 26 #[.agg cs1.toArray, .agg cs2.toArray] w' fun e w'' => e = .returned (.bool (g p1 p2)) ∧ Chg (fun _ => False) w' w'') :=
     Lib.hid (fun w' hc => heq w' (hC.trans hc (fun _ h _ => h)) p1 hm1 p2 hm2 _ _ (hr1.stay hc (fun _ _ e => e)) (hr2.stay hc (fun _ _ e => e)))
    obtain ⟨x0, x1, x2, x3, rfl⟩ := pip_formF hr1
    obtain ⟨y0, y1, y2, y3, rfl⟩ := pip_formF hr2
    have ga0 := hcs1 0 _ rfl
    have gb0 := hcs2 0 _ rfl
    have ga1 := hcs1 1 _ rfl
    have gb1 := hcs2 1 _ rfl
    simp only [Nat.add_zero, Nat.mul_one, ← Nat.add_assoc] at ga0 gb0 ga1 gb1
    clear hp1 hp2 h1' h2' hr1 hr2 heq hm1 hm2 hcs1 hcs2
    have hlt2 : k < l2.length := by rw [← HL.out]; exact hlt
    have r0 : IntKind.i64.wrap ((k : Int) + 1) = (k : Int) + 1 := IntWalk.i64_in _ (by omega)
    have ab0 := fun O => ((Chg.refl (fun _ => False) W).alloc O).cell gb0 (fun e => e)
    have ab1 := fun O => ((Chg.refl (fun _ => False) W).alloc O).cell gb1 (fun e => e)
    clear gb0 gb1
    cases hk : g p1 p2
    case false =>
     rw [hk] at HC HB
     have hR0 : Hid (R = false) := Lib.hid (by rw [← HK.out, HB.out]; simp)
     go_wp2_with fail
     refine Calls.mono (HC.out _ (((Chg.refl (fun _ => False) _).alloc _).alloc _)) ?_
     rintro e w5 ⟨rfl, hC5⟩
     go_wp2
     go_ret
     exact ⟨by rw [hR0.out]; try rfl, (hC.trans (((Chg.refl (fun _ => False) _).alloc _).alloc _) (fun _ h _ => h)).trans hC5 (fun _ h _ => h)⟩
    case true =>
     rw [hk] at HC HB
     have hR0 : Hid (eqAll g (l1.drop (k + 1)) (l2.drop (k + 1)) = R) := Lib.hid (by rw [← HK.out, HB.out]; simp)
     go_wp2_with fail
     refine Calls.mono (HC.out _ (((Chg.refl (fun _ => False) _).alloc _).alloc _)) ?_
     rintro e w5 ⟨rfl, hC5⟩
     go_wp2
     go_roundg (l1.length - (k + 1))
     case measure => omega
     case rel => exact ⟨k + 1, by omega, rfl, (hC.trans (((Chg.refl (fun _ => False) _).alloc _).alloc _) (fun _ h _ => h)).trans hC5 (fun _ h _ => h), hR0⟩
   ·have hR0 : Hid (R = true) := Lib.hid (by
     rw [← HK.out, List.drop_eq_nil_of_le (by omega), List.drop_eq_nil_of_le (by rw [← HL.out]; omega)]; rfl)
    go_wp2
    go_ret
    exact ⟨by rw [hR0.out]; try rfl, hC⟩
 ·have t1 : ((l1.length : Int) != (l2.length : Int)) = true := by simp; omega
  go_enter Tryz.func25, Tryz.ntmps25
  go_wp2
  go_ret
  exact ⟨by rw [eqAll_length g l1 l2 hl]; try rfl, Chg.refl _ _⟩
set_option maxRecDepth 100000 in
set_option maxHeartbeats 4000000 in
theorem eqf_lst (g : Lst → Lst → Bool) (w : World) (S1 S2 : Nat → Prop) (v1 v2 : Value) (l1 l2 : List Lst)
  (h1 : Rep w S1 (.sl 39 2 (l1.map Lst.d)) [v1]) (h2 : Rep w S2 (.sl 39 2 (l2.map Lst.d)) [v2])
  (heq : ∀ w', Chg (fun _ => False) w w' → ∀ x ∈ l1, ∀ y ∈ l2, ∀ cs1 cs2, Rep w' S1 (Lst.d x) cs1 → Rep w' S2 (Lst.d y) cs2 →
   Calls Tryz.prog 23 #[.agg cs1.toArray, .agg cs2.toArray] w' fun e w'' => e = .returned (.bool (g x y)) ∧ Chg (fun _ => False) w' w'') :
  Calls Tryz.prog 22 #[v1, v2, .func (.func 23) #[] #[]] w fun e w' => e = .returned (.bool (eqAll g l1 l2)) ∧ Chg (fun _ => False) w w' := by
 obtain ⟨B1, d1, rfl⟩ := sl_form2 h1
 obtain ⟨B2, d2, rfl⟩ := sl_form2 h2
 rw [List.length_map] at h1 h2
 have hx1 := rep_max h1
 rw [List.length_map] at hx1
 rw [List.length_map, List.length_map]
 by_cases hl : l1.length = l2.length
 ·have t1 : ((l1.length : Int) != (l2.length : Int)) = false := by simp; omega
  generalize hR : eqAll g l1 l2 = R
  have HR := Lib.hid hR; clear hR
  have HL := Lib.hid hl; clear hl
  go_enter Tryz.func22, Tryz.ntmps22
  go_wp2
  go_loopg [17] l1.length (fun rk i wr => ∃ k : Nat, k + rk = l1.length ∧ i = .int .i64 k ∧ Chg (fun _ => False) w wr ∧ Hid (eqAll g (l1.drop k) (l2.drop k) = R))
  case atStart => exact ⟨0, by omega, rfl, Chg.refl _ _, Lib.hid (by simpa using HR.out)⟩
  case round =>
   obtain ⟨k, hk, rfl, hC, HK⟩ := hrel
   generalize wr = W at *
   have h1' := h1.stay hC (fun _ _ e => e)
   have h2' := h2.stay hC (fun _ _ e => e)
   clear h1 h2
   by_cases hlt : k < l1.length
   ·obtain ⟨p1, hp1⟩ : ∃ p, l1[k]? = some p := ⟨l1[k], List.getElem?_eq_getElem hlt⟩
    obtain ⟨p2, hp2⟩ : ∃ p, l2[k]? = some p := ⟨l2[k]'(by rw [← HL.out]; exact hlt), List.getElem?_eq_getElem (by rw [← HL.out]; exact hlt)⟩
    have HB := Lib.hid (eqAll_drop g l1 l2 k p1 p2 hp1 hp2)
    have hm1 := List.mem_of_getElem? hp1
    have hm2 := List.mem_of_getElem? hp2
    obtain ⟨b1, o1, c1', cs1, hv1, _, _, hb1, hr1, hl1, hcs1⟩ := sl_get h1' (by omega) k (Lst.d p1) (by rw [List.getElem?_map, hp1]; rfl)
    obtain ⟨b2, o2, c2', cs2, hv2, _, _, hb2, hr2, hl2, hcs2⟩ := sl_get h2' (by omega) k (Lst.d p2) (by rw [List.getElem?_map, hp2]; rfl)
    simp only [List.length_map, Value.slice.injEq] at hv1 hv2
    obtain ⟨rfl, _, rfl⟩ := hv1
    obtain ⟨rfl, _, rfl⟩ := hv2
    have HC : Hid (∀ w', Chg (fun _ => False) W w' → Calls Tryz.prog 23 #[.agg cs1.toArray, .agg cs2.toArray] w' fun e w'' => e = .returned (.bool (g p1 p2)) ∧ Chg (fun _ => False) w' w'') :=
     Lib.hid (fun w' hc => heq w' (hC.trans hc (fun _ h _ => h)) p1 hm1 p2 hm2 _ _ (hr1.stay hc (fun _ _ e => e)) (hr2.stay hc (fun _ _ e => e)))
    obtain ⟨x0, x1, x2, x3, x4, x5, rfl⟩ := lst_formF hr1
    obtain ⟨y0, y1, y2, y3, y4, y5, rfl⟩ := lst_formF hr2
    have ga0 := hcs1 0 _ rfl
    have gb0 := hcs2 0 _ rfl
    have ga1 := hcs1 1 _ rfl
    have gb1 := hcs2 1 _ rfl
    simp only [Nat.add_zero, Nat.mul_one, ← Nat.add_assoc] at ga0 gb0 ga1 gb1
    clear hp1 hp2 h1' h2' hr1 hr2 heq hm1 hm2 hcs1 hcs2
    have hlt2 : k < l2.length := by rw [← HL.out]; exact hlt
    have r0 : IntKind.i64.wrap ((k : Int) + 1) = (k : Int) + 1 := IntWalk.i64_in _ (by omega)
    have ab0 := fun O => ((Chg.refl (fun _ => False) W).alloc O).cell gb0 (fun e => e)
    have ab1 := fun O => ((Chg.refl (fun _ => False) W).alloc O).cell gb1 (fun e => e)
    clear gb0 gb1
    cases hk : g p1 p2
    case false =>
     rw [hk] at HC HB
     have hR0 : Hid (R = false) := Lib.hid (by rw [← HK.out, HB.out]; simp)
     go_wp2_with fail
     refine Calls.mono (HC.out _ (((Chg.refl (fun _ => False) _).alloc _).alloc _)) ?_
     rintro e w5 ⟨rfl, hC5⟩
     go_wp2
     go_ret
     exact ⟨by rw [hR0.out]; try rfl, (hC.trans (((Chg.refl (fun _ => False) _).alloc _).alloc _) (fun _ h _ => h)).trans hC5 (fun _ h _ => h)⟩
    case true =>
     rw [hk] at HC HB
     have hR0 : Hid (eqAll g (l1.drop (k + 1)) (l2.drop (k + 1)) = R) := Lib.hid (by rw [← HK.out, HB.out]; simp)
     go_wp2_with fail
     refine Calls.mono (HC.out _ (((Chg.refl (fun _ => False) _).alloc _).alloc _)) ?_
     rintro e w5 ⟨rfl, hC5⟩
     go_wp2
     go_roundg (l1.length - (k + 1))
     case measure => omega
     case rel => exact ⟨k + 1, by omega, rfl, (hC.trans (((Chg.refl (fun _ => False) _).alloc _).alloc _) (fun _ h _ => h)).trans hC5 (fun _ h _ => h), hR0⟩
   ·have hR0 : Hid (R = true) := Lib.hid (by
     rw [← HK.out, List.drop_eq_nil_of_le (by omega), List.drop_eq_nil_of_le (by rw [← HL.out]; omega)]; rfl)
    go_wp2
    go_ret
    exact ⟨by rw [hR0.out]; try rfl, hC⟩
 ·have t1 : ((l1.length : Int) != (l2.length : Int)) = true := by simp; omega
  go_enter Tryz.func22, Tryz.ntmps22
  go_wp2
  go_ret
  exact ⟨by rw [eqAll_length g l1 l2 hl]; try rfl, Chg.refl _ _⟩
theorem ops_all : ∀ a b : List Bytes, (a == b) = eqAll (fun x y => x == y) a b
 | [], [] => rfl
 | [], _ :: _ => rfl
 | _ :: _, [] => rfl
 | x :: a, y :: b => by
  rw [eqAll, ← ops_all a b]; rfl
abbrev opsD (os : List Bytes) : D := .sl 9 1 (os.map bytesD)
set_option maxRecDepth 100000 in
set_option maxHeartbeats 4000000 in
theorem ops_calls (w : World) (S1 S2 : Nat → Prop) (v1 v2 : Value) (l1 l2 : List Bytes) (h1 : Rep w S1 (opsD l1) [v1]) (h2 : Rep w S2 (opsD l2) [v2]) :
  Calls Tryz.prog 24 #[v1, v2] w fun e w' => e = .returned (.bool (l1 == l2)) ∧ ∃ m, w' = w.drewN m := by
 obtain ⟨B1, d1, rfl⟩ := sl_form2 h1
 obtain ⟨B2, d2, rfl⟩ := sl_form2 h2
 unfold opsD at h1 h2
 rw [List.length_map] at h1 h2
 have hx1 := rep_max h1
 rw [List.length_map] at hx1
 rw [List.length_map, List.length_map, ops_all]
 by_cases hl : l1.length = l2.length
 ·have t1 : ((l1.length : Int) != (l2.length : Int)) = false := by simp; omega
  generalize hR : eqAll (fun x y : Bytes => x == y) l1 l2 = R
  have HR := Lib.hid hR; clear hR
  have HL := Lib.hid hl; clear hl
  go_enter Tryz.func24, Tryz.ntmps24
  go_wp2
  go_loopg [13] l1.length (fun rk i wr => ∃ k : Nat, k + rk = l1.length ∧ i = .int .i64 k ∧ (∃ m, wr = w.drewN m) ∧ Hid (eqAll (fun x y : Bytes => x == y) (l1.drop k) (l2.drop k) = R))
  case atStart => exact ⟨0, by omega, rfl, ⟨0, rfl⟩, Lib.hid (by simpa using HR.out)⟩
  case round =>
   obtain ⟨k, hk, rfl, ⟨m, hm⟩, HK⟩ := hrel
   have hC : Chg (fun _ => False) w wr := by rw [hm]; exact (Chg.refl _ w).drewN m
   have h1' := h1.stay hC (fun _ _ e => e)
   have h2' := h2.stay hC (fun _ _ e => e)
   clear h1 h2 hC
   have HM := Lib.hid hm; clear hm
   by_cases hlt : k < l1.length
   ·obtain ⟨p1, hp1⟩ : ∃ p, l1[k]? = some p := ⟨l1[k], List.getElem?_eq_getElem hlt⟩
    obtain ⟨p2, hp2⟩ : ∃ p, l2[k]? = some p := ⟨l2[k]'(by rw [← HL.out]; exact hlt), List.getElem?_eq_getElem (by rw [← HL.out]; exact hlt)⟩
    have HB := Lib.hid (eqAll_drop (fun x y : Bytes => x == y) l1 l2 k p1 p2 hp1 hp2)
    obtain ⟨b1, o1, c1', cs1, hv1, _, _, hb1, hr1, hl1, hcs1⟩ := sl_get h1' (by omega) k (bytesD p1) (by rw [List.getElem?_map, hp1]; rfl)
    obtain ⟨b2, o2, c2', cs2, hv2, _, _, hb2, hr2, hl2, hcs2⟩ := sl_get h2' (by omega) k (bytesD p2) (by rw [List.getElem?_map, hp2]; rfl)
    simp only [List.length_map, Value.slice.injEq] at hv1 hv2
    obtain ⟨rfl, _, rfl⟩ := hv1
    obtain ⟨rfl, _, rfl⟩ := hv2
    have e1 : cs1 = [.string (bstr p1)] := hr1
    have e2 : cs2 = [.string (bstr p2)] := hr2
    subst e1 e2
    have ga := hcs1 0 _ rfl
    have gb := hcs2 0 _ rfl
    simp only [Nat.add_zero, Nat.mul_one, ← Nat.add_assoc] at ga gb
    clear hp1 hp2 h1' h2' hr1 hr2 hcs1 hcs2 hl1 hl2
    have hlt2 : k < l2.length := by rw [← HL.out]; exact hlt
    have r0 : IntKind.i64.wrap ((k : Int) + 1) = (k : Int) + 1 := IntWalk.i64_in _ (by omega)
    have hst : ((bstr p1).toList == (bstr p2).toList) = (p1 == p2) := by rw [ByteArray.toList_eq, ByteArray.toList_eq, bstr_toList, bstr_toList]
    revert hst ga gb
    generalize bstr p1 = xt1
    generalize bstr p2 = xt2
    intro ga gb hst
    cases hk2 : (p1 == p2)
    case false =>
     rw [hk2] at hst
     have hR0 : Hid (R = false) := Lib.hid (by rw [← HK.out, HB.out]; simp only [hk2]; rfl)
     go_wp2
     go_quiet (fail)
     go_wp2
     go_ret
     exact ⟨by rw [hR0.out]; try rfl, m + nq, by rw [HM.out, World.drewN_drewN]⟩
    case true =>
     rw [hk2] at hst
     have hR0 : Hid (eqAll (fun x y : Bytes => x == y) (l1.drop (k + 1)) (l2.drop (k + 1)) = R) := Lib.hid (by rw [← HK.out, HB.out]; simp only [hk2]; rfl)
     go_wp2
     go_quiet (fail)
     go_wp2
     go_roundg (gk - 1)
     case measure => omega
     case rel => exact ⟨k + 1, by omega, by go_num, ⟨m + nq, by rw [HM.out, World.drewN_drewN]⟩, hR0⟩
   ·have hR0 : Hid (R = true) := Lib.hid (by
     rw [← HK.out, List.drop_eq_nil_of_le (by omega), List.drop_eq_nil_of_le (by rw [← HL.out]; omega)]; rfl)
    go_wp2
    go_ret
    exact ⟨by rw [hR0.out]; try rfl, m, HM.out⟩
 ·have t1 : ((l1.length : Int) != (l2.length : Int)) = true := by simp; omega
  go_enter Tryz.func24, Tryz.ntmps24
  go_wp2
  go_ret
  exact ⟨by rw [eqAll_length _ l1 l2 hl]; try rfl, 0, rfl⟩
set_option maxRecDepth 100000 in
set_option maxHeartbeats 4000000 in
theorem words_same (w : World) (S1 S2 : Nat → Prop) (v1 v2 : Value) (a b : List (List Part)) (h1 : Rep w S1 (wordsD a) [v1]) (h2 : Rep w S2 (wordsD b) [v2]) :
  Calls Tryz.prog 43 #[v1, v2] w fun e w' => e = .returned (.bool (sameWords a b)) ∧ Chg (fun _ => False) w w' := by
 have hE := eqf_word beqs w S1 S2 v1 v2 a b h1 h2 (fun w' _ x _ y _ cs1 cs2 k1 k2 => by
  obtain ⟨u1, rfl, k1⟩ := rep_sl k1
  obtain ⟨u2, rfl, k2⟩ := rep_sl k2
  exact wsame_calls w' S1 S2 u1 u2 x y k1 k2)
 obtain ⟨B1, d1, rfl⟩ := sl_form2 h1
 obtain ⟨B2, d2, rfl⟩ := sl_form2 h2
 unfold sameWords
 generalize eqAll beqs a b = R at *
 simp only [List.length_map] at hE ⊢
 go_enter Tryz.func43, Tryz.ntmps43
 go_wp2_with fail
 refine Calls.mono hE ?_
 rintro e w1 ⟨rfl, hC⟩
 go_wp2
 go_ret
 exact ⟨rfl, hC⟩
set_option maxRecDepth 100000 in
set_option maxHeartbeats 4000000 in
theorem asg_same (w : World) (S1 S2 : Nat → Prop) (cs1 cs2 : List Value) (x y : Asg) (h1 : Rep w S1 x.d cs1) (h2 : Rep w S2 y.d cs2) :
  Calls Tryz.prog 45 #[.agg cs1.toArray, .agg cs2.toArray] w fun e w' => e = .returned (.bool (Asg.same x y)) ∧ Chg (fun _ => False) w w' := by
 obtain ⟨n1, p1⟩ := x
 obtain ⟨n2, p2⟩ := y
 obtain ⟨u1, rfl, k1⟩ := asg_rep.1 h1
 obtain ⟨u2, rfl, k2⟩ := asg_rep.1 h2
 clear h1 h2
 obtain ⟨A1, c1, rfl⟩ := sl_form2 k1
 obtain ⟨A2, c2, rfl⟩ := sl_form2 k2
 have HS : Hid (∀ w', Chg (fun _ => False) w w' → Calls Tryz.prog 46 #[.slice A1 (Part.ds p1).length c1, .slice A2 (Part.ds p2).length c2] w' fun e w'' => e = .returned (.bool (beqs p1 p2)) ∧ Chg (fun _ => False) w' w'') :=
  Lib.hid (fun w' hc => wsame_calls w' S1 S2 _ _ p1 p2 (k1.stay hc (fun _ _ e => e)) (k2.stay hc (fun _ _ e => e)))
 have hst : ((bstr n1).toList == (bstr n2).toList) = (n1 == n2) := by rw [ByteArray.toList_eq, ByteArray.toList_eq, bstr_toList, bstr_toList]
 have hR : Asg.same ⟨n1, p1⟩ ⟨n2, p2⟩ = (n1 == n2 && beqs p1 p2) := rfl
 rw [hR]
 clear hR k1 k2
 generalize bstr n1 = xt1 at *
 generalize bstr n2 = xt2 at *
 generalize beqs p1 p2 = bq at *
 cases hk : (n1 == n2)
 case false =>
  rw [hk] at hst
  go_enter Tryz.func45, Tryz.ntmps45
  go_wp2
  go_ret
  exact ⟨rfl, ((Chg.refl _ w).alloc _).alloc _⟩
 case true =>
  rw [hk] at hst
  go_enter Tryz.func45, Tryz.ntmps45
  go_wp2_with fail
  refine Calls.mono (HS.out _ (((Chg.refl _ w).alloc _).alloc _)) ?_
  rintro e w1 ⟨rfl, hC⟩
  go_wp2
  go_ret
  exact ⟨by simp, (((Chg.refl _ w).alloc _).alloc _).trans hC (fun _ h _ => h)⟩
set_option maxRecDepth 100000 in
set_option maxHeartbeats 4000000 in
theorem rdr_same (w : World) (S1 S2 : Nat → Prop) (cs1 cs2 : List Value) (x y : Rdr) (h1 : Rep w S1 x.d cs1) (h2 : Rep w S2 y.d cs2) :
  Calls Tryz.prog 48 #[.agg cs1.toArray, .agg cs2.toArray] w fun e w' => e = .returned (.bool (Rdr.same x y)) ∧ Chg (fun _ => False) w w' := by
 obtain ⟨f1, n1, p1⟩ := x
 obtain ⟨f2, n2, p2⟩ := y
 obtain ⟨u1, rfl, k1⟩ := rdr_rep.1 h1
 obtain ⟨u2, rfl, k2⟩ := rdr_rep.1 h2
 clear h1 h2
 obtain ⟨A1, c1, rfl⟩ := sl_form2 k1
 obtain ⟨A2, c2, rfl⟩ := sl_form2 k2
 have HS : Hid (∀ w', Chg (fun _ => False) w w' → Calls Tryz.prog 46 #[.slice A1 (Part.ds p1).length c1, .slice A2 (Part.ds p2).length c2] w' fun e w'' => e = .returned (.bool (beqs p1 p2)) ∧ Chg (fun _ => False) w' w'') :=
  Lib.hid (fun w' hc => wsame_calls w' S1 S2 _ _ p1 p2 (k1.stay hc (fun _ _ e => e)) (k2.stay hc (fun _ _ e => e)))
 have hst : ((bstr n1).toList == (bstr n2).toList) = (n1 == n2) := by rw [ByteArray.toList_eq, ByteArray.toList_eq, bstr_toList, bstr_toList]
 have hR : Rdr.same ⟨f1, n1, p1⟩ ⟨f2, n2, p2⟩ = (f1 == f2 && n1 == n2 && beqs p1 p2) := rfl
 rw [hR]
 clear hR k1 k2
 generalize bstr n1 = xt1 at *
 generalize bstr n2 = xt2 at *
 generalize beqs p1 p2 = bq at *
 cases hk0 : (f1 == f2)
 case false =>
  go_enter Tryz.func48, Tryz.ntmps48
  go_wp2
  go_ret
  exact ⟨rfl, ((Chg.refl _ w).alloc _).alloc _⟩
 case true =>
  cases hk : (n1 == n2)
  case false =>
   rw [hk] at hst
   go_enter Tryz.func48, Tryz.ntmps48
   go_wp2
   go_ret
   exact ⟨rfl, ((Chg.refl _ w).alloc _).alloc _⟩
  case true =>
   rw [hk] at hst
   go_enter Tryz.func48, Tryz.ntmps48
   go_wp2_with fail
   refine Calls.mono (HS.out _ (((Chg.refl _ w).alloc _).alloc _)) ?_
   rintro e w1 ⟨rfl, hC⟩
   go_wp2
   go_ret
   exact ⟨by simp, (((Chg.refl _ w).alloc _).alloc _).trans hC (fun _ h _ => h)⟩
theorem sl_formN {w : World} {S : Nat → Prop} {e sz : Nat} {xs : List D} {v : Value} (h : Rep w S (.sl e sz xs) [v]) : ∃ A n c, v = .slice A n c := by
 obtain ⟨A, c, rfl⟩ := sl_form2 h
 exact ⟨_, _, _, rfl⟩
def PSame (n : Nat) : Prop := ∀ (w : World) (S1 S2 : Nat → Prop) (v1 v2 : Value) (a b : List Lst), SizeOf.sizeOf a < n → Rep w S1 (.sl 39 2 (Lst.ds a)) [v1] → Rep w S2 (.sl 39 2 (Lst.ds b)) [v2] →
 Calls Tryz.prog 14 #[v1, v2] w fun e w' => e = .returned (.bool (sameLs a b)) ∧ Chg (fun _ => False) w w'
def CSame (n : Nat) : Prop := ∀ (w : World) (S1 S2 : Nat → Prop) (cs1 cs2 : List Value) (x y : Cmd), SizeOf.sizeOf x < n → Rep w S1 x.d cs1 → Rep w S2 y.d cs2 →
 Calls Tryz.prog 28 #[.agg cs1.toArray, .agg cs2.toArray] w fun e w' => e = .returned (.bool (Cmd.same x y)) ∧ Chg (fun _ => False) w w'
set_option maxRecDepth 100000 in
set_option maxHeartbeats 4000000 in
theorem cas_same (n : Nat) (IH : PSame n) (w : World) (S1 S2 : Nat → Prop) (cs1 cs2 : List Value) (x y : Cas) (hn : SizeOf.sizeOf x < n + 1) (h1 : Rep w S1 x.d cs1) (h2 : Rep w S2 y.d cs2) :
  Calls Tryz.prog 50 #[.agg cs1.toArray, .agg cs2.toArray] w fun e w' => e = .returned (.bool (Cas.same x y)) ∧ Chg (fun _ => False) w w' := by
 obtain ⟨p1, b1⟩ := x
 obtain ⟨p2, b2⟩ := y
 obtain ⟨u1, v1, rfl, k1, m1⟩ := cas_rep.1 h1
 obtain ⟨u2, v2, rfl, k2, m2⟩ := cas_rep.1 h2
 clear h1 h2
 simp only [Cas.mk.sizeOf_spec] at hn
 have HW : Hid (∀ w', Chg (fun _ => False) w w' → Calls Tryz.prog 43 #[u1, u2] w' fun e w'' => e = .returned (.bool (sameWords p1 p2)) ∧ Chg (fun _ => False) w' w'') :=
  Lib.hid (fun w' hc => words_same w' S1 S2 _ _ p1 p2 (k1.stay hc (fun _ _ e => e)) (k2.stay hc (fun _ _ e => e)))
 have HB : Hid (∀ w', Chg (fun _ => False) w w' → Calls Tryz.prog 14 #[v1, v2] w' fun e w'' => e = .returned (.bool (sameLs b1 b2)) ∧ Chg (fun _ => False) w' w'') :=
  Lib.hid (fun w' hc => IH w' S1 S2 _ _ b1 b2 (by omega) (m1.stay hc (fun _ _ e => e)) (m2.stay hc (fun _ _ e => e)))
 obtain ⟨A1, l1, c1, rfl⟩ := sl_formN k1
 obtain ⟨A2, l2, c2, rfl⟩ := sl_formN k2
 obtain ⟨A3, l3, c3, rfl⟩ := sl_formN m1
 obtain ⟨A4, l4, c4, rfl⟩ := sl_formN m2
 rw [Cas.same]
 clear k1 k2 m1 m2 hn IH
 generalize sameWords p1 p2 = bw at *
 generalize sameLs b1 b2 = bb at *
 go_enter Tryz.func50, Tryz.ntmps50
 go_wp2_with fail
 have hC0 : Chg (fun _ => False) w ((w.alloc (.cells #[.slice A1 l1 c1, .slice A3 l3 c3] 77)).alloc (.cells #[.slice A2 l2 c2, .slice A4 l4 c4] 77)) := ((Chg.refl _ w).alloc _).alloc _
 have hra0 := row_alloc (row_new w (.cells #[.slice A1 l1 c1, .slice A3 l3 c3] 77)) (.cells #[.slice A2 l2 c2, .slice A4 l4 c4] 77)
 have hrb0 := row_new (w.alloc (.cells #[.slice A1 l1 c1, .slice A3 l3 c3] 77)) (.cells #[.slice A2 l2 c2, .slice A4 l4 c4] 77)
 rw [World.size_alloc] at hrb0
 generalize (w.alloc (.cells #[.slice A1 l1 c1, .slice A3 l3 c3] 77)).alloc (.cells #[.slice A2 l2 c2, .slice A4 l4 c4] 77) = W at *
 have hca := row_cells hra0
 have hcb := row_cells hrb0
 refine Calls.mono (HW.out _ hC0) ?_
 rintro e w1 ⟨rfl, hC⟩
 clear hca hcb
 have hC1 := hC0.trans hC (fun _ h _ => h)
 have hra1 := row_chg hra0 hC (fun e => e)
 have hrb1 := row_chg hrb0 hC (fun e => e)
 have hca := row_cells hra1
 have hcb := row_cells hrb1
 clear hC hC0 hra0 hrb0
 cases bw
 case false =>
  go_wp2
  go_ret
  exact ⟨rfl, hC1⟩
 case true =>
  go_wp2_with fail
  refine Calls.mono (HB.out _ hC1) ?_
  rintro e w2 ⟨rfl, hC⟩
  go_wp2
  go_ret
  exact ⟨by simp, hC1.trans hC (fun _ h _ => h)⟩
set_option maxRecDepth 100000 in
set_option maxHeartbeats 8000000 in
theorem cmd_same (n : Nat) (IH : PSame n) : CSame (n + 1) := by
 intro w S1 S2 cs1 cs2 x y hn h1 h2
 obtain ⟨k1, n1, xs1, ws1, co1, bo1, ot1, ca1, rs1⟩ := x
 obtain ⟨k2, n2, xs2, ws2, co2, bo2, ot2, ca2, rs2⟩ := y
 obtain ⟨a1, a2, a3, a4, a5, a6, a7, rfl, r1, r2, r3, r4, r5, r6, r7⟩ := cmd_rep.1 h1
 obtain ⟨b1, b2, b3, b4, b5, b6, b7, rfl, s1, s2, s3, s4, s5, s6, s7⟩ := cmd_rep.1 h2
 clear h1 h2
 simp only [Cmd.mk.sizeOf_spec] at hn
 have HWs : Hid (∀ w', Chg (fun _ => False) w w' → Calls Tryz.prog 43 #[a2, b2] w' fun e w'' => e = .returned (.bool (sameWords ws1 ws2)) ∧ Chg (fun _ => False) w' w'') :=
  Lib.hid (fun w' hc => words_same w' S1 S2 _ _ ws1 ws2 (r2.stay hc (fun _ _ e => e)) (s2.stay hc (fun _ _ e => e)))
 have HCo : Hid (∀ w', Chg (fun _ => False) w w' → Calls Tryz.prog 14 #[a3, b3] w' fun e w'' => e = .returned (.bool (sameLs co1 co2)) ∧ Chg (fun _ => False) w' w'') :=
  Lib.hid (fun w' hc => IH w' S1 S2 _ _ co1 co2 (by omega) (r3.stay hc (fun _ _ e => e)) (s3.stay hc (fun _ _ e => e)))
 have HBo : Hid (∀ w', Chg (fun _ => False) w w' → Calls Tryz.prog 14 #[a4, b4] w' fun e w'' => e = .returned (.bool (sameLs bo1 bo2)) ∧ Chg (fun _ => False) w' w'') :=
  Lib.hid (fun w' hc => IH w' S1 S2 _ _ bo1 bo2 (by omega) (r4.stay hc (fun _ _ e => e)) (s4.stay hc (fun _ _ e => e)))
 have HOt : Hid (∀ w', Chg (fun _ => False) w w' → Calls Tryz.prog 14 #[a5, b5] w' fun e w'' => e = .returned (.bool (sameLs ot1 ot2)) ∧ Chg (fun _ => False) w' w'') :=
  Lib.hid (fun w' hc => IH w' S1 S2 _ _ ot1 ot2 (by omega) (r5.stay hc (fun _ _ e => e)) (s5.stay hc (fun _ _ e => e)))
 have HAs : Hid (∀ w', Chg (fun _ => False) w w' → Calls Tryz.prog 44 #[a1, b1, .func (.func 45) #[] #[]] w' fun e w'' => e = .returned (.bool (eqAll Asg.same xs1 xs2)) ∧ Chg (fun _ => False) w' w'') :=
  Lib.hid (fun w' hc => eqf_asg Asg.same w' S1 S2 _ _ xs1 xs2 (r1.stay hc (fun _ _ e => e)) (s1.stay hc (fun _ _ e => e)) (fun w'' _ x _ y _ cs1 cs2 k1 k2 => asg_same w'' S1 S2 cs1 cs2 x y k1 k2))
 have HRs : Hid (∀ w', Chg (fun _ => False) w w' → Calls Tryz.prog 47 #[a7, b7, .func (.func 48) #[] #[]] w' fun e w'' => e = .returned (.bool (eqAll Rdr.same rs1 rs2)) ∧ Chg (fun _ => False) w' w'') :=
  Lib.hid (fun w' hc => eqf_rdr Rdr.same w' S1 S2 _ _ rs1 rs2 (r7.stay hc (fun _ _ e => e)) (s7.stay hc (fun _ _ e => e)) (fun w'' _ x _ y _ cs1 cs2 k1 k2 => rdr_same w'' S1 S2 cs1 cs2 x y k1 k2))
 have HCa : Hid (∀ w', Chg (fun _ => False) w w' → Calls Tryz.prog 49 #[a6, b6, .func (.func 50) #[] #[]] w' fun e w'' => e = .returned (.bool (sameCas ca1 ca2)) ∧ Chg (fun _ => False) w' w'') :=
  Lib.hid (fun w' hc => by
   rw [sameCas_all]
   rw [Cas.ds_map] at r6 s6
   exact eqf_cas Cas.same w' S1 S2 _ _ ca1 ca2 (r6.stay hc (fun _ _ e => e)) (s6.stay hc (fun _ _ e => e)) (fun w'' _ x hx y _ cs1 cs2 k1 k2 => cas_same n IH w'' S1 S2 cs1 cs2 x y (by
    have := List.sizeOf_lt_of_mem hx
    omega) k1 k2))
 obtain ⟨A1, l1, c1, rfl⟩ := sl_formN r1
 obtain ⟨A2, l2, c2, rfl⟩ := sl_formN r2
 obtain ⟨A3, l3, c3, rfl⟩ := sl_formN r3
 obtain ⟨A4, l4, c4, rfl⟩ := sl_formN r4
 obtain ⟨A5, l5, c5, rfl⟩ := sl_formN r5
 obtain ⟨A6, l6, c6, rfl⟩ := sl_formN r6
 obtain ⟨A7, l7, c7, rfl⟩ := sl_formN r7
 obtain ⟨B1, m1, d1, rfl⟩ := sl_formN s1
 obtain ⟨B2, m2, d2, rfl⟩ := sl_formN s2
 obtain ⟨B3, m3, d3, rfl⟩ := sl_formN s3
 obtain ⟨B4, m4, d4, rfl⟩ := sl_formN s4
 obtain ⟨B5, m5, d5, rfl⟩ := sl_formN s5
 obtain ⟨B6, m6, d6, rfl⟩ := sl_formN s6
 obtain ⟨B7, m7, d7, rfl⟩ := sl_formN s7
 clear r1 r2 r3 r4 r5 r6 r7 s1 s2 s3 s4 s5 s6 s7 IH hn
 have hst : ((bstr n1).toList == (bstr n2).toList) = (n1 == n2) := by rw [ByteArray.toList_eq, ByteArray.toList_eq, bstr_toList, bstr_toList]
 rw [Cmd.same]
 generalize bstr n1 = xt1 at *
 generalize bstr n2 = xt2 at *
 generalize sameWords ws1 ws2 = bws at *
 generalize sameLs co1 co2 = bco at *
 generalize sameLs bo1 bo2 = bbo at *
 generalize sameLs ot1 ot2 = bot at *
 generalize eqAll Asg.same xs1 xs2 = bas at *
 generalize eqAll Rdr.same rs1 rs2 = brs at *
 generalize sameCas ca1 ca2 = bca at *
 cases hk : (k1 == k2)
 case false =>
  have hk2 : (k1 != k2) = true := by simpa using hk
  go_enter Tryz.func28, Tryz.ntmps28
  go_wp2
  go_ret
  exact ⟨rfl, ((Chg.refl _ w).alloc _).alloc _⟩
 case true =>
  have hk2 : (k1 != k2) = false := by simpa using hk
  cases hnm : (n1 == n2)
  case false =>
   rw [hnm] at hst
   go_enter Tryz.func28, Tryz.ntmps28
   go_wp2
   go_ret
   exact ⟨rfl, ((Chg.refl _ w).alloc _).alloc _⟩
  case true =>
   rw [hnm] at hst
   go_enter Tryz.func28, Tryz.ntmps28
   go_wp2_with fail
   have hC0 : Chg (fun _ => False) w ((w.alloc (.cells #[.int .i64 k1, .string xt1, .slice A1 l1 c1, .slice A2 l2 c2, .slice A3 l3 c3, .slice A4 l4 c4, .slice A5 l5 c5, .slice A6 l6 c6, .slice A7 l7 c7] 49)).alloc (.cells #[.int .i64 k2, .string xt2, .slice B1 m1 d1, .slice B2 m2 d2, .slice B3 m3 d3, .slice B4 m4 d4, .slice B5 m5 d5, .slice B6 m6 d6, .slice B7 m7 d7] 49)) := ((Chg.refl _ w).alloc _).alloc _
   have hra0 := row_alloc (row_new w (.cells #[.int .i64 k1, .string xt1, .slice A1 l1 c1, .slice A2 l2 c2, .slice A3 l3 c3, .slice A4 l4 c4, .slice A5 l5 c5, .slice A6 l6 c6, .slice A7 l7 c7] 49)) (.cells #[.int .i64 k2, .string xt2, .slice B1 m1 d1, .slice B2 m2 d2, .slice B3 m3 d3, .slice B4 m4 d4, .slice B5 m5 d5, .slice B6 m6 d6, .slice B7 m7 d7] 49)
   have hrb0 := row_new (w.alloc (.cells #[.int .i64 k1, .string xt1, .slice A1 l1 c1, .slice A2 l2 c2, .slice A3 l3 c3, .slice A4 l4 c4, .slice A5 l5 c5, .slice A6 l6 c6, .slice A7 l7 c7] 49)) (.cells #[.int .i64 k2, .string xt2, .slice B1 m1 d1, .slice B2 m2 d2, .slice B3 m3 d3, .slice B4 m4 d4, .slice B5 m5 d5, .slice B6 m6 d6, .slice B7 m7 d7] 49)
   rw [World.size_alloc] at hrb0
   generalize (w.alloc (.cells #[.int .i64 k1, .string xt1, .slice A1 l1 c1, .slice A2 l2 c2, .slice A3 l3 c3, .slice A4 l4 c4, .slice A5 l5 c5, .slice A6 l6 c6, .slice A7 l7 c7] 49)).alloc (.cells #[.int .i64 k2, .string xt2, .slice B1 m1 d1, .slice B2 m2 d2, .slice B3 m3 d3, .slice B4 m4 d4, .slice B5 m5 d5, .slice B6 m6 d6, .slice B7 m7 d7] 49) = W at *
   have hca := row_cells hra0
   have hcb := row_cells hrb0
   refine Calls.mono (HWs.out _ hC0) ?_
   rintro e w1 ⟨rfl, hC⟩
   clear hca hcb hst hk hk2 hnm
   have hC1 := hC0.trans hC (fun _ h _ => h)
   have hra1 := row_chg hra0 hC (fun e => e)
   have hrb1 := row_chg hrb0 hC (fun e => e)
   have hca := row_cells hra1
   have hcb := row_cells hrb1
   clear hC hC0 hra0 hrb0
   cases bws
   case false =>
    go_wp2
    go_ret
    exact ⟨by simp, hC1⟩
   case true =>
    go_wp2_with fail
    refine Calls.mono (HCo.out _ hC1) ?_
    rintro e w2 ⟨rfl, hC⟩
    clear hca hcb
    have hC2 := hC1.trans hC (fun _ h _ => h)
    have hra2 := row_chg hra1 hC (fun e => e)
    have hrb2 := row_chg hrb1 hC (fun e => e)
    have hca := row_cells hra2
    have hcb := row_cells hrb2
    clear hC hC1 hra1 hrb1
    cases bco
    case false =>
     go_wp2
     go_ret
     exact ⟨by simp, hC2⟩
    case true =>
     go_wp2_with fail
     refine Calls.mono (HBo.out _ hC2) ?_
     rintro e w3 ⟨rfl, hC⟩
     clear hca hcb
     have hC3 := hC2.trans hC (fun _ h _ => h)
     have hra3 := row_chg hra2 hC (fun e => e)
     have hrb3 := row_chg hrb2 hC (fun e => e)
     have hca := row_cells hra3
     have hcb := row_cells hrb3
     clear hC hC2 hra2 hrb2
     cases bbo
     case false =>
      go_wp2
      go_ret
      exact ⟨by simp, hC3⟩
     case true =>
      go_wp2_with fail
      refine Calls.mono (HOt.out _ hC3) ?_
      rintro e w4 ⟨rfl, hC⟩
      clear hca hcb
      have hC4 := hC3.trans hC (fun _ h _ => h)
      have hra4 := row_chg hra3 hC (fun e => e)
      have hrb4 := row_chg hrb3 hC (fun e => e)
      have hca := row_cells hra4
      have hcb := row_cells hrb4
      clear hC hC3 hra3 hrb3
      cases bot
      case false =>
       go_wp2
       go_ret
       exact ⟨by simp, hC4⟩
      case true =>
       go_wp2_with fail
       refine Calls.mono (HAs.out _ hC4) ?_
       rintro e w5 ⟨rfl, hC⟩
       clear hca hcb
       have hC5 := hC4.trans hC (fun _ h _ => h)
       have hra5 := row_chg hra4 hC (fun e => e)
       have hrb5 := row_chg hrb4 hC (fun e => e)
       have hca := row_cells hra5
       have hcb := row_cells hrb5
       clear hC hC4 hra4 hrb4
       go_wp2_with fail
       refine Calls.mono (HRs.out _ hC5) ?_
       rintro e w6 ⟨rfl, hC⟩
       clear hca hcb
       have hC6 := hC5.trans hC (fun _ h _ => h)
       have hra6 := row_chg hra5 hC (fun e => e)
       have hrb6 := row_chg hrb5 hC (fun e => e)
       have hca := row_cells hra6
       have hcb := row_cells hrb6
       clear hC hC5 hra5 hrb5
       cases bas
       case false =>
        go_wp2
        go_ret
        exact ⟨by simp, hC6⟩
       case true =>
        cases brs
        case false =>
         go_wp2
         go_ret
         exact ⟨by simp, hC6⟩
        case true =>
         go_wp2_with fail
         refine Calls.mono (HCa.out _ hC6) ?_
         rintro e w7 ⟨rfl, hC⟩
         go_wp2
         go_ret
         exact ⟨by simp, hC6.trans hC (fun _ h _ => h)⟩
set_option maxRecDepth 100000 in
set_option maxHeartbeats 4000000 in
theorem pip_same (n : Nat) (IH : CSame n) (w : World) (S1 S2 : Nat → Prop) (cs1 cs2 : List Value) (x y : Pip) (hn : SizeOf.sizeOf x < n + 1) (h1 : Rep w S1 x.d cs1) (h2 : Rep w S2 y.d cs2) :
  Calls Tryz.prog 26 #[.agg cs1.toArray, .agg cs2.toArray] w fun e w' => e = .returned (.bool (Pip.same x y)) ∧ Chg (fun _ => False) w w' := by
 obtain ⟨g1, l1⟩ := x
 obtain ⟨g2, l2⟩ := y
 obtain ⟨v1, rfl, m1⟩ := pip_rep.1 h1
 obtain ⟨v2, rfl, m2⟩ := pip_rep.1 h2
 clear h1 h2
 simp only [Pip.mk.sizeOf_spec] at hn
 have HB : Hid (∀ w', Chg (fun _ => False) w w' → Calls Tryz.prog 27 #[v1, v2, .func (.func 28) #[] #[]] w' fun e w'' => e = .returned (.bool (sameCmds l1 l2)) ∧ Chg (fun _ => False) w' w'') :=
  Lib.hid (fun w' hc => by
   rw [sameCmds_all]
   rw [Cmd.ds_map] at m1 m2
   exact eqf_cmd Cmd.same w' S1 S2 _ _ l1 l2 (m1.stay hc (fun _ _ e => e)) (m2.stay hc (fun _ _ e => e)) (fun w'' _ x hx y _ cs1 cs2 k1 k2 => IH w'' S1 S2 cs1 cs2 x y (by
    have := List.sizeOf_lt_of_mem hx
    omega) k1 k2))
 obtain ⟨A3, l3, c3, rfl⟩ := sl_formN m1
 obtain ⟨A4, l4, c4, rfl⟩ := sl_formN m2
 rw [Pip.same]
 clear m1 m2 hn IH
 generalize sameCmds l1 l2 = bb at *
 cases hg : (g1 == g2)
 case false =>
  go_enter Tryz.func26, Tryz.ntmps26
  go_wp2
  go_ret
  exact ⟨rfl, ((Chg.refl _ w).alloc _).alloc _⟩
 case true =>
  go_enter Tryz.func26, Tryz.ntmps26
  go_wp2_with fail
  refine Calls.mono (HB.out _ (((Chg.refl _ w).alloc _).alloc _)) ?_
  rintro e w2 ⟨rfl, hC⟩
  go_wp2
  go_ret
  exact ⟨by simp, (((Chg.refl _ w).alloc _).alloc _).trans hC (fun _ h _ => h)⟩
set_option maxRecDepth 100000 in
set_option maxHeartbeats 4000000 in
theorem lst_same (n : Nat) (IH : CSame n) (w : World) (S1 S2 : Nat → Prop) (cs1 cs2 : List Value) (x y : Lst) (hn : SizeOf.sizeOf x < n + 1) (h1 : Rep w S1 x.d cs1) (h2 : Rep w S2 y.d cs2) :
  Calls Tryz.prog 23 #[.agg cs1.toArray, .agg cs2.toArray] w fun e w' => e = .returned (.bool (Lst.same x y)) ∧ Chg (fun _ => False) w w' := by
 obtain ⟨p1, o1⟩ := x
 obtain ⟨p2, o2⟩ := y
 obtain ⟨v1, u1, rfl, m1, k1⟩ := lst_rep.1 h1
 obtain ⟨v2, u2, rfl, m2, k2⟩ := lst_rep.1 h2
 clear h1 h2
 simp only [Lst.mk.sizeOf_spec] at hn
 have HW : Hid (∀ w', Chg (fun _ => False) w w' → Calls Tryz.prog 24 #[u1, u2] w' fun e w'' => e = .returned (.bool (o1 == o2)) ∧ Chg (fun _ => False) w' w'') :=
  Lib.hid (fun w' hc => (ops_calls w' S1 S2 _ _ o1 o2 (k1.stay hc (fun _ _ e => e)) (k2.stay hc (fun _ _ e => e))).mono (fun _ _ hh => ⟨hh.1, by obtain ⟨m, rfl⟩ := hh.2; exact (Chg.refl _ _).drewN m⟩))
 have HB : Hid (∀ w', Chg (fun _ => False) w w' → Calls Tryz.prog 25 #[v1, v2, .func (.func 26) #[] #[]] w' fun e w'' => e = .returned (.bool (samePips p1 p2)) ∧ Chg (fun _ => False) w' w'') :=
  Lib.hid (fun w' hc => by
   rw [samePips_all]
   rw [Pip.ds_map] at m1 m2
   exact eqf_pip Pip.same w' S1 S2 _ _ p1 p2 (m1.stay hc (fun _ _ e => e)) (m2.stay hc (fun _ _ e => e)) (fun w'' _ x hx y _ cs1 cs2 k1 k2 => pip_same n IH w'' S1 S2 cs1 cs2 x y (by
    have := List.sizeOf_lt_of_mem hx
    omega) k1 k2))
 obtain ⟨A1, l1, c1, rfl⟩ := sl_formN k1
 obtain ⟨A2, l2, c2, rfl⟩ := sl_formN k2
 obtain ⟨A3, l3, c3, rfl⟩ := sl_formN m1
 obtain ⟨A4, l4, c4, rfl⟩ := sl_formN m2
 rw [Lst.same]
 clear k1 k2 m1 m2 hn IH
 generalize (o1 == o2) = bw at *
 generalize samePips p1 p2 = bb at *
 go_enter Tryz.func23, Tryz.ntmps23
 go_wp2_with fail
 have hC0 : Chg (fun _ => False) w ((w.alloc (.cells #[.slice A3 l3 c3, .slice A1 l1 c1] 39)).alloc (.cells #[.slice A4 l4 c4, .slice A2 l2 c2] 39)) := ((Chg.refl _ w).alloc _).alloc _
 have hra0 := row_alloc (row_new w (.cells #[.slice A3 l3 c3, .slice A1 l1 c1] 39)) (.cells #[.slice A4 l4 c4, .slice A2 l2 c2] 39)
 have hrb0 := row_new (w.alloc (.cells #[.slice A3 l3 c3, .slice A1 l1 c1] 39)) (.cells #[.slice A4 l4 c4, .slice A2 l2 c2] 39)
 rw [World.size_alloc] at hrb0
 generalize (w.alloc (.cells #[.slice A3 l3 c3, .slice A1 l1 c1] 39)).alloc (.cells #[.slice A4 l4 c4, .slice A2 l2 c2] 39) = W at *
 have hca := row_cells hra0
 have hcb := row_cells hrb0
 refine Calls.mono (HW.out _ hC0) ?_
 rintro e w1 ⟨rfl, hC⟩
 clear hca hcb
 have hC1 := hC0.trans hC (fun _ h _ => h)
 have hra1 := row_chg hra0 hC (fun e => e)
 have hrb1 := row_chg hrb0 hC (fun e => e)
 have hca := row_cells hra1
 have hcb := row_cells hrb1
 clear hC hC0 hra0 hrb0
 cases bw
 case false =>
  go_wp2
  go_ret
  exact ⟨rfl, hC1⟩
 case true =>
  go_wp2_with fail
  refine Calls.mono (HB.out _ hC1) ?_
  rintro e w2 ⟨rfl, hC⟩
  go_wp2
  go_ret
  exact ⟨by simp, hC1.trans hC (fun _ h _ => h)⟩
set_option maxRecDepth 100000 in
set_option maxHeartbeats 4000000 in
theorem ps_step (n : Nat) (IH : CSame n) : PSame n := by
 intro w S1 S2 v1 v2 a b hn h1 h2
 rw [Lst.ds_map] at h1 h2
 have hE := eqf_lst Lst.same w S1 S2 v1 v2 a b h1 h2 (fun w'' _ x hx y _ cs1 cs2 k1 k2 => lst_same n IH w'' S1 S2 cs1 cs2 x y (by
  have := List.sizeOf_lt_of_mem hx
  omega) k1 k2)
 obtain ⟨A3, l3, c3, rfl⟩ := sl_formN h1
 obtain ⟨A4, l4, c4, rfl⟩ := sl_formN h2
 rw [sameLs_all]
 generalize eqAll Lst.same a b = R at *
 clear h1 h2
 go_enter Tryz.func14, Tryz.ntmps14
 go_wp2_with fail
 refine Calls.mono hE ?_
 rintro e w1 ⟨rfl, hC⟩
 go_wp2
 go_ret
 exact ⟨rfl, hC⟩
theorem csame_all : ∀ n, CSame n
 | 0 => fun _ _ _ _ _ _ _ h => absurd h (Nat.not_lt_zero _)
 | n + 1 => cmd_same n (ps_step n (csame_all n))
theorem psame_calls (w : World) (S1 S2 : Nat → Prop) (v1 v2 : Value) (a b : List Lst) (h1 : Rep w S1 (.sl 39 2 (Lst.ds a)) [v1]) (h2 : Rep w S2 (.sl 39 2 (Lst.ds b)) [v2]) :
  Calls Tryz.prog 14 #[v1, v2] w fun e w' => e = .returned (.bool (sameLs a b)) ∧ Chg (fun _ => False) w w' :=
 ps_step _ (csame_all (SizeOf.sizeOf a + 1)) w S1 S2 v1 v2 a b (Nat.lt_succ_self _) h1 h2
theorem WV.row {b : Nat} {v : Value} {x : Wr} {w : World} (h : WV b v x w) : w.cell? ⟨b, 2, none⟩ = some (.bool x.bad) ∧ w.frozen? ⟨b, 2, none⟩ = false := by
 obtain ⟨p, _, hh, _, _⟩ := h
 exact ⟨row_cells hh 2, row_free hh 2⟩
theorem WV.setBad {b : Nat} {v : Value} {x : Wr} {w : World} (h : WV b v x w) (bad : Bool) : WV b v ⟨x.out, bad⟩ (w.setCell ⟨b, 2, none⟩ (.bool bad)) := by
 obtain ⟨p, hp, hh, ho, hn⟩ := h
 exact ⟨p, hp, row_set hh 2 (.bool bad), ownsRow_block ho (fun k hk => Below.heap_setCell w _ _ k (fun e => hn (by rw [hk, e]))), hn⟩
theorem chg_bad {b : Nat} {v : Value} (w : World) (u : Value) : Chg (fun k => k = b ∨ some k = v.ownBlock) w (w.setCell ⟨b, 2, none⟩ u) := (Chg.refl _ w).setCell (fun _ => .inl rfl) _
theorem chg_up {b : Nat} {v : Value} {w w' : World} (h : Chg (fun _ => False) w w') : Chg (fun k => k = b ∨ some k = v.ownBlock) w w' := h.mono (fun _ e _ => e.elim)
theorem stay_wr {b : Nat} {v : Value} {x : Wr} {w w' : World} {d : D} {cs : List Value} (h : Rep w (fun k => k < b) d cs) (hv : WV b v x w) (hc : Chg (fun k => k = b ∨ some k = v.ownBlock) w w') : Rep w' (fun k => k < b) d cs :=
 h.stay hc (fun k hk e => by
  rcases e with e | e
  ·omega
  ·have := (hv.own k e.symm).1; omega)
theorem hm_wr {b : Nat} {v : Value} {x : Wr} {w w' : World} (h : HM w) (hb : 0 < b) (hv : WV b v x w) (hc : Chg (fun k => k = b ∨ some k = v.ownBlock) w w') : HM w' :=
 h.stay hc (fun e => by
  rcases e with e | e
  ·omega
  ·have := (hv.own 0 e.symm).1; omega)
theorem word_end (b : Nat) (v : Value) (x : Wr) (w w1 : World) (h : WV b v x w1) (hC : Chg (fun k => k = b ∨ some k = v.ownBlock) w w1) (bad : Bool) (s : Bytes) (hlen : x.out.length + s.length ≤ 1000000) :
  Calls Tryz.prog 32 #[.pointer (some ⟨b, 0, none⟩), .slice (some ⟨w1.heap.size, 0, none⟩) 1 1] ((w1.setCell ⟨b, 2, none⟩ (.bool bad)).alloc (.cells #[.string (bstr s)] 9)) fun e w' => e = .returned (.tuple #[]) ∧ Wrt b v ⟨x.out ++ s, bad⟩ w w' := by
 have hW := h.setBad bad
 have hC2 : Chg (fun k => k = b ∨ some k = v.ownBlock) w (w1.setCell ⟨b, 2, none⟩ (.bool bad)) := hC.trans (chg_bad w1 _) (fun k h _ => h)
 have hP := put_new b v ⟨x.out, bad⟩ [s] 1 1 _ _ rfl rfl hW (by simp only [flat, List.append_nil]; omega) (by simp)
 have hs : (w1.setCell ⟨b, 2, none⟩ (.bool bad)).heap.size = w1.heap.size := by simp
 rw [hs] at hP
 refine Calls.mono hP ?_
 rintro e w3 ⟨rfl, hp⟩
 refine ⟨rfl, ?_⟩
 have hp2 := Wrt.next hC2 (.inl rfl) hp
 simpa only [flat, Wr.put, List.append_nil] using hp2
set_option maxRecDepth 100000 in
set_option maxHeartbeats 4000000 in
theorem wword_calls (b : Nat) (v : Value) (x : Wr) (w : World) (vl : Value) (l : List Part) (h : WV b v x w) (hb : 0 < b) (hm : HM w) (hg : Part.wts l ≤ 20000) (hlen : x.out.length + 8 * Part.wts l ≤ 1000000)
  (hr : Rep w (fun k => k < b) (wordD l) [vl]) :
  Calls Tryz.prog 66 #[.pointer (some ⟨b, 0, none⟩), vl] w fun e w' => e = .returned (.tuple #[]) ∧ Wrt b v (x.word l) w w' := by
 have hP := print_calls w _ vl l hg hm hr
 have hpl := printW_len l
 obtain ⟨A, n, c, rfl⟩ := sl_formN hr
 generalize hrr : printW l = r at *
 have hr : Hid (x.word l = ⟨x.out ++ sOf r, x.bad || (sOf r).isEmpty⟩) := Lib.hid (by rw [Wr.word, hrr])
 clear hrr
 go_enter Tryz.func66, Tryz.ntmps66
 go_wp2_with fail
 refine Calls.mono hP ?_
 rintro e w1 ⟨rfl, hC⟩
 have hW1 := h.keep hC
 have hC1 : Chg (fun k => k = b ∨ some k = v.ownBlock) w w1 := chg_up hC
 obtain ⟨hcb, hfb⟩ := hW1.row
 have hbl := hW1.lt
 clear hP hC
 cases hbad : x.bad with
 | true =>
  rw [hbad] at hcb
  cases r with
  | none =>
   simp only [strOf, errOf, sOf, Option.getD_none, Option.getD_some] at hpl hr ⊢
   have HE := Lib.hid (word_end b v x w w1 hW1 hC1 true [] (by first | omega | (simp; omega)))
   have hbs : bstr ([] : Bytes) = ⟨#[]⟩ := rfl; rw [hbs] at HE
   go_wp2_with fail
   refine Calls.mono HE.out ?_
   clear HE
   rintro e w3 ⟨rfl, hP⟩
   go_wp2
   go_end0
   refine ⟨rfl, ?_⟩
   rw [hr.out]
   simpa [hbad] using hP
  | some s =>
   simp only [strOf, errOf, sOf, Option.getD_none, Option.getD_some] at hpl hr ⊢
   have HE := Lib.hid (word_end b v x w w1 hW1 hC1 true s (by first | omega | (simp; omega)))
   skip
   go_wp2_with fail
   refine Calls.mono HE.out ?_
   clear HE
   rintro e w3 ⟨rfl, hP⟩
   go_wp2
   go_end0
   refine ⟨rfl, ?_⟩
   rw [hr.out]
   simpa [hbad] using hP
 | false =>
  rw [hbad] at hcb
  cases r with
  | none =>
   simp only [strOf, errOf, sOf, Option.getD_none, Option.getD_some] at hpl hr ⊢
   have HE := Lib.hid (word_end b v x w w1 hW1 hC1 true [] (by first | omega | (simp; omega)))
   have hbs : bstr ([] : Bytes) = ⟨#[]⟩ := rfl; rw [hbs] at HE
   go_wp2_with fail
   refine Calls.mono HE.out ?_
   clear HE
   rintro e w3 ⟨rfl, hP⟩
   go_wp2
   go_end0
   refine ⟨rfl, ?_⟩
   rw [hr.out]
   simpa [hbad] using hP
  | some s =>
   simp only [strOf, errOf, sOf, Option.getD_none, Option.getD_some] at hpl hr ⊢
   cases s with
   | nil =>
    have hst : (bstr []).toList = [] := by rw [ByteArray.toList_eq, bstr_toList]
    have HE := Lib.hid (word_end b v x w w1 hW1 hC1 true [] (by first | omega | (simp; omega)))
    have hbs : bstr ([] : Bytes) = ⟨#[]⟩ := rfl; rw [hbs] at HE
    go_wp2_with fail
    refine Calls.mono HE.out ?_
    clear HE
    rintro e w3 ⟨rfl, hP⟩
    go_wp2
    go_end0
    refine ⟨rfl, ?_⟩
    rw [hr.out]
    simpa [hbad] using hP
   | cons c0 s0 =>
    generalize hs : c0 :: s0 = s at *
    have hst : (bstr s).toList.isEmpty = false := by rw [ByteArray.toList_eq, bstr_toList, ← hs]; rfl
    have hse : s.isEmpty = false := by rw [← hs]; rfl
    have hst2 : ((bstr s).toList == []) = false := by rw [ByteArray.toList_eq, bstr_toList, ← hs]; rfl
    rw [hse] at hr
    clear hs
    have HE := Lib.hid (word_end b v x w w1 hW1 hC1 false s (by first | omega | (simp; omega)))
    skip
    go_wp2_with fail
    refine Calls.mono HE.out ?_
    clear HE
    rintro e w3 ⟨rfl, hP⟩
    go_wp2
    go_end0
    refine ⟨rfl, ?_⟩
    rw [hr.out]
    simpa [hbad] using hP
theorem put_two (b : Nat) (v : Value) (x : Wr) (s t : Bytes) (w : World) (h : WV b v x w) (hlen : x.out.length + (s.length + t.length) ≤ 1000000) :
  Calls Tryz.prog 32 #[.pointer (some ⟨b, 0, none⟩), .slice (some ⟨w.heap.size, 0, none⟩) 2 2] (w.alloc (.cells #[.string (bstr s), .string (bstr t)] 9)) fun e w' => e = .returned (.tuple #[]) ∧ Wrt b v (x.put (s ++ t)) w w' := by
 have hP := put_new b v x [s, t] 2 2 _ w rfl rfl h (by simp [flat]; omega) (by simp)
 rw [show flat [s, t] = s ++ t by simp [flat]] at hP
 exact hP
set_option maxRecDepth 100000 in
set_option maxHeartbeats 4000000 in
theorem wredir_calls (b : Nat) (v : Value) (x : Wr) (w : World) (r : Rdr) (cs : List Value) (h : WV b v x w) (hb : 0 < b) (hm : HM w) (hg : r.great ≤ 20000) (hfd : -9223372036854775808 ≤ r.fd ∧ r.fd ≤ 9223372036854775807) (hlen : x.out.length + 21 + 8 * r.great ≤ 1000000)
  (hr : Rep w (fun k => k < b) (Rdr.d r) cs) :
  Calls Tryz.prog 68 #[.pointer (some ⟨b, 0, none⟩), .agg cs.toArray] w fun e w' => e = .returned (.tuple #[]) ∧ Wrt b v (x.redir r) w w' := by
 obtain ⟨fd, o, wd⟩ := r
 obtain ⟨vw, rfl, hw⟩ := rdr_rep.1 hr
 simp only [Rdr.great] at hg hlen hfd
 have hnl := numT_len fd
 have hN : Hid (∀ w', Calls Tryz.prog 82 #[.int .i64 fd] w' fun e w'' => e = .returned (.string (bstr (numT fd))) ∧ Chg (fun _ => False) w' w'') := Lib.hid (fun w' => num_calls fd hfd w')
 have hPU : Hid (∀ w1, Chg (fun _ => False) w w1 → Calls Tryz.prog 32 #[.pointer (some ⟨b, 0, none⟩), .slice (some ⟨w1.heap.size, 0, none⟩) 2 2] (w1.alloc (.cells #[.string (bstr (numT fd)), .string (bstr o)] 9)) fun e w' => e = .returned (.tuple #[]) ∧ Wrt b v (x.put (numT fd ++ o)) w1 w') :=
  Lib.hid (fun w1 hc => put_two b v x _ _ w1 (h.keep hc) (by omega))
 have hXb : w.heap.size ≠ b := by have := h.lt; omega
 have hXv : ∀ k, some k = v.ownBlock → w.heap.size ≠ k := fun k e => by have := (h.own k e.symm).2; omega
 have hWO : Hid (∀ w2 v2, WV b v2 (x.put (numT fd ++ o)) w2 → Chg (fun k => k = b ∨ some k = v.ownBlock) w w2 → Calls Tryz.prog 66 #[.pointer (some ⟨b, 0, none⟩), vw] w2 fun e w' => e = .returned (.tuple #[]) ∧ Wrt b v2 (x.redir ⟨fd, o, wd⟩) w2 w') :=
  Lib.hid (fun w2 v2 hW hc => wword_calls b v2 _ w2 vw wd hW hb (hm_wr hm hb h hc) (by omega) (by simp [Wr.put]; omega) (stay_wr hw h hc))
 have HX := Lib.hid (show ¬ (w.heap.size = b ∨ some w.heap.size = v.ownBlock) from fun e => e.elim hXb (fun e => hXv _ e rfl)); clear hXb hXv
 clear hr hw h hm hnl hlen hg hfd
 generalize bstr (numT fd) = nb at *
 generalize x.put (numT fd ++ o) = x1 at *
 generalize x.redir ⟨fd, o, wd⟩ = x2 at *
 generalize bstr o = ob at *
 go_enter Tryz.func68, Tryz.ntmps68
 go_wp2_with fail
 have hC0 : Chg (fun _ => False) w (w.alloc (.cells #[.int .i64 fd, .string ob, vw] 75)) := (Chg.refl (fun _ => False) w).alloc _
 have hcl := row_cells (row_new w (.cells #[.int .i64 fd, .string ob, vw] 75))
 have y0 := hcl 0
 have y1 := hcl 1
 have y2 := hcl 2
 simp only [List.getElem?_toArray, List.getElem?_cons_succ, List.getElem?_cons_zero] at y0 y1 y2
 clear hcl
 generalize w.alloc (.cells #[.int .i64 fd, .string ob, vw] 75) = w1 at *
 generalize w.heap.size = X at *
 go_region_held3 (fun w' => w'.cell? ⟨X, 0, none⟩ = some (.int .i64 fd) ∧ w'.cell? ⟨X, 1, none⟩ = some (.string ob)) (first | go_keep | exact HK.out) (first
  | (go_at_call 82; refine Calls.mono (hN.out _) ?_; rintro e w2 ⟨rfl, hC2⟩; have HK := Lib.hid (And.intro (hC2.cell y0 (fun e => e)) (hC2.cell y1 (fun e => e))))
  | (go_at_call 32; refine Calls.mono (hPU.out _ ((hC0.drewN 1).trans hC2 (fun _ h _ => h))) ?_; rintro e w3 ⟨rfl, v2, hW2, hC3, hO2⟩; have z2 := hC3.cell (hC2.cell y2 (fun e => e)) HX.out; have HK := Lib.hid (And.intro (hC3.cell HK.out.1 HX.out) (hC3.cell HK.out.2 HX.out))))
 all_goals
  have hC4 : Chg (fun k => k = b ∨ some k = v.ownBlock) w w3 := (chg_up ((hC0.drewN 1).trans hC2 (fun _ h _ => h))).trans hC3 (fun k h _ => h)
  have HW := Lib.hid (hWO.out w3 v2 hW2 hC4)
  clear hWO
  go_wp2_with fail
  refine Calls.mono HW.out ?_
  rintro e w4 ⟨rfl, hP4⟩
  go_wp2
  go_end0
  refine ⟨rfl, ?_⟩
  have hO3 : v2.ownBlock = v.ownBlock ∨ ∃ g, v2.ownBlock = some g ∧ w.heap.size ≤ g := by
   rcases hO2 with e | ⟨g, e, hg⟩
   ·exact .inl e
   ·exact .inr ⟨g, e, by have := ((hC0.drewN 1).trans hC2 (fun _ h _ => h)).size; omega⟩
  exact Wrt.next hC4 hO3 hP4
end Go.Proofs.YtdfnkmiabmjolaaGreatDoor
