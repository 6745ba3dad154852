/- Walks of package word: its smallest functions. And what stands with it. -/
import Derived.Test.YtdfnkmiabmjolaaGreatDoorJ1
import Derived.Test.YtdfnkmiabmjolaaGreatDoorProg
import Derived.Deep.QuietTactic
import Derived.BigQuiet
import Derived.WalkLawsBesides
set_option linter.unusedVariables false
set_option linter.unusedSimpArgs false
namespace Go.Proofs.YtdfnkmiabmjolaaGreatDoor
open Go.RowKit
def ScanAt (w : World) (g : Nat) (s : ByteArray) (at_ deep : Int) : Prop := w.heap[g]? = some (.cells #[.string s, .int .i64 at_, .int .i64 deep] 137 (0, 0))
theorem fail_calls (g : Nat) (a e : Int) (w : World) :
  Calls Tryz.prog 110 #[.pointer (some ⟨g, 0, none⟩), .int .i64 a, .int .i64 e] w fun en w' => en = .panicked [{ v := .iface 134 (.agg #[.int .i64 a, .int .i64 e]), recovered := false }] ∧ w = w' := by
 go_enter Tryz.func110, Tryz.ntmps110
 go_wp2
 exact ⟨rfl, rfl, rfl⟩
theorem lit_calls (s : ByteArray) (q : Bool) (w : World) :
  Calls Tryz.prog 112 #[.string s, .bool q] w fun en w' => en = .returned (.agg #[.int .i64 1, .bool q, .string s, .string ⟨#[]⟩, .slice none 0 0]) ∧ Below w.heap.size w w' := by
 go_enter Tryz.func112, Tryz.ntmps112
 go_wp2
 refine bodyPost_ret (v := .agg #[.int .i64 1, .bool q, .string s, .string ⟨#[]⟩, .slice none 0 0]) (by simp [results, Tryz.results112, go_sem]) rfl ⟨rfl, (Below.refl _ _).alloc (Nat.le_refl _) _⟩
theorem info_Part : (Tryz.prog.info? 103).map (fun i => (i.zero, i.size, i.bytes)) = some (some (.agg #[.int .i64 0, .bool false, .string ⟨#[]⟩, .string ⟨#[]⟩, .slice none 0 0]), 5, 72) := by kernel_rfl
def AtOr (v v1 : Value) (w : World) : Prop := v1.ownBlock = v.ownBlock ∨ ∃ b, v1.ownBlock = some b ∧ w.heap.size ≤ b
set_option maxRecDepth 100000 in
set_option maxHeartbeats 2000000 in
theorem add_merge (w : World) (g m c : Nat) (hm : m ≤ 1000000) (q : Bool) (t t' o : ByteArray) (wv : Value)
  (hk : w.cell? ⟨g, m * 5, none⟩ = some (.int .i64 1)) (hq : w.cell? ⟨g, m * 5 + 1, none⟩ = some (.bool q)) (ht : w.cell? ⟨g, m * 5 + 2, none⟩ = some (.string t'))
  (hf : w.frozen? ⟨g, m * 5 + 2, none⟩ = false) (hg : g < w.heap.size) (hs : t.size ≤ 1000000) (hs' : t'.size ≤ 1000000) :
  Calls Tryz.prog 111 #[.slice (some ⟨g, 0, none⟩) (m + 1) c, .agg #[.int .i64 1, .bool q, .string t, .string o, wv]] w fun en w' =>
   en = .returned (.slice (some ⟨g, 0, none⟩) (m + 1) c) ∧ ∃ k, ((w.alloc (.cells #[.int .i64 1, .bool q, .string t, .string o, wv] 103)).drewN k).setCell ⟨g, m * 5 + 2, none⟩ (.string (t' ++ t)) = w' := by
 go_enter Tryz.func111, Tryz.ntmps111
 go_wp2
 go_quiet (fail)
 go_wp2
 have hw : IntKind.i64.wrap (↑m : Int) = ↑m := IntWalk.i64_in _ (by omega)
 have h0 : (0 : Int) ≤ (m : Int) := by omega
 have h1 : (m : Int) < (m : Int) + 1 := by omega
 have h2 : ¬ (9223372036854775807 < t'.size + t.size) := by omega
 refine still_tail2 11 (by kernel_rfl) (by kernel_rfl) ?_
 simp only [List.take_succ_cons, List.take_zero, List.drop_succ_cons, List.drop_zero]
 repeat still_step
 refine wpStill_nil ?_
 clear hw h0 h1
 go_wp2
 go_ret
 exact ⟨rfl, _, rfl⟩
theorem add_nil (w : World) (S S2 : Nat → Prop) (A : Option Addr) (c : Nat) (HO : Own w S 103 5 (.slice A 0 c) []) (k : Int) (q : Bool) (t o : ByteArray) (wv : Value) (d : D)
  (hd : Rep w S2 d [.int .i64 k, .bool q, .string t, .string o, wv]) (h2 : ∀ k, S2 k → k < w.heap.size → S k ∧ some k ≠ (Value.slice A 0 c).ownBlock) :
  Calls Tryz.prog 111 #[.slice A 0 c, .agg #[.int .i64 k, .bool q, .string t, .string o, wv]] w fun en w' =>
   ∃ v1, en = .returned v1 ∧ Own w' (fun k => S k ∨ w.heap.size ≤ k) 103 5 v1 [d] ∧ Chg (fun k => some k = (Value.slice A 0 c).ownBlock) w w' ∧ AtOr (Value.slice A 0 c) v1 w := by
 go_enter Tryz.func111, Tryz.ntmps111
 go_wp2
 go_quiet (fail)
 go_wp2_with (at_builtin; refine own_append S (fun k => S2 k ∧ k < w.heap.size) rfl _ _ _ _ _ 5 72 rfl Tryz.underlying70 info_Part rfl (by decide) (by decide) (.slice A 0 c) [] d _ rfl (by simp [Act.eval]) ?hd1 rfl ?hS1 ?hO1 ?hl1 ?_)
 case hd1 => exact Rep.move (Same.of_alloc _ _) (fun _ h _ => h) _ _ hd.bound
 case hS1 => exact fun k hk _ => h2 k hk.1 hk.2
 case hO1 => exact HO.move (Same.of_alloc _ _) (fun _ h _ => h)
 case hl1 => decide
 intro v1 w1 hown1 hg1 hat1
 go_wp2
 go_ret
 exact ⟨v1, rfl, hown1.mono (fun k h _ => h.imp id (fun h => by first | omega | (simp at h; omega))), (((Chg.refl _ _).alloc _).drewN _).trans (Chg.of_grown hg1) (fun k e _ => e), hat1.imp id (fun ⟨b, h, hl⟩ => ⟨b, h, by first | omega | (simp at hl; omega)⟩)⟩
theorem add_snoc_calls (w : World) (S S2 : Nat → Prop) (v : Value) (xs : List D) (g m c : Nat) (hv : v = .slice (some ⟨g, 0, none⟩) (m + 1) c) (hx : xs.length = m + 1) (HO : Own w S 103 5 v xs) (hm : m ≤ 1000000)
  (k k' : Int) (q q' : Bool) (t o : ByteArray) (wv : Value) (d : D) (hd : Rep w S2 d [.int .i64 k, .bool q, .string t, .string o, wv]) (h2 : ∀ k, S2 k → k < w.heap.size → S k ∧ k ≠ g)
  (hk : w.cell? ⟨g, m * 5, none⟩ = some (.int .i64 k')) (hq : w.cell? ⟨g, m * 5 + 1, none⟩ = some (.bool q')) (hg : g < w.heap.size)
  (hne : (k == 1) = false ∨ (k == 1) = true ∧ (k' == 1) = false ∨ (k == 1) = true ∧ (k' == 1) = true ∧ (q' == q) = false) :
  Calls Tryz.prog 111 #[v, .agg #[.int .i64 k, .bool q, .string t, .string o, wv]] w fun en w' =>
   ∃ v1, en = .returned v1 ∧ Own w' (fun k => S k ∨ w.heap.size ≤ k) 103 5 v1 (xs ++ [d]) ∧ Chg (fun k => k = g) w w' ∧ AtOr v v1 w := by
 subst hv
 rcases hne with h | ⟨h, h'⟩ | ⟨h, h', h''⟩
 all_goals
  go_enter Tryz.func111, Tryz.ntmps111
  go_wp2
  go_quiet (fail)
  go_wp2_with (at_builtin; refine own_append S (fun k => (S2 k) ∧ k < w.heap.size) rfl _ _ _ _ _ 5 72 rfl Tryz.underlying70 info_Part rfl (by decide) (by decide) (.slice (some ⟨g, 0, none⟩) (m + 1) c) xs d _ rfl (by simp [Act.eval]) (Rep.move (Same.of_alloc _ _) (fun _ h _ => h) _ _ hd.bound) rfl (fun k hk _ => ⟨(h2 k hk.1 hk.2).1, by simp [Value.ownBlock]; exact (h2 k hk.1 hk.2).2⟩) (HO.move (Same.of_alloc _ _) (fun _ h _ => h)) (by omega) ?_)
  intro v1 w1 hown1 hg1 hat1
  go_wp2
  go_ret
  exact ⟨v1, rfl, hown1.mono (fun k h _ => h.imp id (fun h => by first | omega | (simp at h; omega))), (((Chg.refl _ _).alloc _).drewN _).trans (Chg.of_grown hg1) (fun k e _ => by simpa [Value.ownBlock] using e), hat1.imp id (fun ⟨b, h, hl⟩ => ⟨b, h, by first | omega | (simp at hl; omega)⟩)⟩
theorem own_last {w : World} {S : Nat → Prop} {v : Value} {i : List Part} {m : Part} (h : Own w S 103 5 v (Part.ds (i ++ [m]))) :
  ∃ g c, v = .slice (some ⟨g, 0, none⟩) (i.length + 1) c ∧ S g ∧ g < w.heap.size ∧ w.cell? ⟨g, i.length * 5, none⟩ = some (.int .i64 m.kind) ∧ w.cell? ⟨g, i.length * 5 + 1, none⟩ = some (.bool m.quoted) ∧
   w.cell? ⟨g, i.length * 5 + 2, none⟩ = some (.string (bstr m.text)) ∧ (∀ j, w.frozen? ⟨g, j, none⟩ = false) := by
 obtain ⟨g, c, cs, rfl, hS, hle, hmax, hc, hf, hlt, hr⟩ := h.cells (by simp [Part.ds_append, Part.ds])
 obtain ⟨c0, hr0, hl0, h0⟩ := RepE.get hr i.length m.d (by simp [Part.ds_append, Part.ds, Part.ds_length])
 obtain ⟨k, q, tx, o, wd⟩ := m
 obtain ⟨wv, rfl, _⟩ := part_rep.1 hr0
 refine ⟨g, c, by simp [Part.ds_length], hS, hlt, ?_, ?_, ?_, hf⟩
 ·exact hc _ _ (h0 0 _ rfl)
 ·exact hc _ _ (h0 1 _ rfl)
 ·exact hc _ _ (h0 2 _ rfl)
theorem add_calls (w : World) (S S2 : Nat → Prop) (v : Value) (l : List Part) (p : Part) (cs : List Value) (HO : Own w S 103 5 v (Part.ds l)) (hp : Rep w S2 p.d cs)
  (h2 : ∀ k, S2 k → k < w.heap.size → S k ∧ some k ≠ v.ownBlock) (hw : Part.wts l + p.wt ≤ 1000000) :
  Calls Tryz.prog 111 #[v, .agg cs.toArray] w fun en w' =>
   ∃ v1, en = .returned v1 ∧ Own w' (fun k => S k ∨ w.heap.size ≤ k) 103 5 v1 (Part.ds (add l p)) ∧ Chg (fun k => some k = v.ownBlock) w w' ∧ AtOr v v1 w := by
 obtain ⟨k, q, t, o, wd⟩ := p
 obtain ⟨wv, rfl, hwv⟩ := part_rep.1 hp
 rcases snoc_cases l with rfl | ⟨i, m, rfl⟩
 ·obtain ⟨A, c, rfl, _, _⟩ := HO.form
  refine (add_nil w S S2 A c HO k q _ _ wv _ hp h2).mono ?_
  rintro e w' ⟨v1, rfl, h, hc, hat⟩
  exact ⟨v1, rfl, by simpa [add, Part.ds] using h, hc, hat⟩
 ·obtain ⟨g, c, rfl, hS, hlt, hk, hq, ht, hf⟩ := own_last HO
  have hlen := Part.length_le (i ++ [m])
  simp only [List.length_append, List.length_singleton] at hlen
  have hwm := Part.wts_append i [m]
  obtain ⟨k', q', t', o', wd'⟩ := m
  simp only [Part.wts, Part.wt, Nat.add_zero] at hwm hw
  simp only [Part.kind, Part.quoted, Part.text] at hk hq ht
  by_cases hc : (k == 1 && k' == 1 && q' == q) = true
  ·have hc' := hc
   simp only [Bool.and_eq_true, beq_iff_eq] at hc'
   obtain ⟨⟨rfl, rfl⟩, rfl⟩ := hc'
   refine (add_merge w g i.length c (by omega) q' (bstr t) (bstr t') (bstr o) wv hk hq ht (hf _) hlt (by rw [bstr_size]; omega) (by rw [bstr_size]; omega)).mono ?_
   rintro e w' ⟨rfl, n, rfl⟩
   refine ⟨_, rfl, ?_, ?_, .inl rfl⟩
   ·have h1 : Own ((w.alloc (.cells #[.int .i64 1, .bool q', .string (bstr t), .string (bstr o), wv] 103)).drewN n) (fun k => S k ∨ w.heap.size ≤ k) 103 5 (.slice (some ⟨g, 0, none⟩) (i.length + 1) c) (Part.ds (i ++ [.mk 1 q' t' o' wd'])) := HO.move (Same.of_alloc _ _) (fun _ h _ => .inl h)
    have h3 := h1.put i.length (Part.d (.mk 1 q' t' o' wd')) (Part.d (.mk 1 q' (t' ++ t) o' wd')) (by simp [Part.ds_append, Part.ds, Part.ds_length]) 2 (.string (bstr t' ++ bstr t)) (by omega) (fun S' c0 hr _ => by
     obtain ⟨v0, rfl, h0⟩ := part_rep.1 hr
     exact part_rep.2 ⟨v0, by simp [bstr_append], h0⟩) (g := g) rfl
    rw [add_snoc]
    simp only [Part.kind, Part.quoted, Part.text, Part.op, Part.word, beq_self_eq_true, Bool.and_true, if_true]
    have e1 : (Part.ds (i ++ [.mk 1 q' t' o' wd'])).set i.length (Part.d (.mk 1 q' (t' ++ t) o' wd')) = Part.ds (i ++ [.mk 1 q' (t' ++ t) o' wd']) := by
     simp [Part.ds_append, Part.ds, List.set_append, Part.ds_length]
    rwa [e1] at h3
   ·exact (((Chg.refl _ _).alloc _).drewN _).setCell (fun _ => by simp [Value.ownBlock]) _
  ·have hc' : (k == 1 && k' == 1 && q' == q) = false := by simpa using hc
   refine (add_snoc_calls w S S2 _ (Part.ds (i ++ [.mk k' q' t' o' wd'])) g i.length c rfl (by simp [Part.ds_length]) HO (by omega) k k' q q' _ _ wv _ hp (fun k h hl => ⟨(h2 k h hl).1, fun e => (h2 k h hl).2 (by simp [Value.ownBlock, e])⟩) hk hq hlt ?_).mono ?_
   ·revert hc'; cases (k == 1) <;> cases (k' == 1) <;> cases (q' == q) <;> simp
   ·rintro e w' ⟨v1, rfl, h, hc, hat⟩
    refine ⟨v1, rfl, ?_, hc.mono (fun k e _ => by simp [Value.ownBlock, e]), hat⟩
    rw [add_snoc]
    simp only [Part.kind, Part.quoted, hc']
    simpa [Part.ds_append, Part.ds] using h
end Go.Proofs.YtdfnkmiabmjolaaGreatDoor
